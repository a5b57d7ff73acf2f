/- A region whose order is open: the head in any order. -/
import Derived.Test.YtmacghaihlfcpaaGreatL7
namespace Go.Proofs.YtmacghaihlfcpaaGreat.Abs
noncomputable section
open Go Go.ChangeShapes Go.WideShapes Go.ChangeAt Go.RowKit
set_option linter.unusedVariables false
set_option linter.unusedSimpArgs false

def lf (listed : Array Bool) : Nat → Bool := fun i => listed.getD i false
/-- how things stand when the listed operations of the head have been carried out -/
structure JJ3 (M : Nat → Prop) (G0 : Gh) (w0 : World) (A : Array Oper) (n : Nat) (S : (Nat → Bool) → List Ob) (T : (Nat → Bool) → List Nat) (fr : List AV) (val : Nat → AV) (listed : Array Bool) (a : Act) (w : World) : Prop where
  g : ∃ G, Ext M G0 w0 G w ∧ Sim M G (S (lf listed)) w ∧
    (∀ i d, i < n → listed.getD i false = true → (A[i]?).bind (·.dst) = some d → VR M G w (clearMark (T (lf listed)) (val i)) (a.tmps.getD d undef)) ∧
    (∀ t, (∀ i, i < n → listed.getD i false = true → (A[i]?).bind (·.dst) ≠ some t) → VR M G w (clearMark (T (lf listed)) (fr.getD t .undef)) (a.tmps.getD t undef))
  defers : a.defers = []
  size : a.tmps.size = fr.length
/-- the operation i when these are listed -/
structure Adm (A : Array Oper) (n i : Nat) (L : Nat → Bool) : Prop where
  un : L i = false
  anc : ∀ j, ancB A A.size i j = true → L j = true
  dec : ∀ j, ancB A A.size j i = true → L j = false
  out : ∀ j, n ≤ j → L j = false
/-- an operation that makes an object -/
def HNew (P : Program) (A : Array Oper) (o : Oper) (fr : List AV) (nb : Nat) (cs : List AV) (t : TypeId) : Prop := t ≠ mapT ∧ belows nb cs = true ∧ (∀ a ∈ cs, a.mark = none) ∧ ∀ M G w s a, Sim M G s w → FR M G w (aForget (readsOf A o) fr) a →
  ∃ vs : List Value, vs.length = cs.length ∧ (∀ (k : Nat) (x : AV) (u : Value), cs[k]? = some x → vs[k]? = some u → VR M G w x u) ∧ (execOp a.eval o).run P w = .ok (.value (.pointer (some ⟨w.heap.size, 0, none⟩))) (w.alloc (.cells vs.toArray t))
/-- it speaks of no new object but of those that are made ahead of i -/
def Bd (A : Array Oper) (nb K : Nat) (wr : Nat → Option HW) (i : Nat) (x : AV) : Prop := ∃ m, nb ≤ m ∧ m ≤ nb + K ∧ x.refs m = true ∧ ∀ j idx cs t, wr j = some (.alloc idx cs t) → m ≤ idx ∨ ancB A A.size i j = true
/-- what is known of the head's operation i -/
def HF3 (P : Program) (A : Array Oper) (n nb K : Nat) (s0 : List Ob) (wr : Nat → Option HW) (fr : List AV) (val : Nat → AV) (ts : Nat → List Nat) (sv : Nat → List Ob) (i : Nat) (o : Oper) : Prop :=
  (∀ L, Adm A n i L → WkS (SR wr s0 K n L n) (sv i)) ∧
  (∀ j, j < n → j ≠ i → ancB A A.size j i = false → ∀ t ∈ HW.ts (wr j), t ∈ ts i) ∧
  ((aWanted A (clearMarks (ts i) (frAt A fr val i)) o = some false ∧ val i = .tuple [] ∧ wr i = none) ∨
  (aWanted A (clearMarks (ts i) (frAt A fr val i)) o = some true ∧ match wr i with
    | none => Bd A nb K wr i (val i) ∧ HPure P A o (clearMarks (ts i) (frAt A fr val i)) (sv i) (val i)
    | some (.alloc idx cs t) => HNew P A o (clearMarks (ts i) (frAt A fr val i)) nb cs t ∧ val i = .ref idx 0 ∧ nb ≤ idx ∧ idx < nb + K ∧ (∀ j idx' cs' t', j ≠ i → wr j = some (.alloc idx' cs' t') → idx' ≠ idx) ∧ (∀ j ob, wr j = some (.store idx ob) → ancB A A.size j i = true)
    | some (.store idx ob) => Bd A nb K wr i (val i) ∧ belows nb ob.cs = true ∧ HWrite P A o (clearMarks (ts i) (frAt A fr val i)) (sv i) idx ob (val i) ∧ (∀ j, i < j → j < n → (∀ s, effS (wr j) s = s) ∨ ancB A A.size j i = true)
    | some (.app t') => Bd A nb K wr i (val i) ∧ HApp P A o (clearMarks (ts i) (frAt A fr val i)) t' (val i) ∧ (∀ j, i < j → j < n → (∀ s, effS (wr j) s = s) ∨ ancB A A.size j i = true)))
theorem absS_refs (n : Nat) (v : Value) : (absS v).refs n = true := by
  cases v <;> simp only [absS] <;> (repeat' split) <;> simp [AV.refs, belows]
theorem absS_list (n : Nat) : ∀ l : List Value, belows n (l.map absS) = true
  | [] => rfl
  | v :: l => by simp only [List.map_cons, belows, absS_refs n v, absS_list n l, Bool.and_self]
theorem zeroCells_spec {P : Program} {t : TypeId} {cs : List AV} (h : zeroCells P t = some cs) : ∃ (i : TypeInfo) (z : Value), P.info? t = some i ∧ i.zero = some z ∧ t ≠ mapT ∧ cs = z.cells.toList.map absS := by
  unfold zeroCells at h
  split at h
  · cases h
  rename_i hnm
  split at h
  · rename_i i hi
    cases hz : i.zero with
    | none => rw [hz] at h; cases h
    | some z => rw [hz] at h; simp at h; exact ⟨i, z, hi, hz, hnm, h.symm⟩
  · cases h
theorem HNew_zero {P : Program} {A : Array Oper} {o : Oper} {fr : List AV} {nb : Nat} {cs : List AV} {t : TypeId} (ho : o.op = .alloc t) (hz : zeroCells P t = some cs) : HNew P A o fr nb cs t := by
  obtain ⟨inf, z, hz1, hz2, htm, rfl⟩ := zeroCells_spec hz
  refine ⟨htm, absS_list _ _, fun x hx => ?_, fun M G w s a _ _ => ⟨z.cells.toList, by simp, fun k x u h1 h2 => ?_, by simp [execOp, ho, Instr.alloc, zeroValue, typeInfo, hz1, hz2, newVar, newRow]⟩⟩
  · obtain ⟨u, _, rfl⟩ := List.mem_map.1 hx
    exact absS_mark u
  · rw [List.getElem?_map, h2] at h1
    simp at h1
    subst h1
    exact ⟨absS_VR0 G w u, OwnC.of_plain (absS_mark u)⟩
theorem HNew_box {P : Program} {A : Array Oper} {o : Oper} {fr : List AV} {nb : Nat} {cs : List AV} {t : TypeId} {x : Operand} (ht : t ≠ mapT) (ho : o.op = .box t x) (hx : aCells (aEval fr x) = some cs) (hb : belows nb cs = true) (hm : ∀ a ∈ cs, a.mark = none) : HNew P A o fr nb cs t := by
  refine ⟨ht, hb, hm, fun M G w s a hS hf => ?_⟩
  have e : aEval (aForget (readsOf A o) fr) x = aEval fr x := aEval_forget (by simp [ho, Op.operands])
  obtain ⟨h1, h2⟩ := aCells_spec (by rw [e]; exact hx) (hf.eval x)
  exact ⟨_, h1, h2, by simp [execOp, ho, Instr.box, newVar, newRow]⟩
theorem AV.refs_clear {nb : Nat} {ts : List Nat} {a : AV} (h : a.refs nb = true) : (clearMark ts a).refs nb = true := by
  rcases clearMark_cases ts a with e | ⟨e, -⟩
  · rw [e]; exact h
  · rw [e]
    clear e
    cases a <;> try exact h
    rename_i cs k g
    cases g <;> exact h
theorem belows_clear {nb : Nat} {ts : List Nat} : ∀ {cs : List AV}, belows nb cs = true → belows nb (cs.map (clearMark ts)) = true
  | [], _ => rfl
  | a :: cs, h => by
    simp only [belows, Bool.and_eq_true, List.map_cons] at h ⊢
    exact ⟨AV.refs_clear h.1, belows_clear h.2⟩
theorem Belows.set {nb : Nat} {s : List Ob} (h : Belows nb s) (i : Nat) {ob : Ob} (hb : belows nb ob.cs = true) : Belows nb (s.set i ob) := by
  intro j o hj hl
  rw [List.getElem?_set] at hj
  split at hj
  · have : ob = o := by
      split at hj
      · simpa using hj
      · cases hj
    subst this
    exact hb
  · exact h j o hj hl
theorem Belows.clear {nb : Nat} {s : List Ob} (h : Belows nb s) (ts : List Nat) : Belows nb (clearStore ts s) := by
  intro j o hj hl
  obtain ⟨o', h1, rfl⟩ := clearStore_get hj
  exact belows_clear (h j o' h1 hl)
theorem SR_belows {P : Program} {wr : Nat → Option HW} {s0 : List Ob} {K n nb : Nat} {L : Nat → Bool} (h0 : Belows nb s0) (ha : ∀ j idx cs t, j < n → wr j = some (.alloc idx cs t) → belows nb cs = true) (hs : ∀ j idx ob, j < n → wr j = some (.store idx ob) → belows nb ob.cs = true) : ∀ m, m ≤ n → Belows nb (SR wr s0 K n L m) := by
  have hb : ∀ m, m ≤ n → Belows nb (baseR wr s0 K L m) := by
    intro m
    induction m with
    | zero =>
      intro _ j o hj hl
      simp only [baseR] at hj
      rw [List.getElem?_append] at hj
      split at hj
      · exact h0 j o hj hl
      · rw [List.getElem?_replicate] at hj
        split at hj
        · cases hj; cases hl
        · cases hj
    | succ m ih =>
      intro hm
      have ih := ih (by omega)
      simp only [baseR]
      split
      · rename_i idx cs t hw
        split
        · exact ih.set _ (ha m idx cs t (by omega) hw)
        · exact ih
      · exact ih
  intro m
  induction m with
  | zero => intro _; exact hb n (Nat.le_refl _)
  | succ m ih =>
    intro hm
    have ih := ih (by omega)
    simp only [SR]
    split
    · cases hw : wr m with
      | none => exact ih
      | some w =>
        cases w with
        | alloc => exact ih
        | store idx ob => exact ih.set _ (hs m idx ob (by omega) hw)
        | app ts => exact ih.clear ts
    · exact ih

theorem tsR_congr {wr : Nat → Option HW} {L L' : Nat → Bool} : ∀ m, (∀ j, j < m → L j = L' j) → tsR wr L m = tsR wr L' m
  | 0, _ => rfl
  | m + 1, h => by simp only [tsR, h m (by omega), tsR_congr m fun j hj => h j (by omega)]
theorem clearMarks_getD (ts : List Nat) (fr : List AV) (t : Nat) : (clearMarks ts fr).getD t .undef = clearMark ts (fr.getD t .undef) := by
  unfold clearMarks
  rw [List.getD_eq_getElem?_getD, List.getElem?_map, List.getD_eq_getElem?_getD]
  cases fr[t]? with
  | none => rfl
  | some x => rfl
theorem clearMarks_length (ts : List Nat) (fr : List AV) : (clearMarks ts fr).length = fr.length := by simp [clearMarks]
theorem AL_draw3 {n0 : Nat} {P : Program} {A : Array Oper} {id n K : Nat} {s0 : List Ob} {wr : Nat → Option HW} {fr : List AV} {val : Nat → AV} {ts : Nat → List Nat} {sv : Nat → List Ob} {Q : AQ} (hm : P.follows .mixedOrders = true) (hok : drawOK A n fr.length = true)
    (hwr : ∀ j, n ≤ j → wr j = none) (hfact : ∀ i, i < n → ∀ o, A[i]? = some o → HF3 P A n s0.length K s0 wr fr val ts sv i o)
    (hfin : AL n0 P A (A.toList.drop n) (clearMarks (tsR wr (fun _ => true) n) (frAt A fr val n)) (SR wr s0 K n (fun _ => true) n) Q) : AW n0 P (.region id A true) fr s0 Q := by
  obtain ⟨c1, c2, c3, c4, c5⟩ := drawOK_spec hok
  intro M G0 w0 hM a w ⟨G, hE, hS, hF⟩
  refine wp_region_any hm ?_
  have hdst : ∀ i j d, i < n → j < n → (A[i]?).bind (·.dst) = some d → (A[j]?).bind (·.dst) = some d → i = j := by
    intro i j d hi hj h1 h2
    by_cases hne : i = j
    · exact hne
    · exfalso
      cases ho : A[j]? with
      | none => rw [ho] at h2; cases h2
      | some o =>
        rw [ho] at h2
        exact ((c3 i d hi h1).2 j o hj ho).2 hne (by simpa using h2)
  have hG0 : G0.n ≤ s0.length := by rw [← hS.n]; exact hE.n
  have hfr0 : ∀ t, (fr.getD t .undef).refs s0.length = true := fun t => by rw [← hS.n]; exact VR0.refs _ _ (hF.at_ t).1
  have hb0 : Belows s0.length s0 := fun i o hi hl => hS.refs hi hl
  have hbel : ∀ L, Belows s0.length (SR wr s0 K n L n) := fun L => by
    refine SR_belows (P := P) hb0 ?_ ?_ n (Nat.le_refl _)
    · intro j idx cs t hj hw
      obtain ⟨_, _, h⟩ := hfact j hj A[j] (Array.getElem?_eq_getElem (by omega))
      rw [hw] at h
      rcases h with ⟨_, _, h⟩ | ⟨_, h, _⟩
      · cases h
      · exact h.2.1
    · intro j idx ob hj hw
      obtain ⟨_, _, h⟩ := hfact j hj A[j] (Array.getElem?_eq_getElem (by omega))
      rw [hw] at h
      rcases h with ⟨_, _, h⟩ | ⟨_, _, h, _⟩
      · cases h
      · exact h
  have hcond : ∀ i, i < n → Bd A s0.length K wr i (val i) ∨ (val i).refs s0.length = true ∨ ∃ idx cs t, wr i = some (.alloc idx cs t) ∧ val i = .ref idx 0 := by
    intro i hi
    obtain ⟨_, _, h⟩ := hfact i hi A[i] (Array.getElem?_eq_getElem (by omega))
    rcases h with ⟨_, h, _⟩ | ⟨_, h⟩
    · rw [h]; exact .inr (.inl rfl)
    · cases hw : wr i with
      | none => rw [hw] at h; exact .inl h.1
      | some w =>
        rw [hw] at h
        cases w with
        | alloc idx cs t => exact .inr (.inr ⟨idx, cs, t, rfl, h.2.1⟩)
        | store idx ob => exact .inl h.1
        | app t' => exact .inl h.1
  -- what stands when the whole head is carried out
  have hend : ∀ listed a w, (∀ i, i < n → listed.getD i false = true) → JJ3 M G0 w0 A n (fun L => SR wr s0 K n L n) (fun L => tsR wr L n) fr val listed a w →
      Rel M G0 w0 (clearMarks (tsR wr (fun _ => true) n) (frAt A fr val n)) (SR wr s0 K n (fun _ => true) n) a w := by
    intro listed a w hall ⟨⟨G', g1, g2, g3, g4⟩, j1, j2⟩
    have e1 : SR wr s0 K n (lf listed) n = SR wr s0 K n (fun _ => true) n := SR_congr (fun j hj => hall j hj) n (Nat.le_refl _)
    have e2 : tsR wr (lf listed) n = tsR wr (fun _ => true) n := tsR_congr n fun j hj => hall j hj
    simp only [e1, e2] at g2 g3 g4
    refine ⟨G', g1, g2, j1, by rw [j2, clearMarks_length, frAt_length], fun t => ?_⟩
    rw [clearMarks_getD]
    by_cases hex : ∃ i, i < n ∧ (A[i]?).bind (·.dst) = some t
    · obtain ⟨i, hi, hdi⟩ := hex
      rw [(frAt_get n).1 i hi hdi (fun k hk hne hh => hne (hdst k i t hk hi hh hdi)) (c3 i t hi hdi).1]
      exact g3 i t hi (hall i hi) hdi
    · have hno : ∀ i, i < n → (A[i]?).bind (·.dst) ≠ some t := fun i hi hh => hex ⟨i, hi, hh⟩
      rw [(frAt_get n).2 hno]
      exact g4 t fun i hi _ => hno i hi
  -- the invariant's way
  have key : ∀ (fuel : Nat) (listed : Array Bool) (a : Act) (w : World), listed.size = A.size → Closed A listed → (∀ t, n ≤ t → listed.getD t false = false) →
      fuel = ((List.range A.size).filter fun i => !listed.getD i false).length → JJ3 M G0 w0 A n (fun L => SR wr s0 K n L n) (fun L => tsR wr L n) fr val listed a w → wpAny P .any A (QC M G0 w0 Q) fuel listed a w := by
    intro fuel
    induction fuel with
    | zero =>
      intro listed a w hsz hcl htail hfuel hJ
      have hnone : ∀ i, i < A.size → listed.getD i false = true := by
        intro i hi
        cases hh : listed.getD i false with
        | true => rfl
        | false =>
          have hmem : i ∈ (List.range A.size).filter fun i => !listed.getD i false := List.mem_filter.2 ⟨List.mem_range.2 hi, by simp [hh]⟩
          rw [List.eq_nil_of_length_eq_zero hfuel.symm] at hmem
          cases hmem
      have hns : A.size = n := by
        rcases Nat.lt_or_ge n A.size with h1 | h1
        · have := hnone n h1; rw [htail n (Nat.le_refl _)] at this; cases this
        · omega
      refine ⟨?_, ?_⟩
      · cases hr : Region.ready .any A listed with
        | nil => rfl
        | cons x xs =>
          exfalso
          have hx : x ∈ Region.ready .any A listed := by rw [hr]; simp
          obtain ⟨hun, o, ho, _⟩ := mem_ready.1 hx
          have hxs : x < A.size := (Array.getElem?_eq_some_iff.1 ho).1
          have := hnone x hxs
          rw [getD_both hun] at this
          cases this
      · have hd : A.toList.drop n = [] := by rw [List.drop_eq_nil_iff]; simp; omega
        rw [hd] at hfin
        exact hfin M G0 w0 hM a w (hend listed a w (fun i hi => hnone i (by omega)) hJ)
    | succ fuel ih =>
      intro listed a w hsz hcl htail hfuel hJ
      by_cases hall : ∀ i, i < n → listed.getD i false = true
      ·
        have hl : listed = ((List.range A.size).map fun i => decide (i < n)).toArray := by
          apply Array.ext
          · simp [hsz]
          · intro i h1 h2
            simp only [List.getElem_toArray, List.getElem_map, List.getElem_range]
            by_cases hi : i < n
            · have := hall i hi
              simpa [h1, hi] using this
            · have := htail i (by omega)
              simpa [h1, hi] using this
        have hcount : fuel + 1 = A.size - n := by
          rw [hfuel]
          have : ((List.range A.size).filter fun i => !listed.getD i false) = (List.range' n (A.size - n)) := by
            have hsplit : List.range A.size = List.range' 0 n ++ List.range' n (A.size - n) := by
              rw [List.range_eq_range']
              have := List.range'_append_1 (s := 0) (m := n) (n := A.size - n)
              rw [Nat.zero_add] at this
              rw [this]
              congr 1
              omega
            rw [hsplit, List.filter_append]
            rw [List.filter_eq_nil_iff.2 (by
              intro i hi
              rw [List.mem_range'_1] at hi
              simp only [Bool.not_eq_true', Bool.not_eq_false]
              exact hall i (by omega))]
            rw [List.nil_append, List.filter_eq_self.2]
            intro i hi
            rw [List.mem_range'_1] at hi
            rw [htail i hi.1]
            rfl
          rw [this, List.length_range']
        have hlist := hfin M G0 w0 hM a w (hend listed a w hall hJ)
        have hseq := wpAny_of_seq (P := P) (ops := A) (md := .any) (A.toList.drop n) n listed a w (fun j => by simp) (by rw [hl]; simpa using c5) hlist
        have hll : (A.toList.drop n).length = fuel + 1 := by simp; omega
        rw [hll] at hseq
        exact hseq
      ·
        refine ⟨fun hr => ?_, fun i hi => ?_⟩
        · exfalso
          -- the least that is not listed is ready
          have hex : ∃ i, i < n ∧ listed.getD i false = false := by
            refine Classical.byContradiction fun hno => hall fun i hi => ?_
            cases hh : listed.getD i false with
            | true => rfl
            | false => exact absurd ⟨i, hi, hh⟩ hno
          have hmin : ∀ m, (∃ i, i ≤ m ∧ i < n ∧ listed.getD i false = false) → False := by
            intro m
            induction m using Nat.strongRecOn with
            | _ m ihm =>
              rintro ⟨i, him, hin, hun⟩
              have hio : i < A.size := by omega
              have hready : i ∈ Region.ready .any A listed ∨ ∃ j, j < i ∧ listed.getD j false = false := by
                by_cases hp : ∀ e ∈ A[i].after, Region.binds .any e = true → listed.getD e.on false = true
                · exact .inl (mem_ready.2 ⟨getD_in (by omega) hun, A[i], Array.getElem?_eq_getElem hio, hp⟩)
                · refine .inr (Classical.byContradiction fun hno => hp fun ed hed hb => ?_)
                  have hlt := (c2 i A[i] (Array.getElem?_eq_getElem hio)).1 ed hed hb
                  cases hh : listed.getD ed.on false with
                  | true => rfl
                  | false => exact absurd ⟨ed.on, hlt, hh⟩ hno
              rcases hready with h1 | ⟨j, hj, hjun⟩
              · rw [hr] at h1; cases h1
              · exact ihm j (by omega) ⟨j, Nat.le_refl _, by omega, hjun⟩
          obtain ⟨i, hi, hun⟩ := hex
          exact hmin i ⟨i, Nat.le_refl _, hi, hun⟩
        · obtain ⟨hun, o, ho, hpre⟩ := mem_ready.1 hi
          have hio : i < A.size := (Array.getElem?_eq_some_iff.1 ho).1
          have hin : i < n := by
            rcases Nat.lt_or_ge i n with h1 | h1
            · exact h1
            · exfalso
              refine hall fun j hj => ?_
              exact anc_listed hcl A.size i j o ho hpre (c4 i h1 hio j hj)
          obtain ⟨⟨G', g1, g2, g3, g4⟩, j1, j2⟩ := hJ
          have hunf : listed.getD i false = false := getD_both hun
          have hadm : Adm A n i (lf listed) := by
            refine ⟨hunf, fun j hj => anc_listed hcl A.size i j o ho hpre hj, fun j hj => ?_, fun j hj => htail j hj⟩
            cases hh : lf listed j with
            | false => rfl
            | true =>
              cases hoj : A[j]? with
              | none =>
                have : ∀ f, ancB A f j i = false := fun f => by cases f <;> simp [ancB, hoj]
                rw [this] at hj
                cases hj
              | some oj =>
                have := anc_listed hcl A.size j i oj hoj (hcl j oj hoj hh) hj
                rw [hunf] at this
                cases this
          obtain ⟨hview, htsi, hwhat⟩ := hfact i hin o ho
          have hsv : Sim M G' (sv i) w := g2.weaken (hview _ hadm)
          have htsub : ∀ t ∈ tsR wr (lf listed) n, t ∈ ts i := by
            intro t ht
            obtain ⟨j, hj1, hj2, hj3⟩ := tsR_mem.1 ht
            have hji : j ≠ i := by intro e; subst e; rw [hadm.un] at hj2; cases hj2
            refine htsi j hj1 hji ?_ t hj3
            cases hh : ancB A A.size j i with
            | false => rfl
            | true => rw [hadm.dec j hh] at hj2; cases hj2
          have hts2 : ∀ (x : AV) (u : Value), VR M G' w (clearMark (tsR wr (lf listed) n) x) u → VR M G' w (clearMark (ts i) x) u := by
            intro x u hu
            rw [← clearMark_absorb htsub]
            exact clear_wk (ts i) _ M G' w u hu
          -- the slots that it reads
          have hslot : ∀ t, t ∈ o.looksAt A → VR M G' w (clearMark (ts i) ((frAt A fr val i).getD t .undef)) (a.tmps.getD t undef) := by
            intro t ht
            by_cases hex : ∃ j, j < n ∧ (A[j]?).bind (·.dst) = some t
            · obtain ⟨j, hj, hdj⟩ := hex
              obtain ⟨k1, k2⟩ := c3 j t hj hdj
              obtain ⟨hne, hb1, hb2⟩ := (k2 i o hin ho).1 ht
              rcases Nat.lt_or_gt_of_ne hne with hlt | hgt
              · have hlj : listed.getD j false = true := anc_listed hcl A.size i j o ho hpre (hb1 hlt)
                rw [(frAt_get i).1 j hlt hdj (fun k hk hkj hh => hkj (hdst k j t (by omega) hj hh hdj)) k1]
                exact hts2 _ _ (g3 j t hj hlj hdj)
              · have hlj : listed.getD j false = false := by
                  cases hh : listed.getD j false with
                  | false => rfl
                  | true =>
                    cases hoj : A[j]? with
                    | none => rw [hoj] at hdj; cases hdj
                    | some oj =>
                      have := anc_listed hcl A.size j i oj hoj (hcl j oj hoj hh) (hb2 hgt)
                      rw [hunf] at this
                      cases this
                rw [(frAt_get i).2 fun k hk hh => by have := hdst k j t (by omega) hj hh hdj; omega]
                refine hts2 _ _ (g4 t fun k hk hlk hh => ?_)
                have := hdst k j t hk hj hh hdj
                subst this
                rw [hlj] at hlk
                cases hlk
            · have hno : ∀ j, j < n → (A[j]?).bind (·.dst) ≠ some t := fun j hj hh => hex ⟨j, hj, hh⟩
              rw [(frAt_get i).2 fun k hk => hno k (by omega)]
              exact hts2 _ _ (g4 t fun k hk _ => hno k hk)
          have hmask : FR M G' w (aForget (readsOf A o) (clearMarks (ts i) (frAt A fr val i))) a := by
            refine ⟨j1, by simp [aForget, clearMarks_length, frAt_length, j2], fun t => ?_⟩
            unfold aForget
            rw [List.getD_eq_getElem?_getD, List.getElem?_map]
            by_cases ht : t < (clearMarks (ts i) (frAt A fr val i)).length
            · rw [List.getElem?_range ht]
              simp only [Option.map_some, Option.getD_some]
              split
              · rename_i hc
                rw [clearMarks_getD]
                exact hslot t (by simpa [readsOf] using hc)
              · exact ⟨by simp only [VR0], OwnC.of_plain rfl⟩
            · rw [List.getElem?_eq_none (by simpa using ht)]
              exact ⟨by simp only [Option.map_none, Option.getD_none, VR0], OwnC.of_plain rfl⟩
          have hwant : ∀ b, aWanted A (clearMarks (ts i) (frAt A fr val i)) o = some b → Region.wanted o (yielded A a.tmps) = b := by
            intro b hb
            refine aWanted_spec (fr := aForget (readsOf A o) (clearMarks (ts i) (frAt A fr val i))) ?_ hmask
            rw [← hb]
            unfold aWanted
            split
            · rfl
            · rename_i g want hg
              cases hd : (A[g]?).bind (·.dst) with
              | none => rfl
              | some d =>
                dsimp only
                have hmem : d ∈ readsOf A o := by
                  unfold readsOf Oper.looksAt
                  rw [hg]
                  exact List.mem_append_right _ (by simp [hd])
                have : (aForget (readsOf A o) (clearMarks (ts i) (frAt A fr val i))).getD d .undef = (clearMarks (ts i) (frAt A fr val i)).getD d .undef := by
                  unfold aForget
                  rw [List.getD_eq_getElem?_getD, List.getElem?_map, List.getD_eq_getElem?_getD]
                  by_cases h : d < (clearMarks (ts i) (frAt A fr val i)).length
                  · rw [List.getElem?_range h]
                    simp [hmem]
                  · rw [List.getElem?_eq_none (by simpa using h), List.getElem?_eq_none (Nat.le_of_not_lt h)]
                    rfl
                rw [this]
          have hcount : fuel = ((List.range A.size).filter fun k => !(listed.setIfInBounds i true).getD k false).length := by
            have hc : ((List.range A.size).filter fun k => !(listed.setIfInBounds i true).getD k false) = ((List.range A.size).filter fun k => !listed.getD k false).filter fun k => k != i := by
              rw [List.filter_filter]
              apply List.filter_congr
              intro k hk
              by_cases hki : i = k
              · subst hki
                have : (listed.setIfInBounds i true).getD i false = true := by simp [show i < listed.size by omega]
                rw [this]
                simp
              · rw [getD_set_ne false hki]
                simp [Ne.symm hki]
            rw [hc]
            have hmem : i ∈ (List.range A.size).filter fun k => !listed.getD k false := List.mem_filter.2 ⟨List.mem_range.2 hio, by simp [hunf]⟩
            have hnd : ((List.range A.size).filter fun k => !listed.getD k false).Nodup := List.Pairwise.filter _ List.nodup_range
            have : (((List.range A.size).filter fun k => !listed.getD k false).filter fun k => k != i).length = ((List.range A.size).filter fun k => !listed.getD k false).length - 1 := by
              rw [← List.Nodup.erase_eq_filter hnd, List.length_erase_of_mem hmem]
            rw [this, ← hfuel]
            rfl
          have hlset : ∀ k, (listed.setIfInBounds i true).getD k false = true ↔ k = i ∨ listed.getD k false = true := by
            intro k
            by_cases hki : i = k
            · subst hki
              have : (listed.setIfInBounds i true).getD i false = true := by simp [show i < listed.size by omega]
              simp [this]
            · rw [getD_set_ne false hki]
              simp [Ne.symm hki]
          have hlf : lf (listed.setIfInBounds i true) = addL (lf listed) i := by
            funext k
            simp only [lf, addL]
            by_cases hki : k = i
            · rw [if_pos hki]; exact (hlset k).2 (.inl hki)
            · rw [if_neg hki, getD_set_ne false (Ne.symm hki)]
          have hnbi : ∀ idx cs t, wr i = some (.alloc idx cs t) → s0.length ≤ idx := fun idx cs t he => by
            rcases hwhat with ⟨_, _, h⟩ | ⟨_, h⟩
            · rw [h] at he; cases he
            · rw [he] at h; exact h.2.2.1
          -- what follows when the operation has told a value
          have next : ∀ (G2 : Gh) (w2 : World) (cv : Value), Ext M G0 w0 G2 w2 → Sim M G2 (SR wr s0 K n (addL (lf listed) i) n) w2 → VR M G2 w2 (val i) cv →
              (∀ (x : AV) (u : Value), ((∃ m, s0.length ≤ m ∧ m ≤ s0.length + K ∧ x.refs m = true ∧ ∀ idx cs t, wr i = some (.alloc idx cs t) → m ≤ idx) ∨ ∃ k idx cs t, k ≠ i ∧ wr k = some (.alloc idx cs t) ∧ x = .ref idx 0) → VR M G' w (clearMark (tsR wr (lf listed) n) x) u → VR M G2 w2 (clearMark (tsR wr (addL (lf listed) i) n) x) u) →
              wpAny P .any A (QC M G0 w0 Q) fuel (listed.setIfInBounds i true) (a.put o.dst cv) w2 := by
            intro G2 w2 cv hE2 hS2 hv2 hkeep
            refine ih _ _ _ (by simp [hsz]) (ready_closed hcl hi) (fun t ht => by rw [getD_set_ne false (by omega)]; exact htail t ht) hcount ?_
            refine ⟨⟨G2, hE2, by simp only [hlf]; exact hS2, ?_, ?_⟩, by rw [put_defers]; exact j1, by rw [put_size]; exact j2⟩
            · intro k d hk hlk hdk
              rw [hlset] at hlk
              rw [put_get]
              simp only [hlf]
              by_cases hki : k = i
              · subst hki
                rw [ho] at hdk
                have hdk' : o.dst = some d := by simpa using hdk
                rw [if_pos ⟨hdk', by rw [j2]; exact (c3 k d hin (by rw [ho]; simpa using hdk')).1⟩]
                exact clear_wk _ _ M G2 w2 cv hv2
              · have hne : ¬ (o.dst = some d ∧ d < a.tmps.size) := fun hh => hki (hdst k i d hk hin hdk (by rw [ho]; simpa using hh.1))
                rw [if_neg hne]
                refine hkeep _ _ ?_ (g3 k d hk (hlk.resolve_left hki) hdk)
                rcases hcond k hk with ⟨m, hm1, hm2, hm3, hm4⟩ | h | ⟨idx, cs, t, h1, h2⟩
                · refine .inl ⟨m, hm1, hm2, hm3, fun idx cs t he => ?_⟩
                  rcases hm4 i idx cs t he with h | h
                  · exact h
                  · have hlk' := hlk.resolve_left hki
                    have := hadm.dec k h
                    simp only [lf] at this
                    rw [hlk'] at this; cases this
                · exact .inl ⟨_, Nat.le_refl _, by omega, h, hnbi⟩
                · exact .inr ⟨k, idx, cs, t, hki, h1, h2⟩
            · intro t hno
              rw [put_get]
              simp only [hlf]
              have hne : ¬ (o.dst = some t ∧ t < a.tmps.size) := fun hh => hno i hin ((hlset i).2 (.inl rfl)) (by rw [ho]; simpa using hh.1)
              rw [if_neg hne]
              exact hkeep _ _ (.inl ⟨_, Nat.le_refl _, by omega, hfr0 t, hnbi⟩) (g4 t fun k hk hlk => hno k hk ((hlset k).2 (.inr hlk)))
          have hTT : ∀ t ∈ tsR wr (lf listed) n, t ∈ tsR wr (addL (lf listed) i) n := by
            intro t ht
            obtain ⟨j, h1, h2, h3⟩ := tsR_mem.1 ht
            refine tsR_mem.2 ⟨j, h1, ?_, h3⟩
            simp only [addL]
            split
            · rfl
            · exact h2
          have hTi : ∀ t ∈ HW.ts (wr i), t ∈ tsR wr (addL (lf listed) i) n := fun t ht => tsR_mem.2 ⟨i, hin, by simp [addL], ht⟩
          -- without a new object
          have nextM : ∀ (G2 : Gh) (w2 : World) (cv : Value), Ext (fun b => M b ∧ G'.tg b ∈ HW.ts (wr i)) G' w G2 w2 → Sim M G2 (SR wr s0 K n (addL (lf listed) i) n) w2 → VR M G2 w2 (val i) cv →
              wpAny P .any A (QC M G0 w0 Q) fuel (listed.setIfInBounds i true) (a.put o.dst cv) w2 := by
            intro G2 w2 cv hE2 hS2 hv2
            refine next G2 w2 cv (g1.trans hE2 fun b _ h => h.1) hS2 hv2 ?_
            intro x u _ hu
            rw [← clearMark_absorb hTT]
            refine (clear_wk _ _ M G' w u hu).keep hE2 ?_
            intro g t hmk hg hlt _ _ _ hM2
            have h1 := clearMark_mark hmk
            have h2 := hTi t (by rw [← hg]; exact hM2.2)
            simp [h2] at h1
          have hfr := hM.1.ext g1
          have hnot : ∀ (L : Nat → Bool) (s : List Ob), effS none s = s := fun _ _ => rfl
          have hchain : (∀ j, i < j → j < n → (∀ s, effS (wr j) s = s) ∨ ancB A A.size j i = true) → ∀ j, i < j → lf listed j = true → ∀ s, effS (wr j) s = s := by
            intro h j hij hl s
            rcases Nat.lt_or_ge j n with hj | hj
            · rcases h j hij hj with h1 | h1
              · exact h1 s
              · rw [hadm.dec j h1] at hl; cases hl
            · rw [hwr j hj]; rfl
          unfold wpOp
          rw [ho]
          dsimp only
          rcases hwhat with ⟨hw, hv, hwi⟩ | ⟨hw, hwhat⟩
          · rw [hwant _ hw]
            simp only [Bool.false_eq_true, if_false]
            refine nextM G' w undef (Ext.refl _ _ _) ?_ ?_
            · rw [SR_add hin hadm.un (by rw [hwi]; intro _ _ _ h; cases h) (by rw [hwi]; intro h; exact absurd rfl h), hwi]
              exact g2
            · rw [hv]
              exact ⟨by simp only [VR0]; exact ⟨[], rfl, by simp only [VRs0]⟩, OwnC.of_plain rfl⟩
          · rw [hwant _ hw]
            simp only [if_true]
            refine .inl ?_
            cases hwi : wr i with
            | none =>
              rw [hwi] at hwhat
              refine hwhat.2 M G' w a _ hfr g2 hsv hmask _ _ fun cv G2 w2 k1 k2 k3 => ?_
              refine nextM G2 w2 cv (k1.mono fun _ _ h => h.elim) ?_ k3
              rw [SR_add hin hadm.un (by rw [hwi]; intro _ _ _ h; cases h) (by rw [hwi]; intro h; exact absurd rfl h), hwi]
              exact k2
            | some W =>
              rw [hwi] at hwhat
              cases W with
              | alloc idx cs t =>
                obtain ⟨⟨htm, hbl, hmk, hnew⟩, hv, hn1, hn2, huq, hst⟩ := hwhat
                obtain ⟨vs, hvl, hvs, hrun⟩ := hnew M G' w _ a g2 hmask
                unfold Oper.wp
                rw [hrun, Oper.upon_value]
                have hGn : G'.n = s0.length + K := by rw [g2.n]; exact SR_length n
                have hlen := SR_length (wr := wr) (s0 := s0) (K := K) (n := n) (L := lf listed) n
                have hA := Alive.born (nb := s0.length) (G := G') (w := w) (idx := idx) (ob := .cells vs.toArray t) (by omega) hn1
                refine next (G'.born idx w.heap.size) _ _ (g1.born hG0 hn1) ?_ ?_ ?_
                · rw [SR_alloc hin hadm.un hwi huq ?_ ?_]
                  · refine g2.born htm hn1 (by omega) (hbel _) hvl ?_
                    intro k x u h1 h2
                    exact (hvs k x u h1 h2).alive hA (belows_get hbl h1)
                  · intro j idx' ob hl hwj e
                    subst e
                    rw [hadm.dec j (hst j ob hwj)] at hl
                    cases hl
                  · exact hmk
                · rw [hv]
                  refine ⟨?_, OwnC.of_plain rfl⟩
                  simp only [VR0, Gh.born, if_true]
                  exact ⟨trivial, by omega⟩
                · intro x u hx hu
                  rw [← clearMark_absorb hTT]
                  have hu := clear_wk (tsR wr (addL (lf listed) i) n) _ M G' w u hu
                  rcases hx with ⟨m, hm1, hm2, hx, hm4⟩ | ⟨k, idx', cs', t', hki, hwk, rfl⟩
                  · have hA2 := Alive.born (nb := m) (G := G') (w := w) (idx := idx) (ob := .cells vs.toArray t) (by omega) (hm4 idx cs t hwi)
                    exact hu.alive hA2 (AV.refs_clear (AV.refs_clear hx))
                  · have hne := huq k idx' cs' t' hki hwk
                    have e : ∀ tt tt2 : List Nat, clearMark tt (clearMark tt2 (AV.ref idx' 0)) = .ref idx' 0 := fun _ _ => rfl
                    rw [e] at hu ⊢
                    refine ⟨?_, OwnC.of_plain rfl⟩
                    have h0 := hu.1
                    simp only [VR0, Gh.born] at h0 ⊢
                    rw [if_neg hne]
                    exact h0
              | store idx ob =>
                obtain ⟨hv, hbo, hst, hch⟩ := hwhat
                refine hst M G' w a _ hfr g2 hsv hmask _ _ fun cv G2 w2 k1 k2 k3 => ?_
                refine nextM G2 w2 cv (k1.mono fun _ _ h => h.elim) ?_ k3
                rw [SR_add hin hadm.un (by rw [hwi]; intro _ _ _ h; cases h) (fun _ => hchain hch), hwi]
                exact k2
              | app t' =>
                obtain ⟨_, hap, hch⟩ := hwhat
                refine hap M G' w a _ hfr g2 hmask _ _ fun cv G2 w2 k1 k2 k3 => ?_
                refine nextM G2 w2 cv (by rw [hwi]; exact k1) ?_ k3
                rw [SR_add hin hadm.un (by rw [hwi]; intro _ _ _ h; cases h) (fun _ => hchain hch), hwi]
                exact k2
  have h0S : SR wr s0 K n (lf (Array.replicate A.size false)) n = s0 ++ List.replicate K deadO := by
    have e : ∀ j, lf (Array.replicate A.size false) j = false := fun j => getD_replicate_false _ _
    have hb : ∀ m, baseR wr s0 K (lf (Array.replicate A.size false)) m = s0 ++ List.replicate K deadO := by
      intro m
      induction m with
      | zero => rfl
      | succ m ih => simp only [baseR, e, ih]; split <;> rfl
    have hs : ∀ m, SR wr s0 K n (lf (Array.replicate A.size false)) m = s0 ++ List.replicate K deadO := by
      intro m
      induction m with
      | zero => exact hb n
      | succ m ih => simp only [SR, e, ih]; rfl
    exact hs n
  refine key A.size (Array.replicate A.size false) a _ (by simp) (fun j o hj hl => by rw [getD_replicate_false] at hl; cases hl) (fun t _ => getD_replicate_false _ _) ?_ ?_
  · rw [List.filter_eq_self.2 (fun i _ => by rw [getD_replicate_false]; rfl)]
    simp
  · refine ⟨⟨G.room K w.heap.size, (hE.room K).drawn, ?_, (fun i d _ hl => by rw [getD_replicate_false] at hl; cases hl), fun t _ => ?_⟩, hF.defers, hF.size⟩
    · simp only [h0S]
      exact (hS.room K _).drawn
    · have h1 : VR M (G.room K w.heap.size) w (fr.getD t .undef) (a.tmps.getD t undef) := (hF.at_ t).alive (Alive.room K _) (by rw [hS.n]; exact hfr0 t)
      exact (clear_wk _ _ M _ _ _ h1).drawn
end
end Go.Proofs.YtmacghaihlfcpaaGreat.Abs
