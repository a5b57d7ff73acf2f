/- The sorted keys of a map whose keys are numbers: slices.Sorted at what maps.Keys hands back, by the library's contract. -/
import Derived.Test.YtmacghaihlfcpaaGreatFH
import Derived.WideKeyElems
import Derived.Shelf.SlIterI.Sorted
import Derived.Test.YtmacghaihlfcpaaGreatLE
import Derived.Lib.SliceRun
namespace Go.Proofs.YtmacghaihlfcpaaGreat.Abs
noncomputable section
open Go Go.ChangeShapes Go.WideShapes Go.ChangeAt Go.RowKit Go.WideElems Go.MapKept Go.ChangeMaps
set_option linter.unusedVariables false
set_option linter.unusedSimpArgs false

/-- keys, and when they came -/
def entsT : List TV → Option (List (Int × Nat))
  | [] => some []
  | .int .i64 k :: _ :: .int .i64 b :: l => match entsT l with
    | some es => some ((k, b.toNat) :: es)
    | none => none
  | _ => none
def insI (x : Int) : List Int → List Int
  | [] => [x]
  | y :: l => match leI x y with
    | true => x :: y :: l
    | false => y :: insI x l
def sortI (l : List Int) : List Int := l.foldr insI []
theorem insI_perm (x : Int) : ∀ l, (insI x l).Perm (x :: l)
  | [] => .refl _
  | y :: l => by
    unfold insI
    split
    · exact .refl _
    · exact ((insI_perm x l).cons y).trans (.swap x y l)
theorem sortI_perm : ∀ l, (sortI l).Perm l
  | [] => .refl _
  | x :: l => (insI_perm x (sortI l)).trans ((sortI_perm l).cons x)
theorem insI_sorted (x : Int) : ∀ l, l.Pairwise (· ≤ ·) → (insI x l).Pairwise (· ≤ ·)
  | [], _ => by simp [insI]
  | y :: l, h => by
    unfold insI
    rw [List.pairwise_cons] at h
    split
    · rename_i hb
      have hxy : x ≤ y := by rw [leI_eq] at hb; simpa using hb
      refine List.pairwise_cons.2 ⟨fun z hz => ?_, List.pairwise_cons.2 h⟩
      rcases List.mem_cons.1 hz with e | e
      · rw [e]; exact hxy
      · exact Int.le_trans hxy (h.1 z e)
    · rename_i hb
      have hyx : y ≤ x := by
        rw [leI_eq] at hb
        have : ¬ x ≤ y := by simpa using hb
        omega
      refine List.pairwise_cons.2 ⟨fun z hz => ?_, insI_sorted x l h.2⟩
      rcases List.mem_cons.1 ((insI_perm x l).mem_iff.1 hz) with e | e
      · rw [e]; exact hyx
      · exact h.1 z e
theorem sortI_sorted : ∀ l, (sortI l).Pairwise (· ≤ ·)
  | [] => .nil
  | x :: l => insI_sorted x _ (sortI_sorted l)
theorem sorted_unique : ∀ (l m : List Int), l.Perm m → l.Pairwise (· ≤ ·) → m.Pairwise (· ≤ ·) → l = m
  | [], m, h, _, _ => by rw [List.nil_perm.1 h]
  | x :: l, [], h, _, _ => absurd h.length_eq (by simp)
  | x :: l, y :: m, h, h1, h2 => by
    rw [List.pairwise_cons] at h1 h2
    have hxy : x = y := by
      have a1 : x ∈ y :: m := h.mem_iff.1 List.mem_cons_self
      have a2 : y ∈ x :: l := h.mem_iff.2 List.mem_cons_self
      rcases List.mem_cons.1 a1 with e | e
      · exact e
      · rcases List.mem_cons.1 a2 with e2 | e2
        · exact e2.symm
        · have b1 := h1.1 y e2
          have b2 := h2.1 x e
          omega
    subst hxy
    rw [sorted_unique l m ((List.perm_cons x).1 h) h1.2 h2.2]
theorem mergeSort_is {ss l : List Int} (h : ss.Perm l) : ss.mergeSort (fun x y => decide (x ≤ y)) = sortI l := by
  refine sorted_unique _ _ ((List.mergeSort_perm ss _).trans (h.trans (sortI_perm l).symm)) ?_ (sortI_sorted l)
  have := List.pairwise_mergeSort (le := fun x y : Int => decide (x ≤ y)) (fun a b c h1 h2 => by simp at *; omega) (fun a b => by simp; omega) ss
  exact this.imp fun h => by simpa using h
/-- whether the entries may be read as a map of numbers -/
def goodE (c : Int) (es : List (Int × Nat)) : Bool := Nat.ble es.length 1000 && (es.all (fun p => Nat.blt p.2 c.toNat && inI64 p.1) && (decide (es.map (·.2)).Nodup && decide (es.map (·.1)).Nodup))
theorem ents_spec {G : Gh} {w : World} : ∀ (l : List TV) (es : List (Int × Nat)) (vs : List Value), entsT l = some es → VRs0 G w (dns l) vs → (entriesOf vs).map (fun x => (x.key, x.born)) = es.map fun p => (Value.int .i64 p.1, p.2)
  | [], es, vs, h, hv => by
    simp only [entsT, Option.some.injEq] at h
    subst h
    simp only [dns, VRs0] at hv
    subst hv
    rfl
  | [_], es, vs, h, hv => by unfold entsT at h; split at h <;> first | contradiction | (rename_i e; cases e)
  | [_, _], es, vs, h, hv => by unfold entsT at h; split at h <;> first | contradiction | (rename_i e; cases e)
  | a :: v :: b :: l, es, vs, h, hv => by
    unfold entsT at h
    split at h
    · rename_i e; cases e
    · rename_i k v' b' l' e
      cases e
      split at h
      · rename_i es' he
        cases h
        simp only [dns, dn, VRs0] at hv
        obtain ⟨u1, t1, rfl, h1, u2, t2, rfl, h2, u3, t3, rfl, h3, h4⟩ := hv
        simp only [VR0] at h1 h3
        subst h1 h3
        have ih := ents_spec l es' t3 he h4
        simp only [entriesOf, List.map_cons, ih]
      · cases h
    · cases h
theorem ents_of {G : Gh} {w : World} {l : List TV} {es : List (Int × Nat)} {vs : List Value} (h : entsT l = some es) (hv : VRs0 G w (dns l) vs) : (entriesOf vs).map (·.key) = es.map (fun p => Value.int .i64 p.1) ∧ (entriesOf vs).map (·.born) = es.map (·.2) := by
  have e := ents_spec l es vs h hv
  have e1 := congrArg (List.map (·.1)) e
  have e2 := congrArg (List.map (·.2)) e
  simp only [List.map_map] at e1 e2
  exact ⟨e1, e2⟩
theorem nodup_pair {α β : Type} (f : α → β) : ∀ {l : List α}, (l.map f).Nodup → l.Pairwise fun x y => f x ≠ f y := by
  intro l h
  unfold List.Nodup at h
  rw [List.pairwise_map] at h
  exact h
/-- the map's object is a map that reads so -/
theorem ownsMap_of {P : Program} {key : TypeId} (hk : P.underlying key = some (.int .i64)) {M : Nat → Prop} {G : Gh} {s : List TOb} {w : World} (hS : Sim M G (dnS s) w) {j : Nat} {c : Int} {l : List TV} {es : List (Int × Nat)}
    (hj : s[j]? = some (.cells (.int .i64 c :: l) mapT true)) (he : entsT l = some es) (hg : goodE c es = true) :
    w.ownsMap (H := Unit) P key (fun _ => some (.nil, [])) (G.mu j) es.length (.map ((es.map fun p => (Lit.int .i64 p.1, (DataW.nil : DataW Unit))).foldr DataW.insert [])) := by
  obtain ⟨vs, h1, h2, h3⟩ := hS.at_ j _ (by rw [dnS_get, hj]; rfl) rfl
  have hlen : vs.length = (dns l).length + 1 := h2
  match vs, hlen with
  | v0 :: vt, hlen => ?_
  have hv0 : v0 = .int .i64 c := by have := (h3 0 (.int .i64 c) v0 rfl rfl).1; simpa only [VR0] using this
  have hvt : VRs0 G w (dns l) vt := VRs0.mk (by simpa using hlen) fun i a v ha hv => (h3 (i + 1) a v ha hv).1
  subst hv0
  obtain ⟨hkey, hborn⟩ := ents_of he hvt
  unfold goodE at hg
  rw [Bool.and_eq_true, Bool.and_eq_true, Bool.and_eq_true, Nat.ble_eq, List.all_eq_true, decide_eq_true_eq, decide_eq_true_eq] at hg
  obtain ⟨g1, g2, g3, g4⟩ := hg
  have hsz : (entriesOf vt).length = es.length := by have := congrArg List.length hkey; simpa using this
  have mem : ∀ x ∈ entriesOf vt, ∃ p ∈ es, x.key = .int .i64 p.1 ∧ x.born = p.2 := by
    intro x hx
    have e := ents_spec l es vt he hvt
    have hx' : (x.key, x.born) ∈ es.map fun p => (Value.int .i64 p.1, p.2) := by rw [← e]; exact List.mem_map.2 ⟨x, hx, rfl⟩
    obtain ⟨p, hp, hq⟩ := List.mem_map.1 hx'
    exact ⟨p, hp, (congrArg (·.1) hq).symm, (congrArg (·.2) hq).symm⟩
  have kof : ∀ p ∈ es, keyOf P key (.int .i64 p.1) = some (.int .i64 p.1) := by
    intro p hp
    have hq := g2 p hp
    rw [Bool.and_eq_true] at hq
    have := (inI64_iff p.1).1 hq.2
    refine Go.Maps.keyOf_int_mk hk ?_
    simp only [Lit.wf, Bool.and_eq_true, decide_eq_true_eq]
    exact this
  have hF : Fit P key (fun _ => some ((.nil : DataW Unit), [])) (entriesOf vt).toArray c.toNat := by
    refine ⟨?_, (stamped_iff _ _).2 ⟨?_, ?_, ?_⟩, ?_⟩
    · simp only [List.size_toArray]
      have : (1000 : Nat) ≤ maxLen := by decide
      omega
    · intro x hx
      obtain ⟨p, hp, _, e⟩ := mem x (by simpa using hx)
      have hq := g2 p hp
      rw [Bool.and_eq_true, blt_iff] at hq
      rw [e]; exact hq.1
    · have : ((entriesOf vt).toArray.toList.map (·.born)) = es.map (·.2) := hborn
      rw [this]; exact g3
    · refine nodup_pair (fun x : MapEntry => x.key) ?_
      have : ((entriesOf vt).toArray.toList.map (·.key)) = es.map (fun p => Value.int .i64 p.1) := hkey
      rw [this]
      have e : es.map (fun p => Value.int .i64 p.1) = (es.map (·.1)).map (Value.int .i64) := by rw [List.map_map]; rfl
      rw [e]
      unfold List.Nodup at g4 ⊢
      rw [List.pairwise_map]
      exact g4.imp fun h h2 => h (by injection h2)
    · intro x hx
      obtain ⟨p, hp, e, _⟩ := mem x (by simpa using hx)
      exact ⟨(.int .i64 p.1, .nil), by unfold WideElems.rd; rw [e, kof p hp]; rfl⟩
  refine ⟨(entriesOf vt).toArray, c.toNat, h1, hF, Nat.le_of_eq (by simpa using hsz), ?_⟩
  congr 2
  have e : ((entriesOf vt).toArray.toList.map (WideElems.rg P key fun _ => some ((.nil : DataW Unit), []))) = ((entriesOf vt).map (·.key)).map fun v => ((keyOf P key v).bind fun k => some (k, (DataW.nil : DataW Unit))).getD (.bool false, .nil) := by
    rw [List.map_map]; rfl
  rw [e, hkey, List.map_map]
  refine (List.map_congr_left fun p hp => ?_).symm
  show ((keyOf P key (.int .i64 p.1)).bind _).getD _ = _
  rw [kof p hp]
  rfl

/-- what the library's function is known to do -/
structure SortC (P : Program) (f g : FuncId) (key : TypeId) : Prop where
  en : enters P f = true
  ty : P.underlying key = some (.int .i64)
  at_ : ∀ (Bm b nn : Nat) (D0 : DataW Unit) (R : Value → Option (DataW Unit × List MemPlace)) (w : World), Bm < w.heap.size → w.cell? ⟨Bm, 0, none⟩ = some (.map (some b)) → w.ownsMap P key R b nn D0 → Maps.size D0 ≤ 1000 →
    Calls P f #[.func (.func g) #[] #[.pointer (some ⟨Bm, 0, none⟩)]] w fun e w' => ∃ (v : Value) (ss : List Int), e = .returned v ∧ ss.Perm (intKeys D0) ∧ w'.ownsRow w.heap.size key 1 v ss.length ((ss.mergeSort (fun x y => decide (x ≤ y))).map (Value.int .i64)) ∧ Below w.heap.size w w'
  nil : ∀ (Bm : Nat) (w : World), Bm < w.heap.size → w.cell? ⟨Bm, 0, none⟩ = some (.map none) →
    Calls P f #[.func (.func g) #[] #[.pointer (some ⟨Bm, 0, none⟩)]] w fun e w' => e = .returned (.slice none 0 0) ∧ Below w.heap.size w w'
def Gh.upto (G : Gh) (n : Nat) : Gh := { G with own := fun b => if b < n then G.own b else false }
theorem More.upto (G : Gh) (w : World) : More G w (G.upto w.heap.size) :=
  ⟨Nat.le_refl _, fun _ _ => rfl, fun _ _ => rfl, fun i h1 h2 => absurd h2 (Nat.not_lt.2 h1), fun b hb => if_pos hb, fun _ _ => rfl, fun _ _ => rfl⟩
theorem Below.grownBy0 {w w' : World} (hb : Below w.heap.size w w') : w.grownBy w' none := ⟨hb.os, hb.tape, hb.output, hb.size, fun k hk _ => hb.block k hk⟩
theorem cellsOf_ints : ∀ ss : List Int, ss.flatMap (cellsOf (.int .i64)) = ss.map (AV.int .i64)
  | [] => rfl
  | x :: l => congrArg (AV.int .i64 x :: ·) (cellsOf_ints l)
theorem VRs0_ints {G : Gh} {w : World} : ∀ ss : List Int, VRs0 G w (ss.map (AV.int .i64)) (ss.map (Value.int .i64))
  | [] => by simp only [List.map_nil, VRs0]
  | x :: l => by
    simp only [List.map_cons, VRs0]
    exact ⟨_, _, rfl, by simp only [VR0], VRs0_ints l⟩
/-- a new row of numbers -/
theorem row_VR {M : Nat → Prop} {G : Gh} {s : List Ob} {w w' : World} (hS : Sim M G s w) {key : TypeId} {v : Value} {n : Nat} {ss : List Int} (hn : n = ss.length) (h : w'.ownsRow w.heap.size key 1 v n (ss.map (Value.int .i64))) :
    VR0 (G.upto w.heap.size) w' (dn (.tl (.int .i64) ss .unk)) v := by
  subst hn
  show VR0 _ _ (.list (ss.flatMap (cellsOf (.int .i64))) ss.length .unk) v
  rw [cellsOf_ints]
  simp only [VR0]
  obtain ⟨_, h⟩ := h
  rcases h with ⟨rfl, h0⟩ | ⟨g, cap, cur, rfl, hb, hg, hc, _, _, ht⟩
  · have : ss = [] := List.length_eq_zero_iff.1 h0
    subst this
    exact ⟨none, 0, rfl, Nat.le_refl _, (fun h => by cases h), .inl rfl⟩
  · refine ⟨_, cap, rfl, hc, (fun h => by cases h), .inr ⟨g, 0, ss.map (Value.int .i64), rfl, ⟨?_, ?_, ?_⟩, ?_, VRs0_ints ss⟩⟩
    · rcases Nat.lt_or_ge g w'.heap.size with hh | hh
      · exact hh
      · rw [Array.getElem?_eq_none hh] at hg; cases hg
    · rintro ⟨i, hi, hl, e⟩
      have : G.mu i < w.heap.size := hS.lt hi hl
      have e' : G.mu i = g := e
      omega
    · intro ho
      have : (if g < w.heap.size then G.own g else false) = true := ho
      rw [if_neg (by omega)] at this
      cases this
    · intro i v hi
      rw [← ht, List.getElem?_take] at hi
      split at hi
      · simp only [World.cell?, hg, Nat.zero_add]
        simpa using hi
      · cases hi
theorem row_Ok {P : Program} {f : FuncId} {args : List AV} {s : List Ob} {ss : List Int}
    (h : ∀ M G w (cargs : List Value), Sim M G s w → VRs0 G w args cargs → Calls P f cargs.toArray w fun e w' => ∃ v key n, e = .returned v ∧ n = ss.length ∧ w'.ownsRow w.heap.size key 1 v n (ss.map (Value.int .i64)) ∧ Below w.heap.size w w') :
    Ok P f args s (dn (.tl (.int .i64) ss .unk)) s := by
  intro M G w cargs hS hG hv
  refine (h M G w cargs hS hv).mono ?_
  rintro e w' ⟨v, key, n, rfl, hn, hr, hb⟩
  have hg := Below.grownBy0 hb
  have hm := More.upto G w
  exact ⟨v, _, rfl, ⟨row_VR hS hn hr, OwnC.of_plain rfl⟩, hS.toS.grow hg hm rfl, (Ext.grow hg hm).mono fun _ _ h => h.elim⟩

def keysE (l : List TV) (c : Int) (β : Type) (k : TV → Option β) : Option β := match entsT l with
  | some es => cond (goodE c es) (forceX (.tl (.int .i64) (sortI (es.map (·.1))) .unk) k) none
  | none => none
def keysAt (s : List TOb) (j : Nat) (β : Type) (k : TV → Option β) : Option β := match s[j]? with
  | some (.cells (.int .i64 c :: l) t true) => cond (Nat.beq t mapT) (keysE l c β k) none
  | _ => none
def sortAt (s : List TOb) (i : Nat) (β : Type) (k : TV → Option β) : Option β := match s[i]? with
  | some (.cells (.mapr j :: _) t true) => cond (Nat.beq t mapT) none (keysAt s j β k)
  | some (.cells (.mapn :: _) t true) => cond (Nat.beq t mapT) none (k (.tl (.int .i64) [] .unk))
  | _ => none
def sortE (g : FuncId) : Ent := fun β args s k => match args with
  | [.func (.func g') [.ref i 0]] => cond (Nat.beq g' g) (sortAt s i β fun v => k v s) none
  | _ => none
theorem sortE_sound {P : Program} {f g : FuncId} {key : TypeId} (H : SortC P f g key) : EntSound P f (sortE g) := by
  intro β args s k b h
  refine ⟨H.en, ?_⟩
  unfold sortE at h
  split at h
  case h_2 => cases h
  rename_i g' i
  obtain ⟨hg, h2⟩ := cond_some h
  clear h
  have h := h2
  clear h2
  have hg := Nat.eq_of_beq_eq_true hg
  subst hg
  unfold sortAt at h
  split at h
  · rename_i j cs t hi
    cases ht : Nat.beq t mapT with
    | true => rw [ht] at h; cases h
    | false =>
      rw [ht] at h
      have htm : t ≠ mapT := fun e => by subst e; rw [Nat.beq_refl] at ht; cases ht
      change keysAt s j β (fun v => k v s) = some b at h
      unfold keysAt at h
      split at h
      case h_2 => cases h
      rename_i c l t2 hj
      obtain ⟨ht2, h2⟩ := cond_some h
      clear h
      have h := h2
      clear h2
      have ht2 := Nat.eq_of_beq_eq_true ht2
      subst ht2
      unfold keysE at h
      split at h
      case h_2 => cases h
      rename_i es he
      obtain ⟨hgd, h2⟩ := cond_some h
      clear h
      have h := h2
      clear h2
      rw [forceX_eq] at h
      refine ⟨_, s, ?_, h⟩
      refine row_Ok fun M G w cargs hS hv => ?_
      simp only [dns, dn, VRs0, VR0] at hv
      obtain ⟨v, vs, rfl, ⟨us, rfl, u, us', rfl, ⟨rfl, hin⟩, rfl⟩, rfl⟩ := hv
      obtain ⟨vb, hc, hvb⟩ := hS.cellVR (i := i) (k := 0) (o := dnO (.cells (.mapr j :: cs) t true)) (a := .mapr j) (by rw [dnS_get, hi]; rfl) rfl htm rfl
      have hvb := hvb.1
      simp only [VR0] at hvb
      obtain ⟨rfl, hjn⟩ := hvb
      have hom := ownsMap_of H.ty hS hj he hgd
      have hp : (intKeys (.map ((es.map fun p => (Lit.int .i64 p.1, (DataW.nil : DataW Unit))).foldr DataW.insert []))).Perm (es.map (·.1)) := by
        show (List.map _ _).Perm _
        refine ((sorted_perm _).map _).trans ?_
        rw [List.map_map]
        exact .of_eq rfl
      have hsz : Maps.size (.map ((es.map fun p => (Lit.int .i64 p.1, (DataW.nil : DataW Unit))).foldr DataW.insert [])) ≤ 1000 := by
        show List.length _ ≤ 1000
        rw [(sorted_perm _).length_eq, List.length_map]
        unfold goodE at hgd
        rw [Bool.and_eq_true, Nat.ble_eq] at hgd
        exact hgd.1
      refine (H.at_ (G.mu i) (G.mu j) es.length _ _ w (hS.lt hin (hS.live i _ (by rw [dnS_get, hi]; rfl) rfl)) hc hom hsz).mono ?_
      rintro e w' ⟨v, ss, rfl, hperm, hrow, hb⟩
      have hq := hperm.trans hp
      rw [mergeSort_is hq] at hrow
      exact ⟨v, _, _, rfl, by rw [(sortI_perm _).length_eq]; exact hq.length_eq, hrow, hb⟩
  · rename_i cs t hi
    cases ht : Nat.beq t mapT with
    | true => rw [ht] at h; cases h
    | false =>
      rw [ht] at h
      have htm : t ≠ mapT := fun e => by subst e; rw [Nat.beq_refl] at ht; cases ht
      refine ⟨_, s, ?_, h⟩
      refine row_Ok fun M G w cargs hS hv => ?_
      simp only [dns, dn, VRs0, VR0] at hv
      obtain ⟨v, vs, rfl, ⟨us, rfl, u, us', rfl, ⟨rfl, hin⟩, rfl⟩, rfl⟩ := hv
      obtain ⟨vb, hc, hvb⟩ := hS.cellVR (i := i) (k := 0) (o := dnO (.cells (.mapn :: cs) t true)) (a := .mapn) (by rw [dnS_get, hi]; rfl) rfl htm rfl
      have hvb := hvb.1
      simp only [VR0] at hvb
      subst hvb
      refine (H.nil (G.mu i) w (hS.lt hin (hS.live i _ (by rw [dnS_get, hi]; rfl) rfl)) hc).mono ?_
      rintro e w' ⟨rfl, hb⟩
      exact ⟨_, key, 0, rfl, rfl, ⟨rfl, .inl ⟨rfl, rfl⟩⟩, hb⟩
  · cases h
end
end Go.Proofs.YtmacghaihlfcpaaGreat.Abs

namespace Go.Proofs.YtmacghaihlfcpaaGreat.Abs
open Go Go.Proofs Go.RowKit Go.Maps Go.Sort Go.Shelf
theorem sorts57 (m : Nat) : AnyZI.SortsIn Tryz.prog Tryz.sorted57_ren Fence.wide m :=
  ⟨fun blk off cap ss W hH hblk hsz => callsIn_wide.2 (AnyM.slices_Sort_int Tryz.sort80 blk off cap ss W hH hblk hsz),
   fun p cap W => callsIn_wide.2 (AnyM.slices_Sort_int_none Tryz.sort80 p cap W)⟩
theorem maxN0 : (1000 : Nat) ≤ maxLen := by decide
theorem sortC84 : SortC Tryz.prog 57 84 3 where
  en := by kernel_rfl
  ty := Tryz.underlying3
  at_ Bm b nn D0 R w h1 h2 h3 h4 := by
    have hseq : SeqGives Fence.wide 2 Tryz.prog 84 #[.pointer (some ⟨Bm, 0, none⟩)] encZ (fun ss => ss.Perm (intKeys D0)) (Maps.size D0) w :=
      AnyZI.keys_gives (ρ := Tryz.keys63_ren) { Tryz.keys63 with } Fence.wide _ trivial rfl (by omega) Bm b nn D0 w h1 h2 h3
    have cS := AnyZI.sorted_in Tryz.sorted57 Fence.wide 5 trivial trivial trivial trivial rfl (by omega) (sorts57 _) (enters_of Tryz.func80 (by kernel_rfl) rfl) 84 #[.pointer (some ⟨Bm, 0, none⟩)] trivial (enters_of Tryz.func84 (by kernel_rfl) rfl) _ _ (Nat.le_trans h4 maxN0) (by omega) w hseq
    change CallsIn _ _ Tryz.prog 57 _ _ _ at cS
    refine (callsIn_wide.1 cS).mono ?_
    rintro e w' ⟨v, ss, rfl, hp, hr, hn, hb⟩
    exact ⟨v, ss, rfl, hp, hr, hb⟩
  nil Bm w h1 h2 := by
    have hseq : SeqGives Fence.wide 2 Tryz.prog 84 #[.pointer (some ⟨Bm, 0, none⟩)] encZ (fun ss : List Int => ss = []) 0 w :=
      AnyZI.keys_gives_nil (ρ := Tryz.keys63_ren) { Tryz.keys63 with } Fence.wide _ trivial rfl Bm w h1 h2
    have cS := AnyZI.sorted_in Tryz.sorted57 Fence.wide 5 trivial trivial trivial trivial rfl (by omega) (sorts57 _) (enters_of Tryz.func80 (by kernel_rfl) rfl) 84 #[.pointer (some ⟨Bm, 0, none⟩)] trivial (enters_of Tryz.func84 (by kernel_rfl) rfl) _ 0 (Nat.zero_le _) (by omega) w hseq
    change CallsIn _ _ Tryz.prog 57 _ _ _ at cS
    refine (callsIn_wide.1 cS).mono ?_
    rintro e w' ⟨v, ss, rfl, hp, hr, hn, hb⟩
    exact ⟨by rw [hn.2 hp], hb⟩
theorem sortC81 : SortC Tryz.prog 57 81 3 where
  en := by kernel_rfl
  ty := Tryz.underlying3
  at_ Bm b nn D0 R w h1 h2 h3 h4 := by
    have hseq : SeqGives Fence.wide 2 Tryz.prog 81 #[.pointer (some ⟨Bm, 0, none⟩)] encZ (fun ss => ss.Perm (intKeys D0)) (Maps.size D0) w :=
      AnyZI.keys_gives (ρ := Tryz.keys58_ren) { Tryz.keys58 with } Fence.wide _ trivial rfl (by omega) Bm b nn D0 w h1 h2 h3
    have cS := AnyZI.sorted_in Tryz.sorted57 Fence.wide 5 trivial trivial trivial trivial rfl (by omega) (sorts57 _) (enters_of Tryz.func80 (by kernel_rfl) rfl) 81 #[.pointer (some ⟨Bm, 0, none⟩)] trivial (enters_of Tryz.func81 (by kernel_rfl) rfl) _ _ (Nat.le_trans h4 maxN0) (by omega) w hseq
    change CallsIn _ _ Tryz.prog 57 _ _ _ at cS
    refine (callsIn_wide.1 cS).mono ?_
    rintro e w' ⟨v, ss, rfl, hp, hr, hn, hb⟩
    exact ⟨v, ss, rfl, hp, hr, hb⟩
  nil Bm w h1 h2 := by
    have hseq : SeqGives Fence.wide 2 Tryz.prog 81 #[.pointer (some ⟨Bm, 0, none⟩)] encZ (fun ss : List Int => ss = []) 0 w :=
      AnyZI.keys_gives_nil (ρ := Tryz.keys58_ren) { Tryz.keys58 with } Fence.wide _ trivial rfl Bm w h1 h2
    have cS := AnyZI.sorted_in Tryz.sorted57 Fence.wide 5 trivial trivial trivial trivial rfl (by omega) (sorts57 _) (enters_of Tryz.func80 (by kernel_rfl) rfl) 81 #[.pointer (some ⟨Bm, 0, none⟩)] trivial (enters_of Tryz.func81 (by kernel_rfl) rfl) _ 0 (Nat.zero_le _) (by omega) w hseq
    change CallsIn _ _ Tryz.prog 57 _ _ _ at cS
    refine (callsIn_wide.1 cS).mono ?_
    rintro e w' ⟨v, ss, rfl, hp, hr, hn, hb⟩
    exact ⟨by rw [hn.2 hp], hb⟩
theorem sortC111 : SortC Tryz.prog 57 111 3 where
  en := by kernel_rfl
  ty := Tryz.underlying3
  at_ Bm b nn D0 R w h1 h2 h3 h4 := by
    have hseq : SeqGives Fence.wide 2 Tryz.prog 111 #[.pointer (some ⟨Bm, 0, none⟩)] encZ (fun ss => ss.Perm (intKeys D0)) (Maps.size D0) w :=
      AnyZI.keys_gives (ρ := Tryz.keys74_ren) { Tryz.keys74 with } Fence.wide _ trivial rfl (by omega) Bm b nn D0 w h1 h2 h3
    have cS := AnyZI.sorted_in Tryz.sorted57 Fence.wide 5 trivial trivial trivial trivial rfl (by omega) (sorts57 _) (enters_of Tryz.func80 (by kernel_rfl) rfl) 111 #[.pointer (some ⟨Bm, 0, none⟩)] trivial (enters_of Tryz.func111 (by kernel_rfl) rfl) _ _ (Nat.le_trans h4 maxN0) (by omega) w hseq
    change CallsIn _ _ Tryz.prog 57 _ _ _ at cS
    refine (callsIn_wide.1 cS).mono ?_
    rintro e w' ⟨v, ss, rfl, hp, hr, hn, hb⟩
    exact ⟨v, ss, rfl, hp, hr, hb⟩
  nil Bm w h1 h2 := by
    have hseq : SeqGives Fence.wide 2 Tryz.prog 111 #[.pointer (some ⟨Bm, 0, none⟩)] encZ (fun ss : List Int => ss = []) 0 w :=
      AnyZI.keys_gives_nil (ρ := Tryz.keys74_ren) { Tryz.keys74 with } Fence.wide _ trivial rfl Bm w h1 h2
    have cS := AnyZI.sorted_in Tryz.sorted57 Fence.wide 5 trivial trivial trivial trivial rfl (by omega) (sorts57 _) (enters_of Tryz.func80 (by kernel_rfl) rfl) 111 #[.pointer (some ⟨Bm, 0, none⟩)] trivial (enters_of Tryz.func111 (by kernel_rfl) rfl) _ 0 (Nat.zero_le _) (by omega) w hseq
    change CallsIn _ _ Tryz.prog 57 _ _ _ at cS
    refine (callsIn_wide.1 cS).mono ?_
    rintro e w' ⟨v, ss, rfl, hp, hr, hn, hb⟩
    exact ⟨by rw [hn.2 hp], hb⟩
noncomputable section
/-- slices.Sorted, at either map's keys -/
def sorted57E : Ent := fun β args s k => match args with
  | .func (.func g) _ :: _ => Bool.rec (Bool.rec (sortE 111 β args s k) (sortE 81 β args s k) (Nat.beq g 81)) (sortE 84 β args s k) (Nat.beq g 84)
  | _ => none
theorem sorted57_sound : EntSound Tryz.prog 57 sorted57E := by
  intro β args s k b h
  unfold sorted57E at h
  split at h
  · rename_i g _ _
    cases hb : Nat.beq g 84 with
    | true => rw [hb] at h; exact sortE_sound sortC84 β _ s k b h
    | false =>
      rw [hb] at h
      cases hb2 : Nat.beq g 81 with
      | true => rw [hb2] at h; exact sortE_sound sortC81 β _ s k b h
      | false => rw [hb2] at h; exact sortE_sound sortC111 β _ s k b h
  · cases h
end
end Go.Proofs.YtmacghaihlfcpaaGreat.Abs

namespace Go.Proofs.YtmacghaihlfcpaaGreat.Abs
open Go Go.Proofs Go.RowKit Go.Maps Go.Sort Go.Shelf
set_option maxHeartbeats 1000000 in
set_option maxRecDepth 1000000 in
theorem clone38 (A : Option Addr) (cap : Nat) (w : World) : Calls Tryz.prog 38 #[.slice A 0 cap] w fun e w' => (∃ A', e = .returned (.slice A' 0 0)) ∧ Below w.heap.size w w' := by
  refine calls_of_wp Tryz.func38 rfl ?_
  simp only [Tryz.ntmps38, List.size_toArray, List.length_cons, List.length_nil, Nat.reduceAdd, Nat.reduceSub, Array.replicate_succ, Array.replicate_zero, List.push_toArray, List.append_toArray, List.nil_append, List.cons_append]
  have t85 := Tryz.underlying85
  have q85 : ∀ (w : World) (a : Option Addr) (n c n' c' : Nat), (binOp .eql 85 (.slice a n c) (.slice none n' c')).run Tryz.prog w = .ok (.bool a.isNone) w := fun w a n c n' c' => Lib.run_eql_slice_nil w _ _ a n c n' c' Tryz.underlying85
  have u85 : ∀ w, Sem.run Tryz.prog (underlying 85) w = .ok (TypeDesc.slice 103) w := run_underlying Tryz.underlying85
  cases A with
  | none =>
    go_wp2
    go_ret
    exact ⟨⟨_, rfl⟩, Below.refl _ _⟩
  | some a =>
    go_wp2
    go_ret
    exact ⟨⟨_, rfl⟩, (Below.refl _ w).alloc (Nat.le_refl _) _⟩
set_option maxHeartbeats 1000000 in
set_option maxRecDepth 1000000 in
theorem clone76 (A : Option Addr) (cap : Nat) (w : World) : Calls Tryz.prog 76 #[.slice A 0 cap] w fun e w' => (∃ A', e = .returned (.slice A' 0 0)) ∧ Below w.heap.size w w' := by
  refine calls_of_wp Tryz.func76 rfl ?_
  simp only [Tryz.ntmps76, List.size_toArray, List.length_cons, List.length_nil, Nat.reduceAdd, Nat.reduceSub, Array.replicate_succ, Array.replicate_zero, List.push_toArray, List.append_toArray, List.nil_append, List.cons_append]
  have t65 := Tryz.underlying65
  have q65 : ∀ (w : World) (a : Option Addr) (n c n' c' : Nat), (binOp .eql 65 (.slice a n c) (.slice none n' c')).run Tryz.prog w = .ok (.bool a.isNone) w := fun w a n c n' c' => Lib.run_eql_slice_nil w _ _ a n c n' c' Tryz.underlying65
  have u65 : ∀ w, Sem.run Tryz.prog (underlying 65) w = .ok (TypeDesc.slice 151) w := run_underlying Tryz.underlying65
  cases A with
  | none =>
    go_wp2
    go_ret
    exact ⟨⟨_, rfl⟩, Below.refl _ _⟩
  | some a =>
    go_wp2
    go_ret
    exact ⟨⟨_, rfl⟩, (Below.refl _ w).alloc (Nat.le_refl _) _⟩
noncomputable section
theorem empty_Ok {P : Program} {f : FuncId} {g : Tag} {s : List Ob} (h : ∀ (A : Option Addr) (cap : Nat) (w : World), Calls P f #[.slice A 0 cap] w fun e w' => (∃ A', e = .returned (.slice A' 0 0)) ∧ Below w.heap.size w w') :
    Ok P f (dns [.ll [] 0 g]) s (dn (.ll [] 0 .full)) s := by
  intro M G w cargs hS hG hv
  simp only [dns, dn, VRs0, VR0] at hv
  obtain ⟨v, vs, rfl, ⟨A, cap, rfl, _⟩, rfl⟩ := hv
  refine (h A cap w).mono ?_
  rintro e w' ⟨⟨A', rfl⟩, hb⟩
  have hg := Below.grownBy0 hb
  have hm : More G w G := ⟨Nat.le_refl _, fun _ _ => rfl, fun _ _ => rfl, fun i h1 h2 => by omega, fun _ _ => rfl, fun _ _ => rfl, fun _ _ => rfl⟩
  refine ⟨.slice A' 0 0, G, rfl, ⟨?_, OwnC.of_plain rfl⟩, hS.toS.grow hg hm rfl, (Ext.grow hg hm).mono fun _ _ h => h.elim⟩
  simp only [dn, dns, VR0]
  exact ⟨A', 0, rfl, Nat.le_refl _, fun _ => rfl, .inl (by trivial)⟩
/-- a copy of a row: of an empty one as was proved; else as the code runs -/
def cloneE (C : CallT) (f : FuncId) : Ent := fun β args s k => match args with
  | [.ll [] 0 _] => k (.ll [] 0 .full) s
  | args => C f β args s k
theorem cloneE_sound {P : Program} {C : CallT} (hC : CallSound P C) {f : FuncId} (hen : enters P f = true) (h : ∀ (A : Option Addr) (cap : Nat) (w : World), Calls P f #[.slice A 0 cap] w fun e w' => (∃ A', e = .returned (.slice A' 0 0)) ∧ Below w.heap.size w w') : EntSound P f (cloneE C f) := by
  intro β args s k b hk
  unfold cloneE at hk
  split at hk
  · exact ⟨hen, _, s, empty_Ok h, hk⟩
  · exact hC f β args s k b hk
end
end Go.Proofs.YtmacghaihlfcpaaGreat.Abs
