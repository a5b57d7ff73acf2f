/- A region whose order is open: a head of operations that come in any order, a tail of operations that come one behind the other. One operation of the head may turn the store. -/
import Derived.Test.YtgicljncknbgcaaAJ
import Derived.StillTail
namespace Go.Proofs.Ytgicljncknbgcaa.Abs
open Go Go.ChangeShapes Go.WideShapes Go.ChangeAt Go.RowKit
set_option linter.unusedVariables false
set_option linter.unusedSimpArgs false

def readsOf (A : Array Oper) (o : Oper) : List Nat := o.looksAt A
/-- what an operation of the head does, in whatever order: of the frame it knows what it reads alone -/
def HStep (P : Program) (A : Array Oper) (o : Oper) (fr : List AV) (s : List Ob) (ts : List Nat) (v : AV) (s' : List Ob) : Prop :=
  ∀ M G w a, Fresh M w → Sim M G s w → FR M G w (aForget (readsOf A o) fr) a → ∀ (K : Act → World → Prop) (Q : Exit → Act → World → Prop),
    (∀ cv G' w' M', (∀ b, M' b → w.heap.size ≤ b ∨ (M b ∧ G.tg b ∈ ts)) → Ext M' G w G' w' → Sim M G' s' w' → VR M G' w' v cv → K (a.put o.dst cv) w') → o.wp P a w K Q

theorem aEval_forget {A : Array Oper} {o : Oper} {fr : List AV} {x : Operand} (hx : x ∈ o.op.operands) : aEval (aForget (readsOf A o) fr) x = aEval fr x := by
  cases x with
  | tmp t =>
    have hm : t ∈ readsOf A o := by
      unfold readsOf Oper.looksAt
      exact List.mem_append_left _ (List.mem_filterMap.2 ⟨.tmp t, by simpa using hx, rfl⟩)
    simp only [aEval]
    unfold aForget
    rw [List.getD_eq_getElem?_getD, List.getElem?_map, List.getD_eq_getElem?_getD]
    by_cases h : t < fr.length
    · rw [List.getElem?_range h]
      simp [hm]
    · rw [List.getElem?_eq_none (by simpa using h), List.getElem?_eq_none (Nat.le_of_not_lt h)]
      rfl
  | _ => rfl
theorem aPureV_congr {P : Program} {fr fr' : List AV} {s : List Ob} {o : Oper} (h : ∀ x ∈ o.op.operands, aEval fr' x = aEval fr x) : aPureV P fr' s o = aPureV P fr s o := by
  obtain ⟨dst, op, type, pos, after, guard⟩ := o
  have parts : ∀ ps : Array (Nat × Operand), (∀ x ∈ ps.toList.map (·.2), aEval fr' x = aEval fr x) → aParts fr' ps = aParts fr ps := by
    intro ps hp
    unfold aParts
    refine List.map_congr_left fun p hm => ?_
    rw [hp p.2 (List.mem_map.2 ⟨p, hm, rfl⟩)]
  cases op <;> simp only [Op.operands] at h <;> simp only [aPureV]
  case build t ps => rw [parts ps fun x hx => h x (by simpa using hx)]
  case buildSlice t n ps => rw [parts ps fun x hx => h x (by simpa using hx)]
  case makeFunc fn first captured =>
    rw [List.map_congr_left (l := captured.toList) (f := fun x => (aEval fr' x).plain) (g := fun x => (aEval fr x).plain) fun x hx => by
      show (aEval fr' x).plain = (aEval fr x).plain
      rw [h x (Array.mem_append.2 (.inr (by simpa using hx)))]]
  case call c =>
    cases hc : c.callee <;> try rfl
    rename_i b
    have hargs : ∀ x ∈ c.args.toList, aEval fr' x = aEval fr x := fun x hx => h x (by unfold Call.operands; exact Array.mem_append.2 (.inr (by simpa using hx)))
    cases b <;> try rfl
    case len =>
      cases ha : c.args.toList with
      | nil => rfl
      | cons x l =>
        cases l with
        | nil =>
          have e := hargs x (by rw [ha]; simp)
          cases c.argTypes.toList with
          | nil => rfl
          | cons t l =>
            cases l with
            | nil => show aLen P t (aEval fr' x) = aLen P t (aEval fr x); rw [e]
            | cons _ _ => rfl
        | cons y l => rfl
    all_goals
      cases ha : c.args.toList with
      | nil => rfl
      | cons x l =>
        cases l with
        | nil => rfl
        | cons y l =>
          cases l with
          | nil =>
            have e := hargs x (by rw [ha]; simp)
            have e2 := hargs y (by rw [ha]; simp)
            simp only [e, e2]
          | cons _ _ => rfl
  case slice t x lo hi mx =>
    cases mx <;> simp only
    have hb : ∀ (d : Nat) (b : Option Operand), (∀ y ∈ b, aEval fr' y = aEval fr y) → aBound fr' d b = aBound fr d b := by
      intro d b hb
      cases b with
      | none => rfl
      | some y => simp only [aBound]; rw [hb y rfl]
    unfold aSlice
    have hx := h x (by simp)
    rw [hx]
    have h1 : ∀ d, aBound fr' d lo = aBound fr d lo := fun d => hb d lo fun y hy => h y (by cases lo <;> simp_all)
    have h2 : ∀ d, aBound fr' d hi = aBound fr d hi := fun d => hb d hi fun y hy => h y (by cases hi <;> simp_all)
    simp only [h1, h2]
  all_goals (first | rfl | (simp_all; done))
theorem HStep_pure {P : Program} {A : Array Oper} {o : Oper} {fr : List AV} {s : List Ob} {ts : List Nat} {v : AV} (h : aPureV P fr s o = some v) : HStep P A o fr s ts v s := by
  have h' : aPureV P (aForget (readsOf A o) fr) s o = some v := by rw [aPureV_congr fun x hx => aEval_forget hx]; exact h
  intro M G w a hF hS hf K Q hK
  rcases Pure_det h' with hs | hs
  · obtain ⟨cv, h1, h2⟩ := hs M G w a hS hf
    unfold Oper.wp
    rw [h1, Oper.upon_value]
    exact hK cv G w (fun _ => False) (fun _ h => h.elim) (Ext.refl _ _ _) hS h2
  · obtain ⟨cv, ob, h1, h2⟩ := hs M G w a hS hf
    have hg := grown_alloc w ob
    have hm := More.addForeign G w
    unfold Oper.wp
    rw [h1, Oper.upon_value]
    exact hK cv _ _ (fun _ => False) (fun _ h => h.elim) (Ext.grow hg hm) (hS.grow hg hm rfl) h2
theorem HStep_call {P : Program} {A : Array Oper} {o : Oper} {fr : List AV} {s s' : List Ob} {ts : List Nat} {r : AV} {c : Call} {x : Operand} {f : FuncId} {fcs : List AV} (ho : o.op = .call c) (hc : c.callee = .value x) (hx : aEval fr x = .func (.func f) fcs)
    (hbody : enters P f = true) (hts : ∀ t ∈ storeMarks s, t ∈ ts)
    (hok : Ok P f ((c.args.toList.map fun y => (aEval fr y).soft) ++ fcs) s r s') (hr : r.mark = none) : HStep P A o fr s ts r s' := by
  intro M G w a hF hS hf K Q hK
  have hxo : ∀ y ∈ o.op.operands, aEval (aForget (readsOf A o) fr) y = aEval fr y := fun y hy => aEval_forget hy
  have hx' : aEval (aForget (readsOf A o) fr) x = .func (.func f) fcs := by
    rw [hxo x (by simp [ho, Op.operands, Call.operands, hc])]
    exact hx
  have hargs' : (c.args.toList.map fun y => (aEval (aForget (readsOf A o) fr) y).soft) = c.args.toList.map fun y => (aEval fr y).soft :=
    List.map_congr_left fun y hy => by rw [hxo y (by simp [ho, Op.operands, Call.operands]; right; simpa using hy)]
  have hsub := fun b (hb : MofS M G s w b) => hS.own_M hb
  have hcall := Call_wp (a := a) ho hc hx' hbody (by rw [hargs']; exact hok) hS hf
  refine hcall K Q ?_
  intro v G' w' h1 h2 h3
  refine hK v G' w' (MofS M G s w) (fun b hb => ?_) h3 (h2.monoM fun b hb => ?_) ⟨h1, OwnC.of_plain hr⟩
  · rcases hsub b hb with h | ⟨h, t, ht, hmem⟩
    · exact .inl h
    · exact .inr ⟨h, by rw [ht]; exact hts t hmem⟩
  · rcases hsub b hb with h | ⟨h, _⟩
    · exact hF b h
    · exact h

/-! which operations are ahead of which -/
def ancB (A : Array Oper) : Nat → Nat → Nat → Bool
  | 0, _, _ => false
  | f + 1, j, i => match A[j]? with
    | none => false
    | some o => o.after.toList.any fun e => Region.binds .any e && (e.on == i || ancB A f e.on i)
def Closed (A : Array Oper) (listed : Array Bool) : Prop := ∀ (j : Nat) (o : Oper), A[j]? = some o → listed.getD j false = true → ∀ e ∈ o.after, Region.binds .any e = true → listed.getD e.on false = true
theorem anc_listed {A : Array Oper} {listed : Array Bool} (hc : Closed A listed) : ∀ (f j i : Nat) (o : Oper), A[j]? = some o → (∀ e ∈ o.after, Region.binds .any e = true → listed.getD e.on false = true) → ancB A f j i = true → listed.getD i false = true
  | 0, _, _, _, _, _, h => by simp [ancB] at h
  | f + 1, j, i, o, hj, hp, h => by
    simp only [ancB, hj, List.any_eq_true] at h
    obtain ⟨e, he, hb⟩ := h
    simp only [Bool.and_eq_true, Bool.or_eq_true, beq_iff_eq] at hb
    obtain ⟨hb1, hb2⟩ := hb
    have h1 := hp e (by simpa using he) hb1
    rcases hb2 with hb2 | hb2
    · rw [← hb2]; exact h1
    · cases ho : A[e.on]? with
      | none => cases f <;> simp [ancB, ho] at hb2
      | some o' => exact anc_listed hc f e.on i o' ho (hc e.on o' ho h1) hb2
/-- the form of such a region: n operations at its head, the others behind them, one by one -/
def drawOK (A : Array Oper) (n L : Nat) : Bool :=
  decide (n ≤ A.size) &&
  ((List.range A.size).all fun i => match A[i]? with | some o => (o.after.toList.all fun e => !Region.binds .any e || decide (e.on < i)) && !isSelect o.op | none => true) &&
  ((List.range n).all fun i => match (A[i]?).bind (·.dst) with
    | none => true
    | some d => decide (d < L) && (List.range n).all fun j => match A[j]? with
      | none => true
      | some o => (!(o.looksAt A).contains d || (if i = j then false else if i < j then ancB A A.size j i else ancB A A.size i j)) && (i == j || o.dst != some d)) &&
  ((List.range A.size).all fun t => decide (t < n) || (List.range n).all fun i => ancB A A.size t i) &&
  Region.seqB .any A (A.size - n) n ((List.range A.size).map fun i => decide (i < n)).toArray

/-- the operation i of the head at the stores that it may meet; e: the operation that turns the store -/
def HCond (P : Program) (A : Array Oper) (e : Option Nat) (s0 s1 : List Ob) (ts : List Nat) (fr : List AV) (i : Nat) (o : Oper) (v : AV) : Prop :=
  match e with
  | none => HStep P A o fr s0 ts v s0
  | some e => if e = i then HStep P A o fr s0 ts v s1 else (ancB A A.size i e = false → HStep P A o fr s0 ts v s0) ∧ (ancB A A.size e i = false → HStep P A o fr s1 ts v s1)
/-- the head, one by one in the text's order -/
def HD (P : Program) (A : Array Oper) (e : Option Nat) (s0 s1 : List Ob) (ts : List Nat) : List Oper → Nat → List AV → (List AV → Prop) → Prop
  | [], _, fr, K => K fr
  | o :: l, i, fr, K =>
    match aWanted A fr o with
    | some false => (e = some i → s1 = s0) ∧ HD P A e s0 s1 ts l (i + 1) (aPut fr o.dst (.tuple [])) K
    | none => False
    | some true => ∃ v, HCond P A e s0 s1 ts fr i o v ∧ (∀ t ∈ ts, v.mark ≠ some t) ∧
      HD P A e s0 s1 ts l (i + 1) (aPut fr o.dst v) K
def frAt (A : Array Oper) (fr : List AV) (val : Nat → AV) : Nat → List AV
  | 0 => fr
  | i + 1 => aPut (frAt A fr val i) ((A[i]?).bind (·.dst)) (val i)
theorem frAt_length (A : Array Oper) (fr : List AV) (val : Nat → AV) : ∀ i, (frAt A fr val i).length = fr.length
  | 0 => rfl
  | i + 1 => by
    simp only [frAt]
    cases (A[i]?).bind (·.dst) with
    | none => exact frAt_length A fr val i
    | some d => simp [aPut, frAt_length A fr val i]
/-- what is known of the head's operation i -/
def HFact (P : Program) (A : Array Oper) (e : Option Nat) (s0 s1 : List Ob) (ts : List Nat) (fr : List AV) (val : Nat → AV) (i : Nat) (o : Oper) : Prop :=
  (aWanted A (frAt A fr val i) o = some false ∧ val i = .tuple [] ∧ (e = some i → s1 = s0)) ∨
  (aWanted A (frAt A fr val i) o = some true ∧ (∀ t ∈ ts, (val i).mark ≠ some t) ∧ HCond P A e s0 s1 ts (frAt A fr val i) i o (val i))
theorem HD_facts {P : Program} {A : Array Oper} {e : Option Nat} {s0 s1 : List Ob} {ts : List Nat} {fr0 : List AV} {K : List AV → Prop} : ∀ (l : List Oper) (i : Nat) (val : Nat → AV),
    (∀ j, l[j]? = if j < l.length then A[i + j]? else none) → (∀ j < i, ∀ o, A[j]? = some o → HFact P A e s0 s1 ts fr0 val j o) → HD P A e s0 s1 ts l i (frAt A fr0 val i) K →
    ∃ val', (∀ j < i + l.length, ∀ o, A[j]? = some o → HFact P A e s0 s1 ts fr0 val' j o) ∧ K (frAt A fr0 val' (i + l.length))
  | [], i, val, hl, hj, h => ⟨val, by simpa using hj, h⟩
  | o :: l, i, val, hl, hj, h => by
    have hi : A[i]? = some o := by simpa using (hl 0).symm
    have hl' : ∀ j, l[j]? = if j < l.length then A[i + 1 + j]? else none := fun j => by
      have := hl (j + 1)
      simpa [Nat.add_assoc, Nat.add_comm 1 j] using this
    -- the values from here on
    have step : ∀ v, HFact P A e s0 s1 ts fr0 (fun k => if k = i then v else val k) i o → HD P A e s0 s1 ts l (i + 1) (aPut (frAt A fr0 val i) o.dst v) K →
        ∃ val', (∀ j < i + (o :: l).length, ∀ o', A[j]? = some o' → HFact P A e s0 s1 ts fr0 val' j o') ∧ K (frAt A fr0 val' (i + (o :: l).length)) := by
      intro v hv hd
      have hsame : ∀ k, k ≤ i → frAt A fr0 (fun k => if k = i then v else val k) k = frAt A fr0 val k := by
        intro k
        induction k with
        | zero => intro _; rfl
        | succ k ih =>
          intro hk
          simp only [frAt]
          rw [ih (by omega), if_neg (by omega)]
      have := HD_facts l (i + 1) (fun k => if k = i then v else val k) hl' (fun j hjlt o' ho' => by
        by_cases hji : j = i
        · subst hji
          rw [hi] at ho'
          cases ho'
          exact hv
        · have := hj j (by omega) o' ho'
          unfold HFact at this ⊢
          rw [hsame j (by omega)]
          simp only [if_neg hji]
          exact this) (by simp only [frAt]; rw [hsame i (Nat.le_refl _), hi]; simpa using hd)
      obtain ⟨val', h1, h2⟩ := this
      exact ⟨val', fun j hjlt => h1 j (by simp at hjlt; omega), by rw [show i + (o :: l).length = i + 1 + l.length by simp; omega]; exact h2⟩
    simp only [HD] at h
    split at h
    · rename_i hw
      refine step (.tuple []) (.inl ⟨?_, by simp, h.1⟩) h.2
      have hsame : ∀ k, k ≤ i → frAt A fr0 (fun k => if k = i then AV.tuple [] else val k) k = frAt A fr0 val k := by
        intro k
        induction k with
        | zero => intro _; rfl
        | succ k ih => intro hk; simp only [frAt]; rw [ih (by omega), if_neg (by omega)]
      rw [hsame i (Nat.le_refl _)]
      exact hw
    · exact h.elim
    · rename_i hw
      obtain ⟨v, h1, h2, h3⟩ := h
      have hsame : ∀ k, k ≤ i → frAt A fr0 (fun k => if k = i then v else val k) k = frAt A fr0 val k := by
        intro k
        induction k with
        | zero => intro _; rfl
        | succ k ih => intro hk; simp only [frAt]; rw [ih (by omega), if_neg (by omega)]
      refine step v (.inr ⟨?_, ?_, ?_⟩) h3
      · rw [hsame i (Nat.le_refl _)]; exact hw
      · simpa using h2
      · rw [hsame i (Nat.le_refl _)]
        simpa using h1

theorem drawOK_spec {A : Array Oper} {n L : Nat} (h : drawOK A n L = true) :
    n ≤ A.size ∧ (∀ (i : Nat) (o : Oper), A[i]? = some o → (∀ e ∈ o.after, Region.binds .any e = true → e.on < i) ∧ isSelect o.op = false) ∧
    (∀ (i d : Nat), i < n → (A[i]?).bind (·.dst) = some d → d < L ∧ ∀ (j : Nat) (o : Oper), j < n → A[j]? = some o → (d ∈ o.looksAt A → i ≠ j ∧ (i < j → ancB A A.size j i = true) ∧ (j < i → ancB A A.size i j = true)) ∧ (i ≠ j → o.dst ≠ some d)) ∧
    (∀ t, n ≤ t → t < A.size → ∀ i, i < n → ancB A A.size t i = true) ∧
    Region.seqB .any A (A.size - n) n ((List.range A.size).map fun i => decide (i < n)).toArray = true := by
  unfold drawOK at h
  simp only [Bool.and_eq_true, decide_eq_true_eq, List.all_eq_true, List.mem_range] at h
  obtain ⟨⟨⟨⟨h1, h2⟩, h3⟩, h4⟩, h5⟩ := h
  refine ⟨h1, ?_, ?_, ?_, h5⟩
  · intro i o hi
    have hlt : i < A.size := (Array.getElem?_eq_some_iff.1 hi).1
    have := h2 i hlt
    rw [hi] at this
    simp only [Bool.and_eq_true, List.all_eq_true, Bool.not_eq_true', Bool.or_eq_true, decide_eq_true_eq] at this
    refine ⟨fun e he hb => ?_, this.2⟩
    rcases this.1 e (by simpa using he) with h | h
    · rw [hb] at h; cases h
    · exact h
  · intro i d hi hd
    have := h3 i hi
    rw [hd] at this
    simp only [Bool.and_eq_true, decide_eq_true_eq, List.all_eq_true, List.mem_range] at this
    refine ⟨this.1, fun j o hj ho => ?_⟩
    have hh := this.2 j hj
    rw [ho] at hh
    simp only [Bool.and_eq_true, Bool.or_eq_true, Bool.not_eq_true', beq_iff_eq, bne_iff_ne, ne_eq] at hh
    refine ⟨fun hm => ?_, fun hne => ?_⟩
    · have hc : (o.looksAt A).contains d = true := by simpa using hm
      rcases hh.1 with h0 | h0
      · rw [hc] at h0; cases h0
      · split at h0
        · cases h0
        · rename_i hne
          split at h0
          · rename_i hlt; exact ⟨hne, fun _ => h0, fun hh => by omega⟩
          · rename_i hlt; exact ⟨hne, fun hh => by omega, fun _ => h0⟩
    · rcases hh.2 with h0 | h0
      · exact absurd h0 hne
      · exact h0
  · intro t ht hts i hi
    have := h4 t hts
    simp only [Bool.or_eq_true, decide_eq_true_eq, List.all_eq_true, List.mem_range] at this
    rcases this with h | h
    · omega
    · exact h i hi
theorem aPut_get {fr : List AV} {d : Option Nat} {v : AV} {t : Nat} : (aPut fr d v).getD t .undef = if d = some t ∧ t < fr.length then v else fr.getD t .undef := by
  cases d with
  | none => simp [aPut]
  | some d =>
    simp only [aPut, List.getD_eq_getElem?_getD, List.getElem?_set]
    by_cases h : d = t
    · subst h
      by_cases h2 : d < fr.length
      · simp [h2]
      · simp [h2, List.getElem?_eq_none (Nat.le_of_not_lt h2)]
    · have : ¬ (some d = some t ∧ t < fr.length) := fun hh => h (by simpa using hh.1)
      rw [if_neg h, if_neg this]
/-- a slot of the frame at the operation i -/
theorem frAt_get {A : Array Oper} {fr : List AV} {val : Nat → AV} {t : Nat} : ∀ i, (∀ j < i, (A[j]?).bind (·.dst) = some t → (∀ k < i, k ≠ j → (A[k]?).bind (·.dst) ≠ some t) → t < fr.length → (frAt A fr val i).getD t .undef = val j) ∧ ((∀ j < i, (A[j]?).bind (·.dst) ≠ some t) → (frAt A fr val i).getD t .undef = fr.getD t .undef)
  | 0 => ⟨fun j hj => by omega, fun _ => rfl⟩
  | i + 1 => by
    obtain ⟨h1, h2⟩ := frAt_get (A := A) (fr := fr) (val := val) (t := t) i
    refine ⟨fun j hj hd hu ht => ?_, fun hn => ?_⟩
    · simp only [frAt]
      rw [aPut_get, frAt_length]
      by_cases hji : j = i
      · subst hji
        rw [if_pos ⟨hd, ht⟩]
      · rw [if_neg (fun hh => hu i (by omega) (fun e => hji e.symm) hh.1)]
        exact h1 j (by omega) hd (fun k hk => hu k (by omega)) ht
    · simp only [frAt]
      rw [aPut_get, if_neg (fun hh => hn i (by omega) hh.1)]
      exact h2 fun j hj => hn j (by omega)
theorem put_get {a : Act} {d : Option Tmp} {v : Value} {t : Nat} : (a.put d v).tmps.getD t undef = if d = some t ∧ t < a.tmps.size then v else a.tmps.getD t undef := by
  cases d with
  | none => simp [Act.put]
  | some d =>
    simp only [Act.put, Array.getD_eq_getD_getElem?, Array.getElem?_setIfInBounds]
    by_cases h : d = t
    · subst h
      by_cases h2 : d < a.tmps.size
      · simp [h2]
      · simp [h2]
    · have : ¬ (some d = some t ∧ t < a.tmps.size) := fun hh => h (by simpa using hh.1)
      rw [if_neg h, if_neg this]
theorem put_size (a : Act) (d : Option Tmp) (v : Value) : (a.put d v).tmps.size = a.tmps.size := by cases d <;> simp [Act.put]
theorem put_defers (a : Act) (d : Option Tmp) (v : Value) : (a.put d v).defers = a.defers := by cases d <;> rfl

/-! a draw turns no block -/
mutual
theorem VR0.drawn {G : Gh} {w : World} {n : Nat} : ∀ {a : AV} {v : Value}, VR0 G w a v → VR0 G { w with drawn := n } a v
  | .undef, _, h => by simp only [VR0]
  | .int .., _, h => by simp only [VR0] at h ⊢; exact h
  | .bool .., _, h => by simp only [VR0] at h ⊢; exact h
  | .str .., _, h => by simp only [VR0] at h ⊢; exact h
  | .nilp, _, h => by simp only [VR0] at h ⊢; exact h
  | .ref .., _, h => by simp only [VR0] at h ⊢; exact h
  | .arr .., _, h => by simp only [VR0] at h ⊢; exact h
  | .eptr cs o, _, h => by
    simp only [VR0] at h ⊢
    obtain ⟨b, ob, vs, h1, h2, h3, h4⟩ := h
    exact ⟨b, ob, vs, h1, h2, h3, VRs0.drawn h4⟩
  | .list cs k g, _, h => by
    simp only [VR0] at h ⊢
    obtain ⟨A, cap, h1, h2, h3, h4⟩ := h
    refine ⟨A, cap, h1, h2, h3, h4.imp id ?_⟩
    rintro ⟨b, o, vs, h5, h6, h7, h8⟩
    exact ⟨b, o, vs, h5, h6, h7, VRs0.drawn h8⟩
  | .nilf, _, h => by simp only [VR0] at h ⊢; exact h
  | .func fn cs, _, h => by
    simp only [VR0] at h ⊢
    obtain ⟨vs, h1, h2⟩ := h
    exact ⟨vs, h1, VRs0.drawn h2⟩
  | .agg cs, _, h => by
    simp only [VR0] at h ⊢
    obtain ⟨vs, h1, h2⟩ := h
    exact ⟨vs, h1, VRs0.drawn h2⟩
  | .tuple cs, _, h => by
    simp only [VR0] at h ⊢
    obtain ⟨vs, h1, h2⟩ := h
    exact ⟨vs, h1, VRs0.drawn h2⟩
theorem VRs0.drawn {G : Gh} {w : World} {n : Nat} : ∀ {as : List AV} {vs : List Value}, VRs0 G w as vs → VRs0 G { w with drawn := n } as vs
  | [], _, h => by simp only [VRs0] at h ⊢; exact h
  | a :: as, _, h => by
    simp only [VRs0] at h ⊢
    obtain ⟨v, vs', h1, h2, h3⟩ := h
    exact ⟨v, vs', h1, VR0.drawn h2, VRs0.drawn h3⟩
end
theorem OwnC.drawn {M : Nat → Prop} {G : Gh} {w : World} {n : Nat} {a : AV} {v : Value} (h : OwnC M G w a v) : OwnC M G { w with drawn := n } a v := by
  unfold OwnC at *
  split <;> first | exact h | trivial
theorem VR.drawn {M : Nat → Prop} {G : Gh} {w : World} {n : Nat} {a : AV} {v : Value} (h : VR M G w a v) : VR M G { w with drawn := n } a v := ⟨h.1.drawn, h.2.drawn⟩
theorem Sim.drawn {M : Nat → Prop} {G : Gh} {s : List Ob} {w : World} {n : Nat} (h : Sim M G s w) : Sim M G s { w with drawn := n } :=
  ⟨h.n, h.inj, h.own, h.live, h.lt, fun i o hi hl => by
    obtain ⟨vs, h1, h2, h3⟩ := h.at_ i o hi hl
    exact ⟨vs, h1, h2, fun k a v hk hv => (h3 k a v hk hv).drawn⟩⟩
theorem Ext.drawn {M : Nat → Prop} {G G' : Gh} {w w' : World} {n : Nat} (h : Ext M G w G' w') : Ext M G w G' { w' with drawn := n } :=
  ⟨h.size, h.os, h.tape, h.output, h.n, h.live, h.mu, h.newobj, h.own, h.phi, h.cell, h.row, h.keep⟩

/-- how the frame and the store stand when the listed operations of the head have been carried out -/
def curS (e : Option Nat) (s0 s1 : List Ob) (listed : Array Bool) : List Ob := match e with
  | some e => if listed.getD e false = true then s1 else s0
  | none => s0
structure JJ (M : Nat → Prop) (G0 : Gh) (w0 : World) (A : Array Oper) (n : Nat) (e : Option Nat) (s0 s1 : List Ob) (fr : List AV) (val : Nat → AV) (listed : Array Bool) (a : Act) (w : World) : Prop where
  g : ∃ G, Ext M G0 w0 G w ∧ Sim M G (curS e s0 s1 listed) w ∧
    (∀ i d, i < n → listed.getD i false = true → (A[i]?).bind (·.dst) = some d → VR M G w (val i) (a.tmps.getD d undef)) ∧
    (∀ t, (∀ i, i < n → listed.getD i false = true → (A[i]?).bind (·.dst) ≠ some t) → VR M G w (fr.getD t .undef) (a.tmps.getD t undef))
  defers : a.defers = []
  size : a.tmps.size = fr.length
theorem ready_closed {A : Array Oper} {listed : Array Bool} {i : Nat} (hc : Closed A listed) (hr : i ∈ Region.ready .any A listed) : Closed A (listed.setIfInBounds i true) := by
  obtain ⟨hun, o, ho, hall⟩ := mem_ready.1 hr
  intro j oj hj hl ed he hb
  by_cases hij : i = j
  · subst hij
    rw [ho] at hj
    cases hj
    exact getD_set_true (hall ed he hb)
  · rw [getD_set_ne false hij] at hl
    exact getD_set_true (hc j oj hj hl ed he hb)

theorem AL_draw {n0 : Nat} {P : Program} {A : Array Oper} {id n : Nat} {e : Option Nat} {s0 s1 : List Ob} {ts : List Nat} {fr : List AV} {Q : AQ} (hm : P.follows .mixedOrders = true) (hok : drawOK A n fr.length = true) (he : ∀ x, e = some x → x < n) (he' : e = none → s1 = s0)
    (hts : ∀ t (k : Nat), (fr.getD t .undef).mark = some k → k ∉ ts) (h : HD P A e s0 s1 ts (A.toList.take n) 0 fr (fun fr' => AL n0 P A (A.toList.drop n) fr' s1 Q)) : AW n0 P (.region id A true) fr s0 Q := by
  obtain ⟨c1, c2, c3, c4, c5⟩ := drawOK_spec hok
  obtain ⟨val, hfact, hfin⟩ := HD_facts (A.toList.take n) 0 (fun _ => .undef) (fun j => by
    rw [List.getElem?_take]
    simp only [List.length_take, Array.length_toList, Nat.zero_add]
    by_cases hj : j < n
    · rw [if_pos hj, if_pos (by omega)]; simp
    · rw [if_neg hj, if_neg (by omega)]) (fun j hj => by omega) h
  have hlen : (A.toList.take n).length = n := by simp; omega
  rw [hlen, Nat.zero_add] at hfact hfin
  intro M G0 w0 hM a w ⟨G, hE, hS, hF⟩
  refine wp_region_any hm ?_
  have hdst : ∀ i j d, i < n → j < n → (A[i]?).bind (·.dst) = some d → (A[j]?).bind (·.dst) = some d → i = j := by
    intro i j d hi hj h1 h2
    by_cases hne : i = j
    · exact hne
    · exfalso
      cases ho : A[j]? with
      | none => rw [ho] at h2; cases h2
      | some o =>
        rw [ho] at h2
        exact ((c3 i d hi h1).2 j o hj ho).2 hne (by simpa using h2)
  -- the invariant's way
  have key : ∀ (fuel : Nat) (listed : Array Bool) (a : Act) (w : World), listed.size = A.size → Closed A listed → (∀ t, n ≤ t → listed.getD t false = false) →
      fuel = ((List.range A.size).filter fun i => !listed.getD i false).length → JJ M G0 w0 A n e s0 s1 fr val listed a w → wpAny P .any A (QC M G0 w0 Q) fuel listed a w := by
    intro fuel
    induction fuel with
    | zero =>
      intro listed a w hsz hcl htail hfuel hJ
      have hnone : ∀ i, i < A.size → listed.getD i false = true := by
        intro i hi
        cases hh : listed.getD i false with
        | true => rfl
        | false =>
          have hmem : i ∈ (List.range A.size).filter fun i => !listed.getD i false := List.mem_filter.2 ⟨List.mem_range.2 hi, by simp [hh]⟩
          rw [List.eq_nil_of_length_eq_zero hfuel.symm] at hmem
          cases hmem
      have hns : A.size = n := by
        rcases Nat.lt_or_ge n A.size with h1 | h1
        · have := hnone n h1; rw [htail n (Nat.le_refl _)] at this; cases this
        · omega
      refine ⟨?_, ?_⟩
      · cases hr : Region.ready .any A listed with
        | nil => rfl
        | cons x xs =>
          exfalso
          have hx : x ∈ Region.ready .any A listed := by rw [hr]; simp
          obtain ⟨hun, o, ho, _⟩ := mem_ready.1 hx
          have hxs : x < A.size := (Array.getElem?_eq_some_iff.1 ho).1
          have := hnone x hxs
          rw [getD_both hun] at this
          cases this
      · have hd : A.toList.drop n = [] := by rw [List.drop_eq_nil_iff]; simp; omega
        obtain ⟨⟨G', g1, g2, g3, g4⟩, j1, j2⟩ := hJ
        rw [hd] at hfin
        have hs1 : curS e s0 s1 listed = s1 := by
          cases e with
          | none => exact (he' rfl).symm
          | some x => simp only [curS]; rw [if_pos (hnone x (by have := he x rfl; omega))]
        rw [hs1] at g2
        refine hfin M G0 w0 hM a w ⟨G', g1, g2, j1, by rw [j2, frAt_length], fun t => ?_⟩
        by_cases hex : ∃ i, i < n ∧ (A[i]?).bind (·.dst) = some t
        · obtain ⟨i, hi, hdi⟩ := hex
          rw [(frAt_get n).1 i hi hdi (fun k hk hne hh => hne (hdst k i t hk hi hh hdi)) (c3 i t hi hdi).1]
          exact g3 i t hi (hnone i (by omega)) hdi
        · have hno : ∀ i, i < n → (A[i]?).bind (·.dst) ≠ some t := fun i hi hh => hex ⟨i, hi, hh⟩
          rw [(frAt_get n).2 hno]
          exact g4 t fun i hi _ => hno i hi
    | succ fuel ih =>
      intro listed a w hsz hcl htail hfuel hJ
      by_cases hall : ∀ i, i < n → listed.getD i false = true
      · -- the tail
        have hl : listed = ((List.range A.size).map fun i => decide (i < n)).toArray := by
          apply Array.ext
          · simp [hsz]
          · intro i h1 h2
            simp only [List.getElem_toArray, List.getElem_map, List.getElem_range]
            by_cases hi : i < n
            · have := hall i hi
              simpa [h1, hi] using this
            · have := htail i (by omega)
              simpa [h1, hi] using this
        have hcount : fuel + 1 = A.size - n := by
          rw [hfuel]
          have : ((List.range A.size).filter fun i => !listed.getD i false) = (List.range' n (A.size - n)) := by
            have hsplit : List.range A.size = List.range' 0 n ++ List.range' n (A.size - n) := by
              rw [List.range_eq_range']
              have := List.range'_append_1 (s := 0) (m := n) (n := A.size - n)
              rw [Nat.zero_add] at this
              rw [this]
              congr 1
              omega
            rw [hsplit, List.filter_append]
            rw [List.filter_eq_nil_iff.2 (by
              intro i hi
              rw [List.mem_range'_1] at hi
              simp only [Bool.not_eq_true', Bool.not_eq_false]
              exact hall i (by omega))]
            rw [List.nil_append, List.filter_eq_self.2]
            intro i hi
            rw [List.mem_range'_1] at hi
            rw [htail i hi.1]
            rfl
          rw [this, List.length_range']
        obtain ⟨⟨G', g1, g2, g3, g4⟩, j1, j2⟩ := hJ
        have hs1 : curS e s0 s1 listed = s1 := by
          cases e with
          | none => exact (he' rfl).symm
          | some x => simp only [curS]; rw [if_pos (hall x (he x rfl))]
        rw [hs1] at g2
        have hlist := hfin M G0 w0 hM a w ⟨G', g1, g2, j1, by rw [j2, frAt_length], fun t => by
          by_cases hex : ∃ i, i < n ∧ (A[i]?).bind (·.dst) = some t
          · obtain ⟨i, hi, hdi⟩ := hex
            rw [(frAt_get n).1 i hi hdi (fun k hk hne hh => hne (hdst k i t hk hi hh hdi)) (c3 i t hi hdi).1]
            exact g3 i t hi (hall i hi) hdi
          · have hno : ∀ i, i < n → (A[i]?).bind (·.dst) ≠ some t := fun i hi hh => hex ⟨i, hi, hh⟩
            rw [(frAt_get n).2 hno]
            exact g4 t fun i hi _ => hno i hi⟩
        have hseq := wpAny_of_seq (P := P) (ops := A) (md := .any) (A.toList.drop n) n listed a w (fun j => by simp) (by rw [hl]; simpa using c5) hlist
        have hll : (A.toList.drop n).length = fuel + 1 := by simp; omega
        rw [hll] at hseq
        exact hseq
      · -- the head
        refine ⟨fun hr => ?_, fun i hi => ?_⟩
        · exfalso
          -- the least that is not listed is ready
          have hex : ∃ i, i < n ∧ listed.getD i false = false := by
            refine Classical.byContradiction fun hno => hall fun i hi => ?_
            cases hh : listed.getD i false with
            | true => rfl
            | false => exact absurd ⟨i, hi, hh⟩ hno
          have hmin : ∀ m, (∃ i, i ≤ m ∧ i < n ∧ listed.getD i false = false) → False := by
            intro m
            induction m using Nat.strongRecOn with
            | _ m ihm =>
              rintro ⟨i, him, hin, hun⟩
              have hio : i < A.size := by omega
              have hready : i ∈ Region.ready .any A listed ∨ ∃ j, j < i ∧ listed.getD j false = false := by
                by_cases hp : ∀ e ∈ A[i].after, Region.binds .any e = true → listed.getD e.on false = true
                · exact .inl (mem_ready.2 ⟨getD_in (by omega) hun, A[i], Array.getElem?_eq_getElem hio, hp⟩)
                · refine .inr (Classical.byContradiction fun hno => hp fun ed hed hb => ?_)
                  have hlt := (c2 i A[i] (Array.getElem?_eq_getElem hio)).1 ed hed hb
                  cases hh : listed.getD ed.on false with
                  | true => rfl
                  | false => exact absurd ⟨ed.on, hlt, hh⟩ hno
              rcases hready with h1 | ⟨j, hj, hjun⟩
              · rw [hr] at h1; cases h1
              · exact ihm j (by omega) ⟨j, Nat.le_refl _, by omega, hjun⟩
          obtain ⟨i, hi, hun⟩ := hex
          exact hmin i ⟨i, Nat.le_refl _, hi, hun⟩
        · obtain ⟨hun, o, ho, hpre⟩ := mem_ready.1 hi
          have hio : i < A.size := (Array.getElem?_eq_some_iff.1 ho).1
          have hin : i < n := by
            rcases Nat.lt_or_ge i n with h1 | h1
            · exact h1
            · exfalso
              refine hall fun j hj => ?_
              exact anc_listed hcl A.size i j o ho hpre (c4 i h1 hio j hj)
          obtain ⟨⟨G', g1, g2, g3, g4⟩, j1, j2⟩ := hJ
          have hunf : listed.getD i false = false := getD_both hun
          -- the slots that it reads
          have hslot : ∀ t, t ∈ o.looksAt A → VR M G' w ((frAt A fr val i).getD t .undef) (a.tmps.getD t undef) := by
            intro t ht
            by_cases hex : ∃ j, j < n ∧ (A[j]?).bind (·.dst) = some t
            · obtain ⟨j, hj, hdj⟩ := hex
              obtain ⟨k1, k2⟩ := c3 j t hj hdj
              obtain ⟨hne, hb1, hb2⟩ := (k2 i o hin ho).1 ht
              rcases Nat.lt_or_gt_of_ne hne with hlt | hgt
              · have hlj : listed.getD j false = true := anc_listed hcl A.size i j o ho hpre (hb1 hlt)
                rw [(frAt_get i).1 j hlt hdj (fun k hk hkj hh => hkj (hdst k j t (by omega) hj hh hdj)) k1]
                exact g3 j t hj hlj hdj
              · have hlj : listed.getD j false = false := by
                  cases hh : listed.getD j false with
                  | false => rfl
                  | true =>
                    cases hoj : A[j]? with
                    | none => rw [hoj] at hdj; cases hdj
                    | some oj =>
                      have := anc_listed hcl A.size j i oj hoj (hcl j oj hoj hh) (hb2 hgt)
                      rw [hunf] at this
                      cases this
                rw [(frAt_get i).2 fun k hk hh => by have := hdst k j t (by omega) hj hh hdj; omega]
                refine g4 t fun k hk hlk hh => ?_
                have := hdst k j t hk hj hh hdj
                subst this
                rw [hlj] at hlk
                cases hlk
            · have hno : ∀ j, j < n → (A[j]?).bind (·.dst) ≠ some t := fun j hj hh => hex ⟨j, hj, hh⟩
              rw [(frAt_get i).2 fun k hk => hno k (by omega)]
              exact g4 t fun k hk _ => hno k hk
          have hmask : FR M G' w (aForget (readsOf A o) (frAt A fr val i)) a := by
            refine ⟨j1, by simp [aForget, frAt_length, j2], fun t => ?_⟩
            unfold aForget
            rw [List.getD_eq_getElem?_getD, List.getElem?_map]
            by_cases ht : t < (frAt A fr val i).length
            · rw [List.getElem?_range ht]
              simp only [Option.map_some, Option.getD_some]
              split
              · rename_i hc
                exact hslot t (by simpa [readsOf] using hc)
              · exact ⟨by simp only [VR0], OwnC.of_plain rfl⟩
            · rw [List.getElem?_eq_none (by simpa using ht)]
              exact ⟨by simp only [Option.map_none, Option.getD_none, VR0], OwnC.of_plain rfl⟩
          have hwant : ∀ b, aWanted A (frAt A fr val i) o = some b → Region.wanted o (yielded A a.tmps) = b := by
            intro b hb
            refine aWanted_spec (fr := aForget (readsOf A o) (frAt A fr val i)) ?_ hmask
            rw [← hb]
            unfold aWanted
            split
            · rfl
            · rename_i g want hg
              cases hd : (A[g]?).bind (·.dst) with
              | none => rfl
              | some d =>
                dsimp only
                have hmem : d ∈ readsOf A o := by
                  unfold readsOf Oper.looksAt
                  rw [hg]
                  exact List.mem_append_right _ (by simp [hd])
                have : (aForget (readsOf A o) (frAt A fr val i)).getD d .undef = (frAt A fr val i).getD d .undef := by
                  have := aEval_forget (A := A) (o := ⟨none, .move (.tmp d), 0, "", #[], none⟩) (fr := frAt A fr val i) (x := .tmp d) (by simp [Op.operands])
                  unfold aForget
                  rw [List.getD_eq_getElem?_getD, List.getElem?_map, List.getD_eq_getElem?_getD]
                  by_cases h : d < (frAt A fr val i).length
                  · rw [List.getElem?_range h]
                    simp [hmem]
                  · rw [List.getElem?_eq_none (by simpa using h), List.getElem?_eq_none (Nat.le_of_not_lt h)]
                    rfl
                rw [this]
          have hcount : fuel = ((List.range A.size).filter fun k => !(listed.setIfInBounds i true).getD k false).length := by
            have hc : ((List.range A.size).filter fun k => !(listed.setIfInBounds i true).getD k false) = ((List.range A.size).filter fun k => !listed.getD k false).filter fun k => k != i := by
              rw [List.filter_filter]
              apply List.filter_congr
              intro k hk
              by_cases hki : i = k
              · subst hki
                have : (listed.setIfInBounds i true).getD i false = true := by simp [show i < listed.size by omega]
                rw [this]
                simp
              · rw [getD_set_ne false hki]
                simp [Ne.symm hki]
            rw [hc]
            have hmem : i ∈ (List.range A.size).filter fun k => !listed.getD k false := List.mem_filter.2 ⟨List.mem_range.2 hio, by simp [hunf]⟩
            have hnd : ((List.range A.size).filter fun k => !listed.getD k false).Nodup := List.Pairwise.filter _ List.nodup_range
            have : (((List.range A.size).filter fun k => !listed.getD k false).filter fun k => k != i).length = ((List.range A.size).filter fun k => !listed.getD k false).length - 1 := by
              rw [← List.Nodup.erase_eq_filter hnd, List.length_erase_of_mem hmem]
            rw [this, ← hfuel]
            rfl
          have hlset : ∀ k, (listed.setIfInBounds i true).getD k false = true ↔ k = i ∨ listed.getD k false = true := by
            intro k
            by_cases hki : i = k
            · subst hki
              have : (listed.setIfInBounds i true).getD i false = true := by simp [show i < listed.size by omega]
              simp [this]
            · rw [getD_set_ne false hki]
              simp [Ne.symm hki]
          -- what follows when the operation has told v
          have next : ∀ (G2 : Gh) (w2 : World) (cv : Value) (M' : Nat → Prop), (∀ b, M' b → w.heap.size ≤ b ∨ (M b ∧ G'.tg b ∈ ts)) → Ext M' G' w G2 w2 →
              Sim M G2 (curS e s0 s1 (listed.setIfInBounds i true)) w2 → VR M G2 w2 (val i) cv →
              wpAny P .any A (QC M G0 w0 Q) fuel (listed.setIfInBounds i true) (a.put o.dst cv) w2 := by
            intro G2 w2 cv M' hM' hE2 hS2 hv2
            refine ih _ _ _ (by simp [hsz]) (ready_closed hcl hi) (fun t ht => by rw [getD_set_ne false (by omega)]; exact htail t ht) hcount ?_
            have hMM : ∀ b, b < w.heap.size → M' b → M b := fun b hb hb' => by
              rcases hM' b hb' with h | h
              · omega
              · exact h.1
            have hkeep : ∀ (x : AV) (u : Value), (∀ t ∈ ts, x.mark ≠ some t) → VR M G' w x u → VR M G2 w2 x u := by
              intro x u hx hu
              refine hu.keep hE2 ?_
              intro g t hmk hg hlt _ _ _ hM2
              rcases hM' g hM2 with h | ⟨_, h⟩
              · omega
              · rw [hg] at h
                exact hx t h hmk
            refine ⟨⟨G2, g1.trans hE2 (fun b hb h => hMM b (Nat.lt_of_lt_of_le hb g1.size) h), hS2, ?_, ?_⟩, by rw [put_defers]; exact j1, by rw [put_size]; exact j2⟩
            · intro k d hk hlk hdk
              rw [hlset] at hlk
              rw [put_get]
              by_cases hki : k = i
              · subst hki
                rw [ho] at hdk
                have hdk' : o.dst = some d := by simpa using hdk
                rw [if_pos ⟨hdk', by rw [j2]; exact (c3 k d hin (by rw [ho]; simpa using hdk')).1⟩]
                exact hv2
              · have hne : ¬ (o.dst = some d ∧ d < a.tmps.size) := fun hh => hki (hdst k i d hk hin hdk (by rw [ho]; simpa using hh.1))
                rw [if_neg hne]
                refine hkeep _ _ ?_ (g3 k d hk (hlk.resolve_left hki) hdk)
                cases hok2 : A[k]? with
                | none => rw [hok2] at hdk; cases hdk
                | some ok =>
                  rcases hfact k hk ok hok2 with ⟨_, hv, _⟩ | ⟨_, hv, _⟩
                  · intro t _; rw [hv]; simp [AV.mark]
                  · exact hv
            · intro t hno
              rw [put_get]
              have hne : ¬ (o.dst = some t ∧ t < a.tmps.size) := fun hh => hno i hin ((hlset i).2 (.inl rfl)) (by rw [ho]; simpa using hh.1)
              rw [if_neg hne]
              refine hkeep _ _ (fun k hk hmk => hts t k hmk hk) (g4 t fun k hk hlk => hno k hk ((hlset k).2 (.inr hlk)))
          have hfr : Fresh M w := fun b hb => hM.1 b (Nat.le_trans g1.size hb)
          unfold wpOp
          rw [ho]
          dsimp only
          rcases hfact i hin o ho with ⟨hw, hv, hv2⟩ | ⟨hw, hv, hcond⟩
          · rw [hwant _ hw]
            simp only [Bool.false_eq_true, if_false]
            refine next G' w undef (fun _ => False) (fun _ h => h.elim) (Ext.refl _ _ _) ?_ ?_
            · cases e with
              | none => exact g2
              | some x =>
                unfold curS at g2 ⊢
                dsimp only at g2 ⊢
                -- an operation that is left out turns nothing: it isn't e unless s1 = s0
                by_cases hxi : x = i
                · subst hxi
                  rw [if_neg (by rw [hunf]; simp)] at g2
                  rw [if_pos ((hlset x).2 (.inl rfl)), hv2 rfl]
                  exact g2
                · by_cases hlx : listed.getD x false = true
                  · rw [if_pos hlx] at g2
                    rw [if_pos ((hlset x).2 (.inr hlx))]
                    exact g2
                  · rw [if_neg hlx] at g2
                    rw [if_neg (fun hh => by rcases (hlset x).1 hh with h | h; exact hxi h; exact hlx h)]
                    exact g2
            · rw [hv]
              exact ⟨by simp only [VR0]; exact ⟨[], rfl, by simp only [VRs0]⟩, OwnC.of_plain rfl⟩
          · rw [hwant _ hw]
            simp only [if_true]
            refine .inl ?_
            unfold HCond at hcond
            cases e with
            | none =>
              unfold curS at g2 next
              dsimp only at g2 next hcond
              exact hcond M G' w a hfr g2 hmask _ _ fun cv G2 w2 M' k1 k2 k3 k4 => next G2 w2 cv M' k1 k2 k3 k4
            | some x =>
              unfold curS at g2 next
              dsimp only at g2 next hcond
              by_cases hxi : x = i
              · subst hxi
                rw [if_pos rfl] at hcond
                rw [if_neg (by rw [hunf]; simp)] at g2
                exact hcond M G' w a hfr g2 hmask _ _ fun cv G2 w2 M' k1 k2 k3 k4 => next G2 w2 cv M' k1 k2 (by rw [if_pos ((hlset x).2 (.inl rfl))]; exact k3) k4
              · rw [if_neg hxi] at hcond
                by_cases hlx : listed.getD x false = true
                · rw [if_pos hlx] at g2
                  refine hcond.2 ?_ M G' w a hfr g2 hmask _ _ fun cv G2 w2 M' k1 k2 k3 k4 => next G2 w2 cv M' k1 k2 (by rw [if_pos ((hlset x).2 (.inr hlx))]; exact k3) k4
                  cases hh : ancB A A.size x i with
                  | false => rfl
                  | true =>
                    have hxn : x < n := he x rfl
                    have := anc_listed hcl A.size x i A[x] (Array.getElem?_eq_getElem (by omega)) (hcl x A[x] (Array.getElem?_eq_getElem (by omega)) hlx) hh
                    rw [hunf] at this
                    cases this
                · rw [if_neg hlx] at g2
                  refine hcond.1 ?_ M G' w a hfr g2 hmask _ _ fun cv G2 w2 M' k1 k2 k3 k4 => next G2 w2 cv M' k1 k2 (by rw [if_neg (fun hh => by rcases (hlset x).1 hh with h | h; exact hxi h; exact hlx h)]; exact k3) k4
                  cases hh : ancB A A.size i x with
                  | false => rfl
                  | true => exact absurd (anc_listed hcl A.size i x o ho hpre hh) hlx
  refine key A.size (Array.replicate A.size false) a _ (by simp) (fun j o hj hl => by rw [getD_replicate_false] at hl; cases hl) (fun t _ => getD_replicate_false _ _) ?_ ?_
  · rw [List.filter_eq_self.2 (fun i _ => by rw [getD_replicate_false]; rfl)]
    simp
  · refine ⟨⟨G, hE.drawn, ?_, (fun i d _ hl => by rw [getD_replicate_false] at hl; cases hl), fun t _ => (hF.at_ t).drawn⟩, hF.defers, hF.size⟩
    have : curS e s0 s1 (Array.replicate A.size false) = s0 := by
      unfold curS
      cases e with
      | none => rfl
      | some x => dsimp only; rw [if_neg (by rw [getD_replicate_false]; simp)]
    rw [this]
    exact hS.drawn
end Go.Proofs.Ytgicljncknbgcaa.Abs
