/- Stores, and values that are put together. -/
import Derived.Test.YtgicljncknbgcaaAE
namespace Go.Proofs.Ytgicljncknbgcaa.Abs
open Go Go.ChangeShapes Go.WideShapes Go.ChangeAt Go.RowKit
set_option linter.unusedVariables false
set_option linter.unusedSimpArgs false

def AV.one : AV → Bool
  | .undef | .agg _ | .tuple _ => false
  | _ => true
theorem one_cell {G : Gh} {w : World} {a : AV} {v : Value} (h : a.one = true) (hv : VR0 G w a v) : v.oneCell' = true := by
  cases a <;> simp only [AV.one] at h <;> simp only [VR0] at hv
  case undef => cases h
  case tuple => cases h
  case agg => cases h
  case int => rw [hv]; rfl
  case bool => rw [hv]; rfl
  case str => rw [hv]; rfl
  case nilp => rw [hv]; rfl
  case ref => rw [hv.1]; rfl
  case eptr => obtain ⟨b, ob, vs, h1, _⟩ := hv; rw [h1]; rfl
  case list => obtain ⟨A, cap, h1, _⟩ := hv; rw [h1]; rfl
  case arr => obtain ⟨⟨cap, h1, _⟩, _⟩ := hv; rw [h1]; rfl
  case nilf => rw [hv]; rfl
  case func => obtain ⟨vs, h1, _⟩ := hv; rw [h1]; rfl
def splice (cs : List AV) (k : Nat) (new : List AV) : List AV := cs.take k ++ new ++ cs.drop (k + new.length)
def spliceV (cs : List Value) (k : Nat) (new : List Value) : List Value := cs.take k ++ new ++ cs.drop (k + new.length)
theorem splice_VR {R : AV → Value → Prop} {cs new : List AV} {vs nv : List Value} {k : Nat} (hl : vs.length = cs.length) (hn : nv.length = new.length) (hk : k + new.length ≤ cs.length)
    (h1 : ∀ (i : Nat) (a : AV) (v : Value), cs[i]? = some a → vs[i]? = some v → R a v) (h2 : ∀ (i : Nat) (a : AV) (v : Value), new[i]? = some a → nv[i]? = some v → R a v) :
    (spliceV vs k nv).length = (splice cs k new).length ∧ ∀ (i : Nat) (a : AV) (v : Value), (splice cs k new)[i]? = some a → (spliceV vs k nv)[i]? = some v → R a v := by
  refine ⟨by simp [splice, spliceV]; omega, fun i a v ha hv => ?_⟩
  unfold splice at ha
  unfold spliceV at hv
  rw [List.append_assoc, List.getElem?_append] at ha hv
  simp only [List.length_take] at ha hv
  have e1 : min k cs.length = k := by omega
  have e2 : min k vs.length = k := by omega
  rw [e1] at ha
  rw [e2] at hv
  by_cases c1 : i < k
  · rw [if_pos c1, List.getElem?_take, if_pos c1] at ha hv
    exact h1 i a v ha hv
  · rw [if_neg c1, List.getElem?_append] at ha hv
    rw [hn] at hv
    by_cases c2 : i - k < new.length
    · rw [if_pos c2] at ha hv
      exact h2 _ a v ha hv
    · rw [if_neg c2, List.getElem?_drop] at ha hv
      exact h1 _ a v ha hv
def aStore (P : Program) (t : TypeId) (cs : List AV) (k : Nat) (new : List AV) : Option (List AV) :=
  match P.info? t with
  | some i => if i.size = new.length ∧ k + new.length ≤ cs.length ∧ new.all AV.one = true then some (splice cs k new) else none
  | none => none
section
variable {P : Program} {o : Oper} {fr : List AV} {s : List Ob}
theorem Store_core {t : TypeId} {x y : Operand} {i k : Nat} {ob : Ob} {new cs' : List AV} (ho : o.op = .store t x y) (hx : aEval fr x = .ref i k) (hi : s[i]? = some ob) (hl : ob.live = true)
    (hy : aCells (aEval fr y) = some new) (hst : aStore P t ob.cs k new = some cs') : ∀ M G w a, Sim M G s w → FR M G w fr a → ∃ w', (execOp a.eval o).run P w = .ok .skip w' ∧ Ext (fun _ => False) G w G w' ∧ (∀ b, b ≠ G.mu i → w'.heap[b]? = w.heap[b]?) ∧ i < G.n ∧ G.live i = true ∧ Sim M G (s.set i { ob with cs := cs' }) w' := by
  intro M G w a hS hf
  have hv := (hf.eval x).1
  rw [hx] at hv
  simp only [VR0] at hv
  obtain ⟨e1, e2⟩ := aCells_spec hy (hf.eval y)
  unfold aStore at hst
  split at hst
  case h_2 => cases hst
  rename_i inf hinf
  split at hst
  case isFalse => cases hst
  rename_i hc
  obtain ⟨c1, c2, c3⟩ := hc
  cases hst
  obtain ⟨vs, h1, h2, h3⟩ := hS.at_ i ob hi hl
  have hin : i < G.n := hv.2
  have hrun := run_storeCells_at (P := P) (G.mu i) k ob.t (a.eval y).cells.toList 0 vs.toArray w h1 (by simp at e1 ⊢; omega) (fun v hv' => by
    obtain ⟨j, hj⟩ := List.getElem?_of_mem hv'
    have hj' : j < new.length := by have := lt_of_some hj; omega
    exact one_cell (List.all_eq_true.1 c3 _ (List.getElem_mem hj')) (e2 j _ v (List.getElem?_eq_getElem hj') hj).1)
  have hG : w.heap[G.mu i]? = some (.cells vs.toArray ob.t (0, 0)) := h1
  obtain ⟨w', hw'⟩ : ∃ w', w.setRow (G.mu i) (spliceV vs k (a.eval y).cells.toList).toArray = w' := ⟨_, rfl⟩
  have hrun' : (storeCells ⟨G.mu i, k, none⟩ (a.eval y).cells.toList).run P w = .ok () w' := by
    rw [← hw', hrun]
    simp [spliceV]
  have hblk : w'.heap[G.mu i]? = some (.cells (spliceV vs k (a.eval y).cells.toList).toArray ob.t (0, 0)) := by rw [← hw']; exact setRow_heap w _ _ _ _ _ h1
  have hoth : ∀ b, b ≠ G.mu i → w'.heap[b]? = w.heap[b]? := fun b hb => by rw [← hw']; exact setRow_other w _ b _ hb
  have hE : Ext (fun _ => False) G w G w' := by
    have hsz : w'.heap.size = w.heap.size := by rw [← hw']; simp
    have hne : ∀ b, ¬ G.obj b → b ≠ G.mu i := fun b hb e => hb ⟨i, hin, hS.live i ob hi hl, e.symm⟩
    exact ⟨by omega, by rw [← hw']; rfl, by rw [← hw']; rfl, by rw [← hw']; rfl, Nat.le_refl _, fun _ _ h => h, fun _ _ => rfl, fun j h4 h5 => by omega, fun _ _ => rfl, fun _ _ _ => Nat.le_refl _,
      fun b hb ho' _ => hoth b (hne b ho'), fun b hb ho' _ o' _ => World.cell?_of_block (w := w) (hoth b (hne b ho')), fun b hb ho' _ _ => ⟨hoth b (hne b ho'), rfl, rfl⟩⟩
  have hlen : vs.length = ob.cs.length := h2
  obtain ⟨f1, f2⟩ := splice_VR (R := VR M G w) (k := k) hlen e1 c2 h3 e2
  have hS' : Sim M G (s.set i { ob with cs := splice ob.cs k new }) w' := by
    refine ⟨by simp [hS.n], hS.inj, hS.own, ?_, fun {j} hj hl => Nat.lt_of_lt_of_le (hS.lt hj hl) hE.size, ?_⟩
    · intro j o' hj hol
      rw [List.getElem?_set] at hj
      split at hj
      · rename_i hij
        subst hij
        split at hj
        · simp at hj; subst hj; exact hS.live i ob hi hl
        · cases hj
      · exact hS.live j o' hj hol
    · intro j o' hj hlv
      rw [List.getElem?_set] at hj
      split at hj
      · rename_i hij
        subst hij
        split at hj
        · simp at hj
          subst hj
          exact ⟨_, hblk, f1, fun k' a' v' hk hv' => (f2 k' a' v' hk hv').grow hE⟩
        · cases hj
      · rename_i hij
        obtain ⟨us, g1, g2, g3⟩ := hS.at_ j o' hj hlv
        refine ⟨us, ?_, g2, fun k' a' v' hk hv' => (g3 k' a' v' hk hv').grow hE⟩
        rw [hoth]
        · exact g1
        · intro e
          have hj' : j < G.n := by rw [hS.n]; exact lt_of_some hj
          exact hij (hS.inj i j hin hj' (hS.live i ob hi hl) (hS.live j o' hj hlv) e.symm)
  have hexec : (execOp a.eval o).run P w = .ok .skip w' := by
    have hsz2 : (a.eval y).cells.size = inf.size := by
      rw [c1, ← e1]; simp
    simp [execOp, ho, Instr.storeAt, hv.1, Instr.sureAddr, storeVar, run_sizeOf hinf, hsz2, hrun']
  exact ⟨w', hexec, hE, hoth, hin, hS.live i ob hi hl, hS'⟩
theorem Step_store {t : TypeId} {x y : Operand} {i k : Nat} {ob : Ob} {new cs' : List AV} (ho : o.op = .store t x y) (hx : aEval fr x = .ref i k) (hi : s[i]? = some ob) (hl : ob.live = true)
    (hy : aCells (aEval fr y) = some new) (hst : aStore P t ob.cs k new = some cs') : Step P o fr s fr (.tuple []) (s.set i { ob with cs := cs' }) := by
  intro M G w a hF hS hf K Q hK
  obtain ⟨w', h1, hE, _, _, _, hS'⟩ := Store_core ho hx hi hl hy hst M G w a hS hf
  unfold Oper.wp
  rw [h1, Oper.upon_skip]
  exact hK undef G w' (hE.mono fun _ _ => False.elim) hS' (hf.grow hE) ⟨by simp only [VR0]; exact ⟨[], rfl, by simp only [VRs0]⟩, OwnC.of_plain rfl⟩
end

/-! values that are put together -/
def aFill (place : Nat → Option (Nat × Nat)) (cells : List AV) : List (Nat × List AV) → Option (List AV)
  | [] => some cells
  | (i, vs) :: rest =>
    match place i with
    | none => none
    | some (off, size) => if vs.length ≠ size ∨ cells.length < off + vs.length then none else aFill place (splice cells off vs) rest
theorem fold_set (off : Nat) : ∀ (l : List Value) (j : Nat) (cs : Array Value), off + j + l.length ≤ cs.size →
    ((l.zipIdx j).foldl (fun (cs : Array Value) (p : Value × Nat) => cs.setIfInBounds (off + p.2) p.1) cs).toList = spliceV cs.toList (off + j) l
  | [], j, cs, h => by simp [spliceV]
  | v :: l, j, cs, h => by
    simp only [List.zipIdx_cons, List.foldl_cons]
    rw [fold_set off l (j + 1) _ (by simp at h ⊢; omega)]
    have e := list_seg_step cs.toList (off + j) v l (by simp at h ⊢; omega)
    simpa [spliceV, Array.toList_setIfInBounds, Nat.add_assoc] using e
theorem fill_spec {M : Nat → Prop} {G : Gh} {w : World} (place : Nat → Option (Nat × Nat)) : ∀ (parts : List (Nat × AV)) (vparts : List (Nat × Value)) (aparts : List (Nat × List AV)) (cs cs' : List AV) (vs : Array Value),
    vs.toList.length = cs.length → (∀ (k : Nat) (a : AV) (v : Value), cs[k]? = some a → vs.toList[k]? = some v → VR0 G w a v) →
    parts.mapM (fun p => (aCells p.2).map fun l => (p.1, l.map AV.plain)) = some aparts → vparts.length = parts.length →
    (∀ (k : Nat) p q, parts[k]? = some p → vparts[k]? = some q → p.1 = q.1 ∧ VR M G w p.2 q.2) → aFill place cs aparts = some cs' →
    ∃ vs' : Array Value, Instr.fill place vs vparts = some vs' ∧ vs'.toList.length = cs'.length ∧ ∀ (k : Nat) (a : AV) (v : Value), cs'[k]? = some a → vs'.toList[k]? = some v → VR0 G w a v
  | [], [], aparts, cs, cs', vs, h1, h2, h3, h4, h5, h6 => by
    simp at h3
    subst h3
    simp only [aFill, Option.some.injEq] at h6
    subst h6
    exact ⟨vs, rfl, h1, h2⟩
  | [], _ :: _, _, _, _, _, _, _, _, h4, _, _ => by simp at h4
  | _ :: _, [], _, _, _, _, _, _, _, h4, _, _ => by simp at h4
  | p :: parts, q :: vparts, aparts, cs, cs', vs, h1, h2, h3, h4, h5, h6 => by
    simp only [List.mapM_cons] at h3
    cases k1 : aCells p.2 with
    | none => rw [k1] at h3; cases h3
    | some l =>
      rw [k1] at h3
      cases k2 : parts.mapM (fun p => (aCells p.2).map fun l => (p.1, l.map AV.plain)) with
      | none => rw [k2] at h3; cases h3
      | some rest =>
        rw [k2] at h3
        simp at h3
        subst h3
        obtain ⟨e0, e1⟩ := h5 0 p q rfl rfl
        obtain ⟨f1, f2⟩ := aCells_spec k1 e1
        simp only [aFill] at h6
        split at h6
        · cases h6
        · rename_i off size hp
          split at h6
          · cases h6
          · rename_i hc
            simp only [not_or, Nat.not_lt, ne_eq, Decidable.not_not, List.length_map] at hc
            obtain ⟨c1, c2⟩ := hc
            have hq : q.2.cells.size = size := by rw [← c1, ← f1]; simp
            have hfold := fold_set off q.2.cells.toList 0 vs (by simp at f1 h1 ⊢; omega)
            have hns : ∀ (k : Nat) (a : AV) (v : Value), (l.map AV.plain)[k]? = some a → q.2.cells.toList[k]? = some v → VR0 G w a v := by
              intro k a v ha hv
              rw [List.getElem?_map] at ha
              cases hh : l[k]? with
              | none => rw [hh] at ha; cases ha
              | some x => rw [hh] at ha; simp at ha; subst ha; exact (f2 k x v hh hv).1.plain
            obtain ⟨g1, g2⟩ := splice_VR (R := VR0 G w) (k := off) h1 (by simpa using f1) (by simpa using c2) h2 hns
            obtain ⟨vs', r1, r2, r3⟩ := fill_spec place parts vparts rest (splice cs off (l.map AV.plain)) cs' (spliceV vs.toList off q.2.cells.toList).toArray (by simpa using g1) (by simpa using g2) k2 (by simpa using h4)
              (fun k p' q' hp' hq' => h5 (k + 1) p' q' (by simpa using hp') (by simpa using hq')) h6
            refine ⟨vs', ?_, r2, r3⟩
            obtain ⟨qi, qv⟩ := q
            simp only at e0 hq hfold r1 f1
            subst e0
            simp only [Instr.fill, hp]
            rw [if_neg (by simp at f1 h1; simp [hq]; omega)]
            rw [← r1]
            congr 1
            apply Array.ext'
            simp only [Nat.add_zero] at hfold
            rw [← hfold]
            rw [← Array.foldl_toList]
            simp
end Go.Proofs.Ytgicljncknbgcaa.Abs
