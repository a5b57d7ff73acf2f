/- Iterators over maps of at most one entry. -/
import Derived.Test.YtmacghaihlfcpaaGreatM1
namespace Go.Proofs.YtmacghaihlfcpaaGreat.Abs
noncomputable section
open Go Go.ChangeShapes Go.WideShapes Go.ChangeAt Go.RowKit
set_option linter.unusedVariables false
set_option linter.unusedSimpArgs false

def aRange (P : Program) (s : List Ob) (t : TypeId) (x : AV) : Option (List Ob) := match P.underlying t with
  | some (.map _ _) => match x with
    | .mapn => some (s ++ [⟨[.mapn, .int .i64 0, .int .i64 0], mapT, true⟩])
    | .mapr j => match s[j]? with
      | some om => if om.live = true ∧ om.t = mapT then match om.cs with
          | .int .i64 c :: _ => some (s ++ [⟨[.mapr j, .int .i64 c, .int .i64 c], mapT, true⟩])
          | _ => none
        else none
      | none => none
    | _ => none
  | _ => none
/-- the map of an iterator, if it has at most one entry -/
def aIter (s : List Ob) (it : AV) : Option (Nat × Ob × Option (Nat × Int × Int × List AV × Int × Option (AV × AV × Int))) := match it with
  | .ref i 0 => match s[i]? with
    | some ob => if ob.live = true ∧ ob.t = mapT then match ob.cs with
        | .mapn :: .int .i64 _ :: .int .i64 _ :: _ => some (i, ob, none)
        | .mapr j :: .int .i64 a :: .int .i64 b :: seen => match s[j]? with
          | some om => if om.live = true ∧ om.t = mapT then match om.cs with
              | [.int .i64 c] => some (i, ob, some (j, a, b, seen, c, none))
              | [.int .i64 c, k, v, .int .i64 n] => some (i, ob, some (j, a, b, seen, c, some (k, v, n)))
              | _ => none
            else none
          | none => none
        | _ => none
      else none
    | none => none
  | _ => none
def aNext (s : List Ob) (it : AV) : Option (AV × List Ob) := match aIter s it with
  | some (_, _, none) => some (.tuple [.bool false], s)
  | some (_, _, some (_, _, _, _, _, none)) => some (.tuple [.bool false], s)
  | some (i, ob, some (j, a, b, seen, c, some (k, v, n))) => match seen with
    | [] => if n.toNat < a.toNat then some (.tuple [.bool true, k.plain, v.plain], s.set i { ob with cs := [.mapr j, .int .i64 a, .int .i64 c, .int .i64 n] }) else none
    | [.int .i64 m] => if m.toNat = n.toNat ∧ n.toNat < b.toNat then some (.tuple [.bool false], s) else none
    | _ => none
  | _ => none
def aItem (s : List Ob) (it : AV) : Option AV := match aIter s it with
  | some (_, _, some (_, _, b, [.int .i64 m], c, some (k, v, n))) => if m.toNat = n.toNat ∧ b.toNat = c.toNat then some (.tuple [k.plain, v.plain]) else none
  | _ => none
section
variable {P : Program} {o : Oper} {fr : List AV} {s : List Ob}
theorem Step_range {t : TypeId} {x : Operand} {s' : List Ob} (ho : o.op = .range t x) (h : aRange P s t (aEval fr x) = some s') : Step P o fr s fr (.ref s.length 0) s' := by
  intro M G w a hF hS hf K Q hK
  have hx := (hf.eval x).1
  unfold aRange at h
  split at h
  case h_2 => cases h
  rename_i kt et hu
  have fin : ∀ (cs : List AV) (vs : List Value), s' = s ++ [⟨cs, mapT, true⟩] → vs.length = cs.length → (∀ (k : Nat) (a : AV) (v : Value), cs[k]? = some a → vs[k]? = some v → VR M G w a v) →
      (Instr.range t (a.eval x)).run P w = .ok (.pointer (some ⟨w.heap.size, 0, none⟩)) (w.alloc (Ob.obj ⟨cs, mapT, true⟩ vs)) → o.wp P a w K Q := fun cs vs e1 e2 e3 e4 => by
    subst e1
    obtain ⟨hE, hS'⟩ := hS.addOb (cs := cs) (vs := vs) (t := mapT) e2 e3
    unfold Oper.wp
    have hr : (execOp a.eval o).run P w = .ok (.value (.pointer (some ⟨w.heap.size, 0, none⟩))) (w.alloc (Ob.obj ⟨cs, mapT, true⟩ vs)) := by
      simp only [execOp, ho, Sem.run_bind, e4, Result.andThen_ok]; rfl
    rw [hr, Oper.upon_value]
    refine hK _ _ _ (hE.mono fun _ _ => False.elim) hS' (hf.grow hE) ⟨?_, OwnC.of_plain rfl⟩
    simp only [VR0, Gh.addObj]
    rw [if_pos hS.n.symm]
    exact ⟨rfl, by rw [hS.n]; omega⟩
  have int : ∀ (n : Int), VR M G w (.int .i64 n) (.int .i64 n) := fun n => ⟨by simp only [VR0], OwnC.of_plain rfl⟩
  split at h
  · rename_i ex
    cases h
    rw [ex] at hx
    simp only [VR0] at hx
    refine fin _ [.map none, .int .i64 0, .int .i64 0] rfl rfl (fun k b u hb hu => ?_) ?_
    · match k with
      | 0 => simp at hb hu; subst hb hu; exact ⟨by simp only [VR0], OwnC.of_plain rfl⟩
      | 1 => simp at hb hu; subst hb hu; exact int _
      | 2 => simp at hb hu; subst hb hu; exact int _
      | k + 3 => simp at hb
    · have e : Ob.obj ⟨[.mapn, .int .i64 0, .int .i64 0], mapT, true⟩ [.map none, .int .i64 0, .int .i64 0] = .mapIter none 0 #[] 0 := rfl
      rw [e, hx]
      simp only [Instr.range, Sem.run_bind, run_underlying hu, Result.andThen_ok]
      rfl
  · rename_i j ex
    rw [ex] at hx
    simp only [VR0] at hx
    split at h
    case h_2 => cases h
    rename_i om hj
    split at h
    case isFalse => cases h
    rename_i hob
    split at h
    case h_2 => cases h
    rename_i c l hcs
    cases h
    obtain ⟨vs, h1, h2, hcell⟩ := hS.map hj hob.1 hob.2 hcs
    refine fin _ [.map (some (G.mu j)), .int .i64 c, .int .i64 c] rfl rfl (fun k b u hb hu => ?_) ?_
    · match k with
      | 0 => simp at hb hu; subst hb hu; exact ⟨by simp only [VR0]; exact ⟨trivial, hx.2⟩, OwnC.of_plain rfl⟩
      | 1 => simp at hb hu; subst hb hu; exact int _
      | 2 => simp at hb hu; subst hb hu; exact int _
      | k + 3 => simp at hb
    · have e : Ob.obj ⟨[.mapr j, .int .i64 c, .int .i64 c], mapT, true⟩ [.map (some (G.mu j)), .int .i64 c, .int .i64 c] = .mapIter (some (G.mu j)) c.toNat #[] c.toNat := rfl
      rw [e, hx.1]
      simp only [Instr.range, Sem.run_bind, run_underlying hu, Result.andThen_ok, Go.MapKept.run_getObj_map h1]
      rfl
  · cases h
/-- the map has these -/
def EntIs (M : Nat → Prop) (G : Gh) (w : World) (j : Nat) (c : Int) : Option (AV × AV × Int) → Prop
  | none => w.heap[G.mu j]? = some (.map #[] c.toNat)
  | some (k, v, n) => ∃ ck cv, VR M G w k ck ∧ VR M G w v cv ∧ w.heap[G.mu j]? = some (.map #[⟨ck, cv, n.toNat⟩] c.toNat)
def IterIs (M : Nat → Prop) (G : Gh) (w : World) (i : Nat) (ob : Ob) : Option (Nat × Int × Int × List AV × Int × Option (AV × AV × Int)) → Prop
  | none => ∃ a seen b, w.heap[G.mu i]? = some (.mapIter none a seen b)
  | some (j, a, b, seen, c, e) => ∃ vs : List Value, ob.cs.length = seen.length + 3 ∧ vs.length = seen.length ∧ (∀ (k : Nat) (x : AV) (v : Value), seen[k]? = some x → vs[k]? = some v → VR M G w x v) ∧ VR M G w (.mapr j) (.map (some (G.mu j))) ∧
      w.heap[G.mu i]? = some (.mapIter (some (G.mu j)) a.toNat (vs.map natOf).toArray b.toNat) ∧ EntIs M G w j c e
/-- where an iterator and its map lie -/
theorem aIter_spec {M : Nat → Prop} {G : Gh} {w : World} (hS : Sim M G s w) {it : AV} {cit : Value} (hit : VR0 G w it cit) {i : Nat} {ob : Ob} {r : Option (Nat × Int × Int × List AV × Int × Option (AV × AV × Int))} (h : aIter s it = some (i, ob, r)) :
    cit = .pointer (some ⟨G.mu i, 0, none⟩) ∧ i < G.n ∧ s[i]? = some ob ∧ ob.live = true ∧ ob.t = mapT ∧
    IterIs M G w i ob r := by
  unfold aIter at h
  split at h
  case h_2 => cases h
  rename_i i1
  simp only [VR0] at hit
  split at h
  case h_2 => cases h
  rename_i ob1 hi
  split at h
  case isFalse => cases h
  rename_i hob
  obtain ⟨hl, ht⟩ := hob
  obtain ⟨vs, h1, h2, h3⟩ := hS.at_ i1 ob1 hi hl
  have hv : VRs0 G w ob1.cs vs := VRs0.mk h2 fun k a v ha hv => (h3 k a v ha hv).1
  split at h
  · rename_i n1 n2 rest hcs
    cases h
    rw [hcs] at hv
    simp only [VRs0, VR0] at hv
    obtain ⟨v1, vs1, rfl, rfl, v2, vs2, rfl, rfl, v3, vs3, rfl, rfl, h4⟩ := hv
    refine ⟨hit.1, hit.2, hi, hl, ht, n1.toNat, (vs3.map natOf).toArray, n2.toNat, ?_⟩
    rw [h1]
    unfold Ob.obj
    rw [if_pos ht]
    rfl
  · rename_i j a b seen hcs
    rw [hcs] at hv h3 h2
    simp only [VRs0, VR0] at hv
    obtain ⟨v1, vs1, rfl, ⟨rfl, hj2⟩, v2, vs2, rfl, rfl, v3, vs3, rfl, rfl, h4⟩ := hv
    split at h
    case h_2 => cases h
    rename_i om hj
    split at h
    case isFalse => cases h
    rename_i hom
    have hmr : VR M G w (.mapr j) (.map (some (G.mu j))) := ⟨by simp only [VR0]; exact ⟨trivial, hj2⟩, OwnC.of_plain rfl⟩
    have hit2 : w.heap[G.mu i1]? = some (.mapIter (some (G.mu j)) a.toNat (vs3.map natOf).toArray b.toNat) := by
      rw [h1]
      unfold Ob.obj
      rw [if_pos ht]
      rfl
    have hcell : ∀ (k : Nat) (x : AV) (v : Value), seen[k]? = some x → vs3[k]? = some v → VR M G w x v := fun k x v e1 e2 => h3 (k + 3) x v (by simpa using e1) (by simpa using e2)
    split at h
    · rename_i c hc
      cases h
      obtain ⟨us, g1, g2, g3⟩ := hS.map hj hom.1 hom.2 hc
      simp only [VRs0] at g2
      subst g2
      exact ⟨hit.1, hit.2, hi, hl, ht, vs3, by rw [hcs]; rfl, h4.length, hcell, hmr, hit2, g1⟩
    · rename_i c k v n hc
      cases h
      obtain ⟨us, g1, g2, g3⟩ := hS.map hj hom.1 hom.2 hc
      simp only [VRs0] at g2
      obtain ⟨u1, us1, rfl, q1, u2, us2, rfl, q2, u3, us3, rfl, q3, rfl⟩ := g2
      simp only [VR0] at q3
      subst q3
      exact ⟨hit.1, hit.2, hi, hl, ht, vs3, by rw [hcs]; rfl, h4.length, hcell, hmr, hit2, u1, u2, g3 0 _ _ rfl rfl, g3 1 _ _ rfl rfl, g1⟩
    · cases h
  · cases h
theorem run_next1 {w : World} {r j A B N C : Nat} {ck cv : Value} (ty : TypeId) (hlt : N < A) (hr : w.heap[r]? = some (.mapIter (some j) A #[] B)) (hj : w.heap[j]? = some (.map #[⟨ck, cv, N⟩] C)) :
    (Instr.next (.pointer (some ⟨r, 0, none⟩)) false ty).run P w = .ok (.tuple #[.bool true, ck, cv]) { w with heap := w.heap.setIfInBounds r (.mapIter (some j) A #[N] C) } := by
  have f1 : (#[⟨ck, cv, N⟩] : Array MapEntry).filter (fun e => !(#[] : Array Nat).contains e.born) = #[⟨ck, cv, N⟩] := by simp
  have f2 : (#[⟨ck, cv, N⟩] : Array MapEntry).filter (fun e => decide (e.born < A)) = #[⟨ck, cv, N⟩] := by simp [Array.filter_eq_self, hlt]
  have f3 : (#[⟨ck, cv, N⟩] : Array MapEntry).filter (fun e => decide (e.born ≥ A)) = #[] := by simp [Array.filter_eq_empty_iff, hlt]
  simp only [Instr.next, getObj, Sem.run_bind, Sem.run, hr, hj, Result.andThen, f1, f2, f3]
  simp [choose, Sem.run, Question.forced, setObj, hr]
theorem run_next2 {w : World} {r j A B N C : Nat} {ck cv : Value} (ty : TypeId) (hlt : N < B) (hr : w.heap[r]? = some (.mapIter (some j) A #[N] B)) (hj : w.heap[j]? = some (.map #[⟨ck, cv, N⟩] C)) :
    (Instr.next (.pointer (some ⟨r, 0, none⟩)) false ty).run P w = .ok (.tuple #[.bool false]) w := by
  have f1 : (#[⟨ck, cv, N⟩] : Array MapEntry).filter (fun e => !(#[N] : Array Nat).contains e.born) = #[] := by simp [Array.filter_eq_empty_iff]
  have f2 : (#[] : Array MapEntry).filter (fun e => decide (e.born < A)) = #[] := rfl
  have f3 : (#[] : Array MapEntry).filter (fun e => decide (e.born ≥ A)) = #[] := rfl
  simp only [Instr.next, getObj, Sem.run_bind, Sem.run, hr, hj, Result.andThen, f1, f2, f3]
  simp [choose, Sem.run, Question.forced, hlt]
theorem Step_next {x : Operand} {v : AV} {s' : List Ob} (ho : o.op = .next x false) (h : aNext s (aEval fr x) = some (v, s')) : Step P o fr s fr v s' := by
  intro M G w a hF hS hf K Q hK
  have hx := (hf.eval x).1
  have over : VR M G w (.tuple [.bool false]) (.tuple #[.bool false]) := ⟨by simp only [VR0]; exact ⟨[.bool false], rfl, by simp only [VRs0, VR0]; exact ⟨_, _, rfl, rfl, rfl⟩⟩, OwnC.of_plain rfl⟩
  have still : (Instr.next (a.eval x) false o.type).run P w = .ok (.tuple #[.bool false]) w → v = .tuple [.bool false] → s' = s → o.wp P a w K Q := fun hr e1 e2 => by
    subst e1 e2
    unfold Oper.wp
    rw [show (execOp a.eval o).run P w = .ok (.value (.tuple #[.bool false])) w by simp only [execOp, ho, Sem.run_bind, hr, Result.andThen_ok]; rfl, Oper.upon_value]
    exact hK _ G w (Ext.refl _ _ _) hS hf over
  unfold aNext at h
  split at h
  · rename_i i ob he
    cases h
    obtain ⟨e1, e2, e3, e4, e5, a0, seen, b0, e6⟩ := aIter_spec hS hx he
    refine still ?_ rfl rfl
    simp only [e1, Instr.next, getObj, Sem.run_bind, Sem.run, e6, Result.andThen]
    rfl
  · rename_i i ob j a0 b0 seen c he
    cases h
    obtain ⟨e1, e2, e3, e4, e5, vs, e6, e7, e8, e9, e10, e11⟩ := aIter_spec hS hx he
    simp only [EntIs] at e11
    refine still ?_ rfl rfl
    have f0 : ∀ p : MapEntry → Bool, Array.filter p #[] 0 0 = #[] := fun p => rfl
    simp only [e1, Instr.next, getObj, Sem.run_bind, Sem.run, e10, e11, Result.andThen]
    simp [choose, Sem.run, Question.forced, f0]
  · rename_i i ob j a0 b0 seen c k v1 n he
    obtain ⟨e1, e2, e3, e4, e5, vs, e6, e7, e8, e9, e10, ck, cv, q1, q2, q3⟩ := aIter_spec hS hx he
    split at h
    · split at h
      · rename_i hlt
        cases h
        have hvs : vs = [] := by cases vs with | nil => rfl | cons => simp at e7
        subst hvs
        have obj : Ob.obj { ob with cs := [.mapr j, .int .i64 a0, .int .i64 c, .int .i64 n] } [.map (some (G.mu j)), .int .i64 a0, .int .i64 c, .int .i64 n] = .mapIter (some (G.mu j)) a0.toNat #[n.toNat] c.toNat := by
          unfold Ob.obj; rw [if_pos e5]; rfl
        obtain ⟨hE, hS'⟩ := hS.setOb (ob' := { ob with cs := [.mapr j, .int .i64 a0, .int .i64 c, .int .i64 n] }) (vs := [.map (some (G.mu j)), .int .i64 a0, .int .i64 c, .int .i64 n]) e3 e4 (by rfl) (by
          intro k b u hb hu
          match k with
          | 0 => simp at hb hu; subst hb hu; exact e9
          | 1 => simp at hb hu; subst hb hu; exact ⟨by simp only [VR0], OwnC.of_plain rfl⟩
          | 2 => simp at hb hu; subst hb hu; exact ⟨by simp only [VR0], OwnC.of_plain rfl⟩
          | 3 => simp at hb hu; subst hb hu; exact ⟨by simp only [VR0], OwnC.of_plain rfl⟩
          | k + 4 => simp at hb)
        have hr : (Instr.next (a.eval x) false o.type).run P w = .ok (.tuple #[.bool true, ck, cv]) { w with heap := w.heap.setIfInBounds (G.mu i) (.mapIter (some (G.mu j)) a0.toNat #[n.toNat] c.toNat) } := by
          rw [e1]
          exact run_next1 _ hlt e10 q3
        unfold Oper.wp
        rw [show (execOp a.eval o).run P w = .ok (.value (.tuple #[.bool true, ck, cv])) _ by simp only [execOp, ho, Sem.run_bind, hr, Result.andThen_ok]; rfl, Oper.upon_value]
        rw [obj] at hE hS'
        refine hK _ G _ (hE.mono fun _ _ => False.elim) hS' (hf.grow hE) ⟨?_, OwnC.of_plain rfl⟩
        simp only [VR0]
        exact ⟨[.bool true, ck, cv], rfl, by
          simp only [VRs0, VR0]
          exact ⟨_, _, rfl, rfl, ck, _, rfl, (q1.grow hE).1.plain, cv, _, rfl, (q2.grow hE).1.plain, rfl⟩⟩
      · cases h
    · rename_i m
      split at h
      · rename_i hlt
        cases h
        match vs, e7 with
        | [u], _ =>
          have hu := (e8 0 _ _ rfl rfl).1
          simp only [VR0] at hu
          subst hu
          refine still ?_ rfl rfl
          rw [e1]
          simp only [List.map_cons, List.map_nil, natOf, hlt.1] at e10
          exact run_next2 _ hlt.2 e10 q3
      · cases h
    · cases h
  · cases h
theorem Step_item {x : Operand} {v : AV} (ho : o.op = .entry x) (h : aItem s (aEval fr x) = some v) : Still P o fr s v := by
  intro M G w a hS hf
  have hx := (hf.eval x).1
  unfold aItem at h
  split at h
  · rename_i i ob j a0 b0 m c k v1 n he
    split at h
    · rename_i hlt
      cases h
      obtain ⟨e1, e2, e3, e4, e5, vs, e6, e7, e8, e9, e10, ck, cv, q1, q2, q3⟩ := aIter_spec hS hx he
      match vs, e7 with
      | [u], _ =>
        have hu := (e8 0 _ _ rfl rfl).1
        simp only [VR0] at hu
        subst hu
        refine ⟨.tuple #[ck, cv], ?_, ?_, OwnC.of_plain rfl⟩
        · have hr : (Instr.entry (a.eval x)).run P w = .ok (.tuple #[ck, cv]) w := by
            simp only [List.map_cons, List.map_nil, natOf, hlt.1, hlt.2] at e10
            rw [e1]
            simp only [Instr.entry, getObj, Sem.run_bind, Sem.run, e10, q3, Result.andThen]
            simp [Sem.run, q3, Result.andThen]
          simp only [execOp, ho, Sem.run_bind, hr, Result.andThen_ok]
          rfl
        · simp only [VR0]
          exact ⟨[ck, cv], rfl, by
            simp only [VRs0]
            exact ⟨ck, _, rfl, q1.1.plain, cv, _, rfl, q2.1.plain, rfl⟩⟩
    · cases h
  · cases h
end
end
end Go.Proofs.YtmacghaihlfcpaaGreat.Abs
