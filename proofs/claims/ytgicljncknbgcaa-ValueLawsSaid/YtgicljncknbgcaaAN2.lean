/- makeSlice: as a list of zeros, or as an object; an object that nobody writes any more as a list. -/
import Derived.Test.YtgicljncknbgcaaAR
import Derived.Laws.MakeOwn
namespace Go.Proofs.Ytgicljncknbgcaa.Abs
open Go Go.ChangeShapes Go.WideShapes Go.ChangeAt Go.RowKit
set_option linter.unusedVariables false
set_option linter.unusedSimpArgs false
def zerosOf (z : Value) (n : Nat) : List AV := (madeCells z.cells n).toList.map absS
/-- element type, size, one element's zero, and whether so many may be asked for -/
def aMake (P : Program) (t : TypeId) (n : Nat) : Option (TypeId × List AV) :=
  match aElem P t with
  | some (e, size) => match P.info? e with
    | some i => match i.zero with
      | some z => if i.bytes * n ≤ 281474976710656 ∧ n ≤ 9223372036854775807 then some (e, zerosOf z (n * size)) else none
      | none => none
    | none => none
  | none => none
theorem aMake_run {P : Program} {t e : TypeId} {n : Nat} {cs : List AV} (h : aMake P t n = some (e, cs)) (k k' : IntKind) (w : World) :
    ∃ vs : Array Value, cs = vs.toList.map absS ∧ (Instr.makeSlice t (.int k n) (.int k' n)).run P w = .ok (.slice (some ⟨w.heap.size, 0, none⟩) n n) (w.alloc (.cells vs e)) := by
  unfold aMake at h
  split at h
  case h_2 => cases h
  rename_i e' size he
  obtain ⟨h2, i, h3, h4, h5⟩ := aElem_spec he
  rw [h3] at h
  dsimp only at h
  split at h
  case h_2 => cases h
  rename_i z hz
  split at h
  case isFalse => cases h
  rename_i hc
  simp only [Option.some.injEq, Prod.mk.injEq] at h
  obtain ⟨rfl, rfl⟩ := h
  have hb' : (i.bytes : Int) * (n : Int) ≤ 281474976710656 := by
    have h : ((i.bytes * n : Nat) : Int) ≤ 281474976710656 := by omega
    rwa [Int.natCast_mul] at h
  have hr := run_make (P := P) w t e' i z h2 h3 hz k k' n n (by omega) (Int.le_refl _) hb' (by omega)
  refine ⟨madeCells z.cells (n * size), rfl, ?_⟩
  rw [hr, h4]
  simp
section
variable {P : Program} {o : Oper} {fr : List AV} {s : List Ob}
theorem Step_makeList {t e : TypeId} {x y : Operand} {k k' : IntKind} {n : Nat} {cs : List AV} (ho : o.op = .makeSlice t x y) (hx : aEval fr x = .int k n) (hy : aEval fr y = .int k' n) (h : aMake P t n = some (e, cs)) :
    Foreign P o fr s (.list cs n .full) := fun M G w a hS hf => by
  have hv := (hf.eval x).1
  have hu := (hf.eval y).1
  rw [hx] at hv
  rw [hy] at hu
  simp only [VR0] at hv hu
  obtain ⟨vs, rfl, h2⟩ := aMake_run h k k' w
  refine ⟨.slice (some ⟨w.heap.size, 0, none⟩) n n, .cells vs e, ?_, foreign_list hS (by simp) fun j b v hb hv' => zero_VR0 G w vs.toList j b v hb hv'⟩
  simp only [execOp, ho, hv, hu, Sem.run_bind, h2, Result.andThen_ok]
  rfl
theorem Step_makeArr {t e : TypeId} {x y : Operand} {k k' : IntKind} {n : Nat} {cs : List AV} (ho : o.op = .makeSlice t x y) (hx : aEval fr x = .int k n) (hy : aEval fr y = .int k' n) (h : aMake P t n = some (e, cs)) :
    Step P o fr s fr (.arr s.length n) (s ++ [⟨cs, e, true⟩]) := by
  intro M G w a hF hS hf K Q hK
  have hv := (hf.eval x).1
  have hu := (hf.eval y).1
  rw [hx] at hv
  rw [hy] at hu
  simp only [VR0] at hv hu
  obtain ⟨vs, rfl, h2⟩ := aMake_run h k k' w
  have hex : (execOp a.eval o).run P w = .ok (.value (.slice (some ⟨w.heap.size, 0, none⟩) n n)) (w.alloc (.cells vs e)) := by
    simp only [execOp, ho, hv, hu, Sem.run_bind, h2, Result.andThen_ok]
    rfl
  obtain ⟨hE, hS'⟩ := hS.addObj (cs := vs.toList.map absS) (vs := vs.toList) (t := e) (by simp) (fun j b v hb hv' => ⟨zero_VR0 G w vs.toList j b v hb hv', OwnC.of_plain (by
    rw [List.getElem?_map] at hb
    cases hq : vs.toList[j]? with
    | none => rw [hq] at hb; cases hb
    | some u => rw [hq] at hb; simp at hb; subst hb; exact absS_mark u)⟩)
  have ea : vs.toList.toArray = vs := by simp
  rw [ea] at hE hS'
  unfold Oper.wp
  rw [hex, Oper.upon_value]
  refine hK _ _ _ (hE.mono fun _ _ => False.elim) hS' (hf.grow hE) ⟨?_, OwnC.of_plain rfl⟩
  simp only [VR0]
  refine ⟨⟨n, ?_, Nat.le_refl _⟩, ?_⟩
  · simp [Gh.addObj, hS.n]
  · simp [Gh.addObj, hS.n]
end
/-! an object that becomes a list -/
def Gh.kill (G : Gh) (i : Nat) : Gh := { G with live := fun j => if j = i then false else G.live j }
theorem Ext.kill (G : Gh) (i : Nat) (w : World) : Ext (fun _ => False) G w (G.kill i) w where
  size := Nat.le_refl _
  os := rfl
  tape := rfl
  output := rfl
  n := Nat.le_refl _
  live j hj h := by
    simp only [Gh.kill] at h
    split at h
    · cases h
    · exact h
  mu _ _ := rfl
  newobj j h1 h2 := by simp only [Gh.kill] at h2; omega
  own _ _ := rfl
  phi _ _ _ := Nat.le_refl _
  cell _ _ _ _ := rfl
  row _ _ _ _ _ _ := rfl
  keep _ _ _ _ _ := ⟨rfl, rfl, rfl⟩
theorem Sim.kill {M : Nat → Prop} {G : Gh} {s : List Ob} {w : World} (h : Sim M G s w) {i : Nat} {ob : Ob} (hi : s[i]? = some ob) : Sim M (G.kill i) (s.set i { ob with live := false }) w := by
  have hE := Ext.kill G i w
  refine ⟨by simp [Gh.kill, h.n], ?_, ?_, ?_, fun {j} hj h1 => h.lt hj (hE.live j hj h1), ?_⟩
  · intro j k hj hk h1 h2
    exact h.inj j k hj hk (hE.live j hj h1) (hE.live k hk h2)
  · intro j hj h1
    exact h.own j hj (hE.live j hj h1)
  · intro j o' hj hol
    rw [List.getElem?_set] at hj
    split at hj
    · rename_i hij
      split at hj
      · simp at hj; subst hj; cases hol
      · cases hj
    · rename_i hij
      simp only [Gh.kill]
      rw [if_neg (fun e => hij e.symm)]
      exact h.live j o' hj hol
  · intro j o' hj hlv
    rw [List.getElem?_set] at hj
    split at hj
    · split at hj
      · simp at hj; subst hj; cases hlv
      · cases hj
    · obtain ⟨us, g1, g2, g3⟩ := h.at_ j o' hj hlv
      exact ⟨us, g1, g2, fun k' a' v' hk hv' => (g3 k' a' v' hk hv').grow hE⟩
theorem Rel.freeze {M : Nat → Prop} {G0 : Gh} {w0 : World} {fr : List AV} {s : List Ob} {a : Act} {w : World} (t i n : Nat) {ob : Ob} (hi : s[i]? = some ob) (hl : ob.live = true) (ht : fr.getD t .undef = .arr i n)
    (h : Rel M G0 w0 fr s a w) : Rel M G0 w0 (fr.set t (.list (ob.cs.map AV.plain) n .unk)) (s.set i { ob with live := false }) a w := by
  obtain ⟨G, h1, h2, h3⟩ := h
  have hE := Ext.kill G i w
  have hin : i < G.n := by rw [h2.n]; exact lt_of_some hi
  refine ⟨G.kill i, h1.trans (hE.mono fun _ _ => False.elim) (fun b _ hb => hb), h2.kill hi, ?_⟩
  have h4 := h3.grow hE
  refine ⟨h4.defers, by simpa using h4.size, fun t' => ?_⟩
  rw [List.getD_eq_getElem?_getD, List.getElem?_set]
  split
  · rename_i htt
    subst htt
    split
    · have hv := (h3.at_ t).1
      rw [ht] at hv
      simp only [VR0] at hv
      obtain ⟨⟨cap, e1, e2⟩, e3⟩ := hv
      refine ⟨?_, OwnC.of_plain rfl⟩
      simp only [Option.getD_some, VR0]
      obtain ⟨vs, g1, g2, g3⟩ := h2.at_ i ob hi hl
      refine ⟨_, cap, e1, e2, (fun h => by cases h), .inr ⟨G.mu i, 0, vs, rfl, ⟨?_, ?_, ?_⟩, ?_, ?_⟩⟩
      · rcases Nat.lt_or_ge (G.mu i) w.heap.size with h5 | h5
        · exact h5
        · rw [Array.getElem?_eq_none h5] at g1; cases g1
      · rintro ⟨j, hj, hlj, hmj⟩
        have hlj' := hE.live j hj hlj
        have : j = i := h2.inj j i hj hin hlj' (h2.live i ob hi hl) hmj
        subst this
        simp [Gh.kill] at hlj
      · intro ho
        have := h2.own i hin (h2.live i ob hi hl)
        simp only [Gh.kill] at ho
        rw [this] at ho
        cases ho
      · intro j v hj
        rw [Nat.zero_add, cell_of_vs g1]
        exact hj
      · refine VRs0.mk (by simp [g2]) fun j b v hb hv' => ?_
        rw [List.getElem?_map] at hb
        cases hq : ob.cs[j]? with
        | none => rw [hq] at hb; cases hb
        | some c =>
          rw [hq] at hb
          simp at hb
          subst hb
          exact (VR0.mono hE c v (g3 j c v hq hv').1).plain
    · rename_i hlt
      refine ⟨by simp only [Option.getD_none, VR0], OwnC.of_plain rfl⟩
  · have := h4.at_ t'
    rwa [List.getD_eq_getElem?_getD] at this
end Go.Proofs.Ytgicljncknbgcaa.Abs
