/- What was reckoned once, with the quicker calls. -/
import Derived.Test.YtmacghaihlfcpaaGreatFG
namespace Go.Proofs.YtmacghaihlfcpaaGreat.Abs
noncomputable section
open Go Go.ChangeShapes Go.WideShapes Go.ChangeAt Go.RowKit
set_option linter.unusedVariables false
set_option linter.unusedSimpArgs false

def runFn5 (W : List Nat) (P : Program) (T : List (Nat × FD)) (X : FuncId → Option Ent) (N d : Nat) (f : FuncId) (pts rts : List Ty) (x : Els pts) : Option (RT rts) := callAllF (DRf W) P T X N d f (RT rts) (encA pts x) [] (kPure rts)
theorem runFn5_sound {W : List Nat} {P : Program} {T : List (Nat × FD)} {X : FuncId → Option Ent} (hX : XSound P X) {N d : Nat} {f : FuncId} {pts rts : List Ty} (hen : enters P f = true) : EntSound P f (specEnt pts rts (runFn5 W P T X N d f pts rts)) := by
  intro β args s k b h
  unfold specEnt at h
  split at h
  case h_2 => cases h
  rename_i x hx
  split at h
  case h_2 => cases h
  rename_i r hr
  refine ⟨hen, encR rts r, s, ?_, h⟩
  obtain ⟨_, r0, s', h1, h2⟩ := callAllF_sound (T := T) (N := N) (DRf_sound W) hX d f (RT rts) (encA pts x) [] (kPure rts) r hr
  unfold kPure at h2
  split at h2
  case h_2 => cases h2
  have h3 := h1.weaken (decR_spec h2) (encR_mark rts r)
  exact (Ok_everywhere h3 (encA_free pts x) (encR_free rts r) (encR_mark rts r) _).args (decA_spec hx)
theorem told5 {W : List Nat} {P : Program} {T : List (Nat × FD)} {X : FuncId → Option Ent} (hX : XSound P X) {N d : Nat} {f : FuncId} {pts rts : List Ty} (hen : enters P f = true) {x0 : Els pts} {r0 : RT rts} (h : runFn5 W P T X N d f pts rts x0 = some r0) : EntSound P f (specEnt pts rts (toldAt pts rts x0 r0)) := by
  intro β args s k b h2
  refine runFn5_sound (W := W) (T := T) (N := N) (d := d) (pts := pts) (rts := rts) hX hen β args s k b ?_
  unfold specEnt at h2 ⊢
  split at h2
  case h_2 => cases h2
  rename_i x hx
  unfold toldAt at h2
  split at h2
  case h_2 => cases h2
  rename_i r hr
  obtain ⟨h3, h4⟩ := cond_some hr
  cases h4
  rw [eqEs_eq pts x x0 h3, h]
  exact h2
/-- the function at these arguments -/
def toldL (pts rts : List Ty) : List (Els pts × RT rts) → Els pts → Option (RT rts)
  | [], _ => none
  | (x0, r0) :: l, x => cond (eqEs pts x x0) (some r0) (toldL pts rts l x)
theorem toldL_nil {P : Program} {f : FuncId} {pts rts : List Ty} : EntSound P f (specEnt pts rts (toldL pts rts [])) := by
  intro β args s k b h
  unfold specEnt at h
  split at h
  · simp only [toldL] at h; cases h
  · cases h
theorem toldL_cons {W : List Nat} {P : Program} {T : List (Nat × FD)} {X : FuncId → Option Ent} (hX : XSound P X) {N d : Nat} {f : FuncId} {pts rts : List Ty} (hen : enters P f = true) {x0 : Els pts} {r0 : RT rts} {l : List (Els pts × RT rts)} (h : runFn5 W P T X N d f pts rts x0 = some r0)
    (hl : EntSound P f (specEnt pts rts (toldL pts rts l))) : EntSound P f (specEnt pts rts (toldL pts rts ((x0, r0) :: l))) := by
  intro β args s k b h2
  have e : ∀ x, toldL pts rts ((x0, r0) :: l) x = cond (eqEs pts x x0) (some r0) (toldL pts rts l x) := fun _ => rfl
  unfold specEnt at h2
  split at h2
  case h_2 => cases h2
  rename_i x hx
  rw [e] at h2
  cases hb : eqEs pts x x0 with
  | true =>
    refine told5 (W := W) (T := T) (N := N) (d := d) hX hen h β args s k b ?_
    unfold specEnt
    rw [hx]
    dsimp only
    unfold toldAt
    rw [hb] at h2 ⊢
    exact h2
  | false =>
    rw [hb] at h2
    refine hl β args s k b ?_
    unfold specEnt
    rw [hx]
    exact h2
end
end Go.Proofs.YtmacghaihlfcpaaGreat.Abs
