/- Regions whose order is open. -/
import Derived.Test.YtgicljncknbgcaaTX
namespace Go.Proofs.Ytgicljncknbgcaa.Abs
open Go Go.ChangeShapes Go.WideShapes Go.ChangeAt Go.RowKit
set_option linter.unusedVariables false
set_option linter.unusedSimpArgs false
def evIdx (n0 : Nat) : List (Bool × Nat) → List Nat
  | [] => []
  | (true, i) :: l => (n0 + i) :: evIdx n0 l
  | (false, i) :: l => i :: evIdx n0 l
def DR : DrawT := fun sc cf β id A fr s k => match lookN sc.heads id with
  | some hd => match hd.ev with
    | [] => draw3 sc cf hd A fr s k
    | (e, l) :: _ => drawC sc cf hd e (evIdx cf.n0 l) A fr s k
  | none => none
theorem DR_sound : DrawSound DR := by
  intro sc cf β id A fr s k b hC h
  unfold DR at h
  split at h
  · split at h
    · exact draw3_sound hC h
    · exact drawC_sound hC h
  · cases h
end Go.Proofs.Ytgicljncknbgcaa.Abs
