/- Closed runs of the program. -/
import Derived.Test.YtmacghaihlfcpaaGreatC2
set_option maxRecDepth 100000
set_option linter.unusedVariables false
namespace Go.Proofs.YtmacghaihlfcpaaGreat.Abs
open Go Go.Proofs
noncomputable section

def X_C3 : FuncId → Option Ent := tabX [(26, specEnt [] [.bool] (toldL [] [.bool] [(x_kn24, r_kn24)]))]
theorem X_C3_sound : XSound Tryz.prog X_C3 := tabX_cons (s_kn24 toldL_nil) (tabX_nil _)
theorem ncc_tells (x : Els [tI, tFact]) : runFn6 fdW Tryz.prog fdN X_C3 1000 40 5 [tI, tFact] [.bool] x = some true := by
  obtain ⟨n, ⟨a, b, xs, u⟩, u2⟩ := x
  kernel_rfl
end
end Go.Proofs.YtmacghaihlfcpaaGreat.Abs
