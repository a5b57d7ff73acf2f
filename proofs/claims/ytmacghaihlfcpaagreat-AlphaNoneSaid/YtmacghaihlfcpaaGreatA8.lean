/- Closed runs of the program. -/
import Derived.Test.YtmacghaihlfcpaaGreatA7
set_option maxRecDepth 100000
set_option linter.unusedVariables false
namespace Go.Proofs.YtmacghaihlfcpaaGreat.Abs
open Go Go.Proofs
noncomputable section

def X_A8 : FuncId → Option Ent := tabX [(10, specEnt [] [.bool] (toldL [] [.bool] [(x_kn, r_kn)]))]
theorem X_A8_sound : XSound Tryz.prog X_A8 := tabX_cons (s_kn toldL_nil) (tabX_nil _)
theorem alpha_tells (x : Els [tFact]) : runFn5 fdW Tryz.prog fdT X_A8 1000 40 3 [tFact] [.bool] x = some true := by
  obtain ⟨⟨a, b, xs, u⟩, u2⟩ := x
  kernel_rfl
end
end Go.Proofs.YtmacghaihlfcpaaGreat.Abs
