/- Closed runs of the program. -/
import Derived.Test.YtmacghaihlfcpaaGreatB2
set_option maxRecDepth 100000
set_option linter.unusedVariables false
namespace Go.Proofs.YtmacghaihlfcpaaGreat.Abs
open Go Go.Proofs
noncomputable section

def X_B3 : FuncId → Option Ent := tabX [(18, specEnt [] [.bool] (toldL [] [.bool] [(x_kj, r_kj)]))]
theorem X_B3_sound : XSound Tryz.prog X_B3 := tabX_cons (s_kj toldL_nil) (tabX_nil _)
theorem join_tells (x : Els [tI, tFact]) : runFn5 fdW Tryz.prog fdT X_B3 1000 40 4 [tI, tFact] [.bool] x = some true := by
  obtain ⟨n, ⟨a, b, xs, u⟩, u2⟩ := x
  kernel_rfl
end
end Go.Proofs.YtmacghaihlfcpaaGreat.Abs
