/- Closed runs of the program. -/
import Derived.Test.YtmacghaihlfcpaaGreatA0
set_option maxRecDepth 100000
set_option linter.unusedVariables false
namespace Go.Proofs.YtmacghaihlfcpaaGreat.Abs
open Go Go.Proofs
noncomputable section

def X_A1 : FuncId → Option Ent := tabX []
theorem X_A1_sound : XSound Tryz.prog X_A1 := tabX_nil _
theorem t_n1 : runFn5 fdW Tryz.prog fdT X_A1 1000 40 120 [.str] [tVal, tI] x_n1 = some r_n1 := by kernel_rfl
theorem s_n1 {l : List (Els [.str] × RT [tVal, tI])} (h : EntSound Tryz.prog 120 (specEnt [.str] [tVal, tI] (toldL [.str] [tVal, tI] l))) : EntSound Tryz.prog 120 (specEnt [.str] [tVal, tI] (toldL [.str] [tVal, tI] ((x_n1, r_n1) :: l))) := toldL_cons X_A1_sound (by kernel_rfl) t_n1 h
end
end Go.Proofs.YtmacghaihlfcpaaGreat.Abs
