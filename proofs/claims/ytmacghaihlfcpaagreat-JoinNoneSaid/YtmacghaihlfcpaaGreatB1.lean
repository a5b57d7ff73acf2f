/- Closed runs of the program. -/
import Derived.Test.YtmacghaihlfcpaaGreatB0
set_option maxRecDepth 100000
set_option linter.unusedVariables false
namespace Go.Proofs.YtmacghaihlfcpaaGreat.Abs
open Go Go.Proofs
noncomputable section

def X_B1 : FuncId → Option Ent := tabX []
theorem X_B1_sound : XSound Tryz.prog X_B1 := tabX_nil _
theorem t_pj : runFn5 fdW Tryz.prog fdT X_B1 1000 40 32 [.str] [tProgram, tPlace, tI] x_pj = some r_pj := by kernel_rfl
theorem s_pj {l : List (Els [.str] × RT [tProgram, tPlace, tI])} (h : EntSound Tryz.prog 32 (specEnt [.str] [tProgram, tPlace, tI] (toldL [.str] [tProgram, tPlace, tI] l))) : EntSound Tryz.prog 32 (specEnt [.str] [tProgram, tPlace, tI] (toldL [.str] [tProgram, tPlace, tI] ((x_pj, r_pj) :: l))) := toldL_cons X_B1_sound (by kernel_rfl) t_pj h
end
end Go.Proofs.YtmacghaihlfcpaaGreat.Abs
