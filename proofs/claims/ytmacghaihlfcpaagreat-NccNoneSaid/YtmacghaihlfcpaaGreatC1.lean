/- Closed runs of the program. -/
import Derived.Test.YtmacghaihlfcpaaGreatC0
set_option maxRecDepth 100000
set_option linter.unusedVariables false
namespace Go.Proofs.YtmacghaihlfcpaaGreat.Abs
open Go Go.Proofs
noncomputable section

def X_C1 : FuncId → Option Ent := tabX []
theorem X_C1_sound : XSound Tryz.prog X_C1 := tabX_nil _
theorem t_pn : runFn5 fdW Tryz.prog fdT X_C1 1000 40 32 [.str] [tProgram, tPlace, tI] x_pn = some r_pn := by kernel_rfl
theorem s_pn {l : List (Els [.str] × RT [tProgram, tPlace, tI])} (h : EntSound Tryz.prog 32 (specEnt [.str] [tProgram, tPlace, tI] (toldL [.str] [tProgram, tPlace, tI] l))) : EntSound Tryz.prog 32 (specEnt [.str] [tProgram, tPlace, tI] (toldL [.str] [tProgram, tPlace, tI] ((x_pn, r_pn) :: l))) := toldL_cons X_C1_sound (by kernel_rfl) t_pn h
end
end Go.Proofs.YtmacghaihlfcpaaGreat.Abs
