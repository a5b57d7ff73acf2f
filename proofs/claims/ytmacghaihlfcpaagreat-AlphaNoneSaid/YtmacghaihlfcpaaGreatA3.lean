/- Closed runs of the program. -/
import Derived.Test.YtmacghaihlfcpaaGreatA1
set_option maxRecDepth 100000
set_option linter.unusedVariables false
namespace Go.Proofs.YtmacghaihlfcpaaGreat.Abs
open Go Go.Proofs
noncomputable section

def X_A3 : FuncId → Option Ent := tabX [(120, specEnt [.str] [tVal, tI] (toldL [.str] [tVal, tI] [(x_n1, r_n1)]))]
theorem X_A3_sound : XSound Tryz.prog X_A3 := tabX_cons (s_n1 toldL_nil) (tabX_nil _)
theorem t_pa2 : runFn5 fdW Tryz.prog fdT X_A3 1000 40 32 [.str] [tProgram, tPlace, tI] x_pa2 = some r_pa2 := by kernel_rfl
theorem s_pa2 {l : List (Els [.str] × RT [tProgram, tPlace, tI])} (h : EntSound Tryz.prog 32 (specEnt [.str] [tProgram, tPlace, tI] (toldL [.str] [tProgram, tPlace, tI] l))) : EntSound Tryz.prog 32 (specEnt [.str] [tProgram, tPlace, tI] (toldL [.str] [tProgram, tPlace, tI] ((x_pa2, r_pa2) :: l))) := toldL_cons X_A3_sound (by kernel_rfl) t_pa2 h
end
end Go.Proofs.YtmacghaihlfcpaaGreat.Abs
