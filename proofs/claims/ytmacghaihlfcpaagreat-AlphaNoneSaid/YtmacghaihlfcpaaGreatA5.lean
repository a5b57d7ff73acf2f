/- Closed runs of the program. -/
import Derived.Test.YtmacghaihlfcpaaGreatA2
import Derived.Test.YtmacghaihlfcpaaGreatA3
import Derived.Test.YtmacghaihlfcpaaGreatA4
set_option maxRecDepth 100000
set_option linter.unusedVariables false
namespace Go.Proofs.YtmacghaihlfcpaaGreat.Abs
open Go Go.Proofs
noncomputable section

def X_A5 : FuncId → Option Ent := tabX [(136, specEnt [.list tTest] [.str, tI] (toldL [.list tTest] [.str, tI] [(x_ut, r_ut)])), (32, specEnt [.str] [tProgram, tPlace, tI] (toldL [.str] [tProgram, tPlace, tI] [(x_pa, r_pa), (x_pa2, r_pa2)])), (120, specEnt [.str] [tVal, tI] (toldL [.str] [tVal, tI] [(x_n1, r_n1)]))]
theorem X_A5_sound : XSound Tryz.prog X_A5 := tabX_cons (s_ut toldL_nil) (tabX_cons (s_pa (s_pa2 toldL_nil)) (tabX_cons (s_n1 toldL_nil) (tabX_nil _)))
theorem t_tx : runFn5 fdW Tryz.prog fdT X_A5 1000 40 94 [tProgram] [.str, tI] x_tx = some r_tx := by kernel_rfl
theorem s_tx {l : List (Els [tProgram] × RT [.str, tI])} (h : EntSound Tryz.prog 94 (specEnt [tProgram] [.str, tI] (toldL [tProgram] [.str, tI] l))) : EntSound Tryz.prog 94 (specEnt [tProgram] [.str, tI] (toldL [tProgram] [.str, tI] ((x_tx, r_tx) :: l))) := toldL_cons X_A5_sound (by kernel_rfl) t_tx h
end
end Go.Proofs.YtmacghaihlfcpaaGreat.Abs
