/- Closed runs of the program. -/
import Derived.Test.YtmacghaihlfcpaaGreatA1
set_option maxRecDepth 100000
set_option linter.unusedVariables false
namespace Go.Proofs.YtmacghaihlfcpaaGreat.Abs
open Go Go.Proofs
noncomputable section

def X_A4 : FuncId → Option Ent := tabX [(120, specEnt [.str] [tVal, tI] (toldL [.str] [tVal, tI] [(x_n1, r_n1)]))]
theorem X_A4_sound : XSound Tryz.prog X_A4 := tabX_cons (s_n1 toldL_nil) (tabX_nil _)
theorem t_ut : runFn5 fdW Tryz.prog fdT X_A4 1000 40 136 [.list tTest] [.str, tI] x_ut = some r_ut := by kernel_rfl
theorem s_ut {l : List (Els [.list tTest] × RT [.str, tI])} (h : EntSound Tryz.prog 136 (specEnt [.list tTest] [.str, tI] (toldL [.list tTest] [.str, tI] l))) : EntSound Tryz.prog 136 (specEnt [.list tTest] [.str, tI] (toldL [.list tTest] [.str, tI] ((x_ut, r_ut) :: l))) := toldL_cons X_A4_sound (by kernel_rfl) t_ut h
end
end Go.Proofs.YtmacghaihlfcpaaGreat.Abs
