/- Closed runs of the program. -/
import Derived.Test.YtmacghaihlfcpaaGreatB1
set_option maxRecDepth 100000
set_option linter.unusedVariables false
namespace Go.Proofs.YtmacghaihlfcpaaGreat.Abs
open Go Go.Proofs
noncomputable section

def X_B2 : FuncId → Option Ent := tabX [(57, sorted57E), (38, cl 38), (76, cl 76), (32, specEnt [.str] [tProgram, tPlace, tI] (toldL [.str] [tProgram, tPlace, tI] [(x_pj, r_pj)]))]
theorem X_B2_sound : XSound Tryz.prog X_B2 := tabX_cons (sorted57_sound) (tabX_cons (cl_sound (by kernel_rfl) clone38) (tabX_cons (cl_sound (by kernel_rfl) clone76) (tabX_cons (s_pj toldL_nil) (tabX_nil _))))
theorem t_kj : runFn5 fdW Tryz.prog fdT X_B2 1000 40 18 [] [.bool] x_kj = some r_kj := by kernel_rfl
theorem s_kj {l : List (Els [] × RT [.bool])} (h : EntSound Tryz.prog 18 (specEnt [] [.bool] (toldL [] [.bool] l))) : EntSound Tryz.prog 18 (specEnt [] [.bool] (toldL [] [.bool] ((x_kj, r_kj) :: l))) := toldL_cons X_B2_sound (by kernel_rfl) t_kj h
end
end Go.Proofs.YtmacghaihlfcpaaGreat.Abs
