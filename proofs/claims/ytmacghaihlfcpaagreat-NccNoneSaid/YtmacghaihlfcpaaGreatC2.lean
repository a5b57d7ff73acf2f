/- Closed runs of the program. -/
import Derived.Test.YtmacghaihlfcpaaGreatC1
set_option maxRecDepth 100000
set_option linter.unusedVariables false
namespace Go.Proofs.YtmacghaihlfcpaaGreat.Abs
open Go Go.Proofs
noncomputable section

def X_C2 : FuncId → Option Ent := tabX [(57, sorted57E), (38, cl 38), (76, cl 76), (32, specEnt [.str] [tProgram, tPlace, tI] (toldL [.str] [tProgram, tPlace, tI] [(x_pn, r_pn)]))]
theorem X_C2_sound : XSound Tryz.prog X_C2 := tabX_cons (sorted57_sound) (tabX_cons (cl_sound (by kernel_rfl) clone38) (tabX_cons (cl_sound (by kernel_rfl) clone76) (tabX_cons (s_pn toldL_nil) (tabX_nil _))))
theorem t_kn24 : runFn6 fdW Tryz.prog fdN X_C2 1000 40 26 [] [.bool] x_kn24 = some r_kn24 := by kernel_rfl
theorem s_kn24 {l : List (Els [] × RT [.bool])} (h : EntSound Tryz.prog 26 (specEnt [] [.bool] (toldL [] [.bool] l))) : EntSound Tryz.prog 26 (specEnt [] [.bool] (toldL [] [.bool] ((x_kn24, r_kn24) :: l))) := toldL_cons6 X_C2_sound (by kernel_rfl) t_kn24 h
end
end Go.Proofs.YtmacghaihlfcpaaGreat.Abs
