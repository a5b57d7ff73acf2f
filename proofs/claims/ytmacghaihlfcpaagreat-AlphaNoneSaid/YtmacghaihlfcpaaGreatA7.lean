/- Closed runs of the program. -/
import Derived.Test.YtmacghaihlfcpaaGreatA6
set_option maxRecDepth 100000
set_option linter.unusedVariables false
namespace Go.Proofs.YtmacghaihlfcpaaGreat.Abs
open Go Go.Proofs
noncomputable section

def X_A7 : FuncId → Option Ent := tabX [(33, specEnt [tProgram] [.st [.list tTemplate, .list (.st [tI, tI, tI, .list tTest]), .list (.st [tI, tCond, .list tI]), .list tI], tI] (toldL [tProgram] [.st [.list tTemplate, .list (.st [tI, tI, tI, .list tTest]), .list (.st [tI, tCond, .list tI]), .list tI], tI] [(x_of, r_of)])), (32, specEnt [.str] [tProgram, tPlace, tI] (toldL [.str] [tProgram, tPlace, tI] [(x_pa, r_pa)]))]
theorem X_A7_sound : XSound Tryz.prog X_A7 := tabX_cons (s_of toldL_nil) (tabX_cons (s_pa toldL_nil) (tabX_nil _))
theorem t_kn : runFn5 fdW Tryz.prog fdT X_A7 1000 40 10 [] [.bool] x_kn = some r_kn := by kernel_rfl
theorem s_kn {l : List (Els [] × RT [.bool])} (h : EntSound Tryz.prog 10 (specEnt [] [.bool] (toldL [] [.bool] l))) : EntSound Tryz.prog 10 (specEnt [] [.bool] (toldL [] [.bool] ((x_kn, r_kn) :: l))) := toldL_cons X_A7_sound (by kernel_rfl) t_kn h
end
end Go.Proofs.YtmacghaihlfcpaaGreat.Abs
