/- Closed runs of the program. -/
import Derived.Test.YtmacghaihlfcpaaGreatA5
set_option maxRecDepth 100000
set_option linter.unusedVariables false
namespace Go.Proofs.YtmacghaihlfcpaaGreat.Abs
open Go Go.Proofs
noncomputable section

def X_A6 : FuncId → Option Ent := tabX [(94, specEnt [tProgram] [.str, tI] (toldL [tProgram] [.str, tI] [(x_tx, r_tx)])), (32, specEnt [.str] [tProgram, tPlace, tI] (toldL [.str] [tProgram, tPlace, tI] [(x_pa, r_pa), (x_pa2, r_pa2)])), (120, specEnt [.str] [tVal, tI] (toldL [.str] [tVal, tI] [(x_n1, r_n1)]))]
theorem X_A6_sound : XSound Tryz.prog X_A6 := tabX_cons (s_tx toldL_nil) (tabX_cons (s_pa (s_pa2 toldL_nil)) (tabX_cons (s_n1 toldL_nil) (tabX_nil _)))
theorem t_of : runFn5 fdW Tryz.prog fdT X_A6 1000 40 33 [tProgram] [.st [.list tTemplate, .list (.st [tI, tI, tI, .list tTest]), .list (.st [tI, tCond, .list tI]), .list tI], tI] x_of = some r_of := by kernel_rfl
theorem s_of {l : List (Els [tProgram] × RT [.st [.list tTemplate, .list (.st [tI, tI, tI, .list tTest]), .list (.st [tI, tCond, .list tI]), .list tI], tI])} (h : EntSound Tryz.prog 33 (specEnt [tProgram] [.st [.list tTemplate, .list (.st [tI, tI, tI, .list tTest]), .list (.st [tI, tCond, .list tI]), .list tI], tI] (toldL [tProgram] [.st [.list tTemplate, .list (.st [tI, tI, tI, .list tTest]), .list (.st [tI, tCond, .list tI]), .list tI], tI] l))) : EntSound Tryz.prog 33 (specEnt [tProgram] [.st [.list tTemplate, .list (.st [tI, tI, tI, .list tTest]), .list (.st [tI, tCond, .list tI]), .list tI], tI] (toldL [tProgram] [.st [.list tTemplate, .list (.st [tI, tI, tI, .list tTest]), .list (.st [tI, tCond, .list tI]), .list tI], tI] ((x_of, r_of) :: l))) := toldL_cons X_A6_sound (by kernel_rfl) t_of h
end
end Go.Proofs.YtmacghaihlfcpaaGreat.Abs
