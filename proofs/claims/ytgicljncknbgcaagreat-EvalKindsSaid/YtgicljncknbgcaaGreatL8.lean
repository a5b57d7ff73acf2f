/- The walks of the functions of package value that call the library: texts and names. -/
import Derived.Laws.RangeAny
import Derived.WalkKit
import Derived.ProofKit
import Derived.Shelf.Strings.FuncGrows
import Derived.Shelf.Lay
import Derived.Test.YtgicljncknbgcaaGreatShelf
set_option linter.unusedVariables false
set_option linter.unusedSimpArgs false
set_option linter.unusedSectionVars false
namespace Go.Proofs.YtgicljncknbgcaaGreat.Abs.Walks
open Go Go.Proofs Go.ChangeShapes Go.WideShapes Go.ChangeAt Go.RowKit Go.Shelf Go.Lib
theorem j50 (w:World):Below w.heap.size w w:=Below.refl _ _
theorem xm0 {p:Prop}(h:p):Hid p:=h
def oddR (r:Nat):Bool:=decide (r<32)||decide (126<r)
def ke9 (r:Nat):Bool:=(decide (r<97)||decide (122<r))&&(decide (r<48)||decide (57<r))
theorem odd_at (w:World):PredAt Tryz.prog 230 #[] encR oddR w:=fun W r _=>by
 unfold FnGives
 by_cases h1:r<32<;>by_cases h2:126<r
 all_goals
  have z1:(r:Int)<32↔r<32:=by omega
  have z2:(126:Int)<(r:Int)↔126<r:=by omega
  go_enter Tryz.func230,Tryz.ntmps230
  go_wp2
  all_goals first|(exfalso;omega)|(go_ret;exact⟨by simp[oddR,h1,h2],0,rfl⟩)
theorem name_at (w:World):PredAt Tryz.prog 231 #[] encR ke9 w:=fun W r _=>by
 unfold FnGives
 by_cases h1:r<97<;>by_cases h2:122<r<;>by_cases h3:r<48<;>by_cases h4:57<r
 all_goals
  have z1:(r:Int)<97↔r<97:=by omega
  have z2:(122:Int)<(r:Int)↔122<r:=by omega
  have z3:(r:Int)<48↔r<48:=by omega
  have z4:(57:Int)<(r:Int)↔57<r:=by omega
  go_enter Tryz.func231,Tryz.ntmps231
  go_wp2
  all_goals first|(exfalso;omega)|(go_ret;exact⟨by simp[ke9,h1,h2,h3,h4],0,rfl⟩)
def yy7 (s:ByteArray):Bool:=decide (s.size≤200)&&!decide (0≤Lib.idxFunc oddR true s)
def v40 (s:ByteArray):Bool:=if h:0<s.size then decide (s.size≤12)&&(decide (97≤(s[0].toNat:Int))&&decide ((s[0].toNat:Int)≤122)) else false
def wu5 (s:ByteArray):Bool:=v40 s&&!decide (0≤Lib.idxFunc ke9 true s)
theorem istext_calls (s:ByteArray)(w:World):Calls Tryz.prog 180 #[.string s] w fun x w'=>x=.returned (.bool (yy7 s))∧Below w.heap.size w w':=by
 have hc:=fun W=>Tryz.strings_ContainsFunc 230 #[] (enters_of Tryz.func230 (by kernel_rfl) rfl) oddR s W (odd_at W)
 obtain⟨B,hB⟩:∃ B,decide (0≤Lib.idxFunc oddR true s)=B:=⟨_,rfl⟩
 rw[hB] at hc
 by_cases h:s.size≤200
 ·have h1:(s.size:Int)≤200:=by omega
  have hf:=xm0 (show yy7 s=!B by unfold yy7;rw[hB,decide_eq_true h];rfl)
  have HC:=xm0 hc
  clear hc h hB
  go_enter Tryz.func180,Tryz.ntmps180
  go_wp2_with fail
  refine(HC.out _).mono ?_
  rintro e w1 ⟨rfl,hn⟩
  go_wp2_with fail
  go_ret
  exact⟨by rw[hf.out];rfl,hn⟩
 ·have h1:¬ (s.size:Int)≤200:=by omega
  have hf:=xm0 (show yy7 s=false by unfold yy7;rw[decide_eq_false h];rfl)
  clear hc h hB
  go_enter Tryz.func180,Tryz.ntmps180
  go_wp2_with fail
  go_ret
  exact⟨by rw[hf.out];rfl,j50 w⟩
theorem isname_calls (s:ByteArray)(w:World):Calls Tryz.prog 181 #[.string s] w fun x w'=>x=.returned (.bool (wu5 s))∧Below w.heap.size w w':=by
 have hc:=fun W=>Tryz.strings_ContainsFunc 231 #[] (enters_of Tryz.func231 (by kernel_rfl) rfl) ke9 s W (name_at W)
 obtain⟨B,hB⟩:∃ B,decide (0≤Lib.idxFunc ke9 true s)=B:=⟨_,rfl⟩
 rw[hB] at hc
 by_cases h0:0<s.size
 ·have g1:s.toList.isEmpty=false:=by
   rw[Lib.toList_data]
   cases h:s.data.toList
   ·have h1:s.data.toList.length=0:=by rw[h];rfl
    rw[Array.length_toList] at h1
    have e:s.size=s.data.size:=rfl
    omega
   ·rfl
  have g2:¬ s.toList=[]:=by intro h;rw[h] at g1;cases g1
  by_cases h1:s.size≤12
  ·by_cases h2:97≤(s[0].toNat:Int)
   ·by_cases h3:(s[0].toNat:Int)≤122
    ·have hf:=xm0 (show wu5 s=!B by unfold wu5 v40;rw[hB,dif_pos h0,decide_eq_true h1,decide_eq_true h2,decide_eq_true h3];rfl)
     have HC:=xm0 hc
     clear hc hB
     go_enter Tryz.func181,Tryz.ntmps181
     go_wp2_with fail
     refine(HC.out _).mono ?_
     rintro e w1 ⟨rfl,hn⟩
     go_wp2_with fail
     go_ret
     exact⟨by rw[hf.out];rfl,hn⟩
    ·have hf:=xm0 (show wu5 s=false by unfold wu5 v40;rw[dif_pos h0,decide_eq_false h3];simp)
     clear hc hB
     go_enter Tryz.func181,Tryz.ntmps181
     go_wp2_with fail
     go_ret
     exact⟨by rw[hf.out];rfl,j50 w⟩
   ·have hf:=xm0 (show wu5 s=false by unfold wu5 v40;rw[dif_pos h0,decide_eq_false h2];simp)
    clear hc hB
    go_enter Tryz.func181,Tryz.ntmps181
    go_wp2_with fail
    go_ret
    exact⟨by rw[hf.out];rfl,j50 w⟩
  ·have hf:=xm0 (show wu5 s=false by unfold wu5 v40;rw[dif_pos h0,decide_eq_false h1];simp)
   clear hc hB
   go_enter Tryz.func181,Tryz.ntmps181
   go_wp2_with fail
   go_ret
   exact⟨by rw[hf.out];rfl,j50 w⟩
 ·have g1:s.toList.isEmpty=true:=by
   rw[Lib.toList_data,List.isEmpty_iff,← List.length_eq_zero_iff,Array.length_toList]
   show s.size=0
   omega
  have g2:s.toList=[]:=by simpa using g1
  have hf:=xm0 (show wu5 s=false by unfold wu5 v40;rw[dif_neg h0];rfl)
  clear hc hB
  go_enter Tryz.func181,Tryz.ntmps181
  go_wp2_with fail
  go_ret
  exact⟨by rw[hf.out];rfl,j50 w⟩
end Go.Proofs.YtgicljncknbgcaaGreat.Abs.Walks
