/- Derivations: what they must be; of a text within another. -/
import Derived.Test.YtgicljncknbgcaaGreatR2
import Derived.Test.YtgicljncknbgcaaGreatE2
import Derived.Test.YtgicljncknbgcaaGreatX1
set_option linter.unusedVariables false
set_option linter.unusedSimpArgs false
set_option linter.unusedSectionVars false
namespace Go.Proofs.YtgicljncknbgcaaGreat.Abs
open Go
theorem ql9 (L:List q39)(a:Int):q17 (L.map qw0) a q33=qw0 (q17 L a q33):=by
 unfold q17
 rw[List.getD_eq_getElem?_getD,List.getD_eq_getElem?_getD,List.getElem?_map]
 cases L[a.toNat]?<;>rfl
theorem wi3 (L:List q39)(a:Int):nx (L.map qw0) a=nx L a:=by
 unfold nx
 rw[ql9,List.length_map]
 rfl
theorem Run.bare {L:List q39}{m:Mode}{a a':Int}{T T':List q15}{o:List Int}(h:Run L m a T a' T' o):Run (L.map qw0) m a T a' T' o:=by
 induction h with
 |atom _ ih=>exact .atom ih
 |not hx _ ih=>exact .not (by rw[wi3];exact hx) ih
 |neg hx _ ih=>exact .neg (by rw[wi3];exact hx) ih
 |inf h1 h2 h3 h4 _ _ i1 i2=>exact .inf h1 h2 (by rw[wi3];exact h3) (by rw[wi3];exact h4) i1 i2
 |stop h=>exact .stop (by rw[wi3];exact h)
 |@cmp i a T a1 T1 j pl h _ ih =>
  rw[← wi3] at h ⊢
  exact .cmp h ih
 |@more l i a T a1 T1 j a' T' k pl h1 h _ _ i1 i2 =>
  rw[← wi3] at h
  rw[← wi3] at i2
  exact .more h1 h i1 i2
 |@var a T pl h1 h2 =>
  have:=Run.var (L:=L.map Abs.qw0) (a:=a) (T:=T) (pl:=pl) (by rw[List.length_map];exact h1) (by rw[ql9];exact h2)
  rw[ql9] at this
  exact this
 |@self a T pl h1 h2=>exact .self (by rw[List.length_map];exact h1) (by rw[ql9];exact h2)
 |@lit a T pl h1 h2 h3 =>
  have:=Run.lit (L:=L.map Abs.qw0) (a:=a) (T:=T) (pl:=pl) (by rw[List.length_map];exact h1) (by rw[ql9];exact h2) (by rw[ql9];exact h3)
  rw[ql9] at this
  exact this
 |@word a T pl v h1 h2 h3 h4=>exact .word (by rw[List.length_map];exact h1) (by rw[ql9];exact h2) (by rw[ql9];exact h3) (by rw[ql9];exact h4)
 |@call a T a' T' ks pl h1 h2 h3 h4 _ h6 ih =>
  have:=Run.call (L:=L.map Abs.qw0) (a:=a) (T:=T) (pl:=pl) (a':=a') (T':=T') (ks:=ks) (by rw[List.length_map];exact h1) (by rw[ql9];exact h2) (by rw[ql9];exact h3) (by rw[wi3];exact h4) (by rw[ql9];exact ih) (by rw[wi3];exact h6)
  rw[ql9] at this
  exact this
 |paren h1 h2 _ h4 ih=>exact .paren (by rw[wi3];exact h1) (by rw[ql9];exact h2) ih (by rw[wi3];exact h4)
 |last _ h2 h3 ih=>exact .last ih (by rw[wi3];exact h2) (by rw[wi3];exact h3)
 |next _ h2 h3 _ i1 i2=>exact .next i1 (by rw[wi3];exact h2) h3 i2
theorem nthD_at {α:Type}{A B:List α}{x d:α}{p:Int}(h:p=A.length):q17 (A++x::B) p d=x:=by
 subst h
 unfold q17
 rw[Int.toNat_natCast,List.getD_eq_getElem?_getD,List.getElem?_append_right (Nat.le_refl _),Nat.sub_self]
 rfl
end Go.Proofs.YtgicljncknbgcaaGreat.Abs
