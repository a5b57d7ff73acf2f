/- Derivations: what they must be; of a text within another. -/
import Derived.Test.YtgicljncknbgcaaGreatR2
import Derived.Test.YtgicljncknbgcaaGreatE2
import Derived.Test.YtgicljncknbgcaaGreatX1
set_option linter.unusedVariables false
set_option linter.unusedSimpArgs false
set_option linter.unusedSectionVars false
namespace Go.Proofs.YtgicljncknbgcaaGreat.Abs
open Go
section
variable {L:List q36} {a a':Int} {T T':List q23} {o:List Int}
theorem inv_ex7 (h:Run L (.ex 7) a T a' T' o):∃ i,o=[i]∧Run L .at_ a T a' T' [i]:=by
 generalize hm:yh5.ex 7=m at h
 cases h <;> simp only [yh5.ex.injEq,reduceCtorEq] at hm
 case atom i h=>exact ⟨i,rfl,h⟩
 case not=>omega
 case neg=>omega
 case inf=>omega
theorem inv_not (hx:nx L a=[110,111,116])(h:Run L (.ex 2) a T a' T' o):∃ T0 i pl,T'=T0 ++ [nd 6 v0 [] [i] pl]∧o=[(T0.length:Int)]∧Run L (.ex 2) (a + 1) T a' T0 [i]:=by
 generalize hm:yh5.ex 2=m at h
 cases h <;> simp only [yh5.ex.injEq,reduceCtorEq] at hm
 case atom=>omega
 case not T0 i pl _ h=>exact ⟨T0,i,pl,rfl,rfl,h⟩
 case neg=>omega
 case inf h1 _ _ _=>subst hm; exact absurd ⟨rfl,hx⟩ h1
theorem inv_neg (hx:nx L a=[45])(h:Run L (.ex 6) a T a' T' o):∃ T0 i pl,T'=T0 ++ [nd 17 v0 [] [i] pl]∧o=[(T0.length:Int)]∧Run L (.ex 6) (a + 1) T a' T0 [i]:=by
 generalize hm:yh5.ex 6=m at h
 cases h <;> simp only [yh5.ex.injEq,reduceCtorEq] at hm
 case atom=>omega
 case not=>omega
 case neg T0 i pl _ h=>exact ⟨T0,i,pl,rfl,rfl,h⟩
 case inf _ h1 _ _=>subst hm; exact absurd ⟨rfl,hx⟩ h1
theorem inv_inf {l:Int}(h7:l≠7)(n1:¬ (l=2∧nx L a=[110,111,116]))(n2:¬ (l=6∧nx L a=[45]))(h:Run L (.ex l) a T a' T' o):∃ a1 T1 i,Run L (.ex (l + 1)) a T a1 T1 [i]∧Run L (.tl l i) a1 T1 a' T' o:=by
 generalize hm:yh5.ex l=m at h
 cases h <;> simp only [yh5.ex.injEq,reduceCtorEq] at hm
 case atom=>exact absurd hm h7
 case not h _=>exact absurd ⟨hm,h⟩ n1
 case neg h _=>exact absurd ⟨hm,h⟩ n2
 case inf h1 h2=>subst hm; exact ⟨_,_,_,h1,h2⟩
theorem kg4 {l i:Int}(h0:ifx l (nx L a)=0)(h:Run L (.tl l i) a T a' T' o):a'=a∧T'=T∧o=[i]:=by
 generalize hm:yh5.tl l i=m at h
 cases h <;> simp only [yh5.tl.injEq,reduceCtorEq] at hm
 case stop=>obtain ⟨rfl,rfl⟩:=hm; exact ⟨rfl,rfl,rfl⟩
 case cmp h _=>obtain ⟨rfl,rfl⟩:=hm; exact absurd h0 h
 case more _ h _ _=>obtain ⟨rfl,rfl⟩:=hm; exact absurd h0 h
theorem inv_cmp {i:Int}(h0:ifx 3 (nx L a)≠0)(h:Run L (.tl 3 i) a T a' T' o):∃ T1 j pl,Run L (.ex 4) (a + 1) T a' T1 [j]∧T'=T1 ++ [nd (ifx 3 (nx L a)) v0 [] [i,j] pl]∧o=[(T1.length:Int)]:=by
 generalize hm:yh5.tl 3 i=m at h
 cases h <;> simp only [yh5.tl.injEq,reduceCtorEq] at hm
 case stop h=>obtain ⟨rfl,rfl⟩:=hm; exact absurd h h0
 case cmp h=>obtain ⟨_,rfl⟩:=hm; exact ⟨_,_,_,h,rfl,rfl⟩
 case more h _ _ _=>obtain ⟨rfl,rfl⟩:=hm; exact absurd rfl h
theorem inv_more {l i:Int}(h3:l≠3)(h0:ifx l (nx L a)≠0)(h:Run L (.tl l i) a T a' T' o):∃ a1 T1 j pl,Run L (.ex (l + 1)) (a + 1) T a1 T1 [j]∧Run L (.tl l (T1.length:Int)) a1 (T1 ++ [nd (ifx l (nx L a)) v0 [] [i,j] pl]) a' T' o:=by
 generalize hm:yh5.tl l i=m at h
 cases h <;> simp only [yh5.tl.injEq,reduceCtorEq] at hm
 case stop h=>obtain ⟨rfl,rfl⟩:=hm; exact absurd h h0
 case cmp=>exact absurd hm.1 h3
 case more h1 h2=>obtain ⟨rfl,rfl⟩:=hm; exact ⟨_,_,_,_,h1,h2⟩
theorem inv_var (hk:(q24 L a q30).1=2)(h:Run L .at_ a T a' T' o):∃ pl,a'=a + 1∧T'=T ++ [nd 2 v0 (q24 L a q30).2.1 [] pl]∧o=[(T.length:Int)]:=by
 generalize hm:yh5.at_=m at h
 cases h <;> simp only [reduceCtorEq] at hm
 case var=>exact ⟨_,rfl,rfl,rfl⟩
 all_goals omega
theorem inv_self (hk:(q24 L a q30).1=3)(h:Run L .at_ a T a' T' o):∃ pl,a'=a + 1∧T'=T ++ [nd 3 v0 [] [] pl]∧o=[(T.length:Int)]:=by
 generalize hm:yh5.at_=m at h
 cases h <;> simp only [reduceCtorEq] at hm
 case self=>exact ⟨_,rfl,rfl,rfl⟩
 all_goals omega
theorem inv_lit (h4:4≤(q24 L a q30).1)(h6:(q24 L a q30).1≤6)(h:Run L .at_ a T a' T' o):∃ pl,a'=a + 1∧T'=T ++ [nd 1 (q24 L a q30).2.2.1 [] [] pl]∧o=[(T.length:Int)]:=by
 generalize hm:yh5.at_=m at h
 cases h <;> simp only [reduceCtorEq] at hm
 case lit=>exact ⟨_,rfl,rfl,rfl⟩
 all_goals omega
theorem km4 {v:q00}(hk:(q24 L a q30).1=1)(hc:(wx4 (q24 L a q30).2.1).1=0)(hv:litF (q24 L a q30).2.1=some v)(h:Run L .at_ a T a' T' o):∃ pl,a'=a + 1∧T'=T ++ [nd 1 v [] [] pl]∧o=[(T.length:Int)]:=by
 generalize hm:yh5.at_=m at h
 cases h <;> simp only [reduceCtorEq] at hm
 case word v' _ _ _ h=>rw [hv] at h; cases h; exact ⟨_,rfl,rfl,rfl⟩
 case call=>exact absurd hc (by assumption)
 all_goals omega
theorem ki5 (hk:(q24 L a q30).1=1)(hc:(wx4 (q24 L a q30).2.1).1≠0)(h:Run L .at_ a T a' T' o):∃ b T0 ks pl,nx L (a + 1)=[40]∧Run L (.ar (wx4 (q24 L a q30).2.1).2.1 (wx4 (q24 L a q30).2.1).2.2.1 []) (a + 2) T b T0 ks∧nx L b=[41]∧a'=b + 1∧T'=T0 ++ [nd (wx4 (q24 L a q30).2.1).1 v0 [] ks pl]∧o=[(T0.length:Int)]:=by
 generalize hm:yh5.at_=m at h
 cases h <;> simp only [reduceCtorEq] at hm
 case word h _=>exact absurd h hc
 case call=>exact ⟨_,_,_,_,by assumption,by assumption,by assumption,rfl,rfl,rfl⟩
 all_goals omega
theorem uo6 (hk:(q24 L a q30).1=7)(h:Run L .at_ a T a' T' o):∃ b i,nx L a=[40]∧Run L (.ex 0) (a + 1) T b T' [i]∧nx L b=[41]∧a'=b + 1∧o=[i]:=by
 generalize hm:yh5.at_=m at h
 cases h <;> simp only [reduceCtorEq] at hm
 case paren=>exact ⟨_,_,by assumption,by assumption,by assumption,rfl,rfl⟩
 all_goals omega
theorem uz0 {least most:Int}{ks:List Int}(h:Run L (.ar least most ks) a T a' T' o):∃ a1 T1 i,Run L (.ex 0) a T a1 T1 [i]∧((nx L a1≠[44]∧¬ (nx L a1=[41]∧((ks ++ [i]).length:Int) < least)∧a'=a1∧T'=T1∧o=ks ++ [i])∨(nx L a1=[44]∧((ks ++ [i]).length:Int)≠most∧Run L (.ar least most (ks ++ [i])) (a1 + 1) T1 a' T' o)):=by
 generalize hm:yh5.ar least most ks=m at h
 cases h <;> simp only [yh5.ar.injEq,reduceCtorEq] at hm
 case last=>obtain ⟨rfl,rfl,rfl⟩:=hm; exact ⟨_,_,_,by assumption,.inl ⟨by assumption,by assumption,rfl,rfl,rfl⟩⟩
 case next=>obtain ⟨rfl,rfl,rfl⟩:=hm; exact ⟨_,_,_,by assumption,.inr ⟨by assumption,by assumption,by assumption⟩⟩
end
def shN (d:Int)(n:q23):q23:=(n.1,n.2.1,n.2.2.1,n.2.2.2.1.map (· + d),(0,0,()),())
structure Emb (L M:List q36) (off:Int):Prop where
 off0:0≤off
 tok:∀ p:Int,0≤p→p < L.length→q24 M (p + off) q30=q24 L p q30
 close:nx M (L.length + off)=[41]
section
variable {L M:List q36} {off:Int} (E:Emb L M off)
include E
theorem Emb.lt {p:Int}(h0:0≤p)(h:p < L.length):p + off < M.length:=by
 have:=yq1 (show nx M (L.length + off)≠[] by rw [E.close]; simp)
 omega
theorem Emb.nx {p:Int}(h0:0≤p)(h:p < L.length):Abs.nx M (p + off)=Abs.nx L p:=by
 unfold Abs.nx
 have:=E.lt h0 h
 rw [E.tok p h0 h]
 simp only [h,this,true_and]
theorem Emb.nxE {p:Int}(h0:0≤p)(h:p≤L.length):Abs.nx M (p + off)=Abs.nx L p∨(Abs.nx M (p + off)=[41]∧Abs.nx L p=[]):=by
 rcases Int.lt_or_le p L.length with h1 | h1
 ·exact .inl (E.nx h0 h1)
 ·have:p=L.length:=by omega
  subst this
  refine .inr ⟨E.close,?_⟩
  unfold Abs.nx
  simp
def shM (d:Int):yh5→yh5
 | .ex l=>.ex l
 | .at_=>.at_
 | .tl l i=>.tl l (i + d)
 | .ar least most ks=>.ar least most (ks.map (· + d))
omit E in
theorem x18 (op:Int)(v:q00)(nm:List UInt8)(ks ks2:List Int)(pl pl2:qi7)(d:Int)(h:ks2=ks.map (· + d)):shN 0 (nd op v nm ks2 pl2)=shN d (nd op v nm ks pl):=by
 subst h
 simp only [shN,List.map_map]
 congr 4
 apply List.map_congr_left
 intro x _
 simp
theorem Run.sim {m:yh5}{a a':Int}{T T':List q23}{o:List Int}{d:Int}(h:Run L m a T a' T' o):0≤a→a≤L.length→∀ (T2:List q23) (b:Int) (T2':List q23) (o2:List Int),(T2.length:Int)=T.length + d→Run M (shM d m) (a + off) T2 b T2' o2 →
  b=a' + off∧0≤a'∧a'≤L.length∧(∃ X Y,T'=T ++ X∧T2'=T2 ++ Y∧Y.map (shN 0)=X.map (shN d))∧o2=o.map (· + d):=by
 have lt:∀ {p:Int},Abs.nx L p≠[]→p < L.length:=fun h=>yq1 h
 have up:∀ p:Int,p + off + 1=p + 1 + off:=fun p=>by omega
 -- a node more behind both
 have snoc:∀ {a' b:Int} {T T0 T2 T20:List q23} {op:Int} {v:q00} {nm:List UInt8} {ks ks2:List Int} {pl pl2:qi7},(∃ X Y,T0=T ++ X∧T20=T2 ++ Y∧Y.map (shN 0)=X.map (shN d))→ks2=ks.map (· + d) →
   ∃ X Y,T0 ++ [nd op v nm ks pl]=T ++ X∧T20 ++ [nd op v nm ks2 pl2]=T2 ++ Y∧Y.map (shN 0)=X.map (shN d):=fun {a' b T T0 T2 T20 op v nm ks ks2 pl pl2} hh hk=>by
  obtain ⟨X,Y,rfl,rfl,e⟩:=hh
  refine ⟨X ++ [nd op v nm ks pl],Y ++ [nd op v nm ks2 pl2],by simp,by simp,?_⟩
  rw [List.map_append,List.map_append,e,List.map_singleton,List.map_singleton,x18 op v nm ks ks2 pl pl2 d hk]
 have len:∀ {T T0 T2 T20:List q23},(T2.length:Int)=T.length + d→(∃ X Y,T0=T ++ X∧T20=T2 ++ Y∧Y.map (shN 0)=X.map (shN d))→(T20.length:Int)=T0.length + d:=fun {T T0 T2 T20} h hh=>by
  obtain ⟨X,Y,rfl,rfl,e⟩:=hh
  have:=congrArg List.length e
  simp at this
  simp
  omega
 have app:∀ {T T0 T1 T2 T20 T21:List q23},(∃ X Y,T0=T ++ X∧T20=T2 ++ Y∧Y.map (shN 0)=X.map (shN d))→(∃ X Y,T1=T0 ++ X∧T21=T20 ++ Y∧Y.map (shN 0)=X.map (shN d))→∃ X Y,T1=T ++ X∧T21=T2 ++ Y∧Y.map (shN 0)=X.map (shN d):=fun {T T0 T1 T2 T20 T21} h1 h2=>by
  obtain ⟨X,Y,rfl,rfl,e⟩:=h1
  obtain ⟨X',Y',rfl,rfl,e'⟩:=h2
  exact ⟨X ++ X',Y ++ Y',by simp,by simp,by rw [List.map_append,List.map_append,e,e']⟩
 have idx:∀ {T T2:List q23},(T2.length:Int)=T.length + d→[(T2.length:Int)]=[(T.length:Int)].map (· + d):=fun h=>by simp [h]
 induction h with
 | @atom a T a' T' i _ ih =>
  intro h0 hl T2 b T2' o2 ht h2
  obtain ⟨j,rfl,h3⟩:=inv_ex7 h2
  exact ih h0 hl T2 b T2' _ ht h3
 | @not a T a' T' i pl hx _ ih =>
  intro h0 hl T2 b T2' o2 ht h2
  have ha:=lt (show Abs.nx L a≠[] by rw [hx]; simp)
  have hx2:=E.nx h0 ha
  rw [hx] at hx2
  obtain ⟨T0,j,pl2,rfl,rfl,h3⟩:=inv_not hx2 h2
  rw [up] at h3
  obtain ⟨g1,g2,g3,g4,g5⟩:=ih (by omega) (by omega) T2 b T0 _ ht h3
  exact ⟨g1,g2,g3,snoc (a':=a) (b:=b) g4 g5,idx (len ht g4)⟩
 | @neg a T a' T' i pl hx _ ih =>
  intro h0 hl T2 b T2' o2 ht h2
  have ha:=lt (show Abs.nx L a≠[] by rw [hx]; simp)
  have hx2:=E.nx h0 ha
  rw [hx] at hx2
  obtain ⟨T0,j,pl2,rfl,rfl,h3⟩:=inv_neg hx2 h2
  rw [up] at h3
  obtain ⟨g1,g2,g3,g4,g5⟩:=ih (by omega) (by omega) T2 b T0 _ ht h3
  exact ⟨g1,g2,g3,snoc (a':=a) (b:=b) g4 g5,idx (len ht g4)⟩
 | @inf l a T a1 T1 i a' T' j l0 l7 n1 n2 _ _ ih1 ih2 =>
  intro h0 hl T2 b T2' o2 ht h2
  have n1':¬ (l=2∧Abs.nx M (a + off)=[110,111,116]):=fun ⟨e,hx⟩=>by
   rcases E.nxE h0 hl with h | ⟨h,_⟩
   ·exact n1 ⟨e,by rw [← h]; exact hx⟩
   ·rw [h] at hx; simp at hx
  have n2':¬ (l=6∧Abs.nx M (a + off)=[45]):=fun ⟨e,hx⟩=>by
   rcases E.nxE h0 hl with h | ⟨h,_⟩
   ·exact n2 ⟨e,by rw [← h]; exact hx⟩
   ·rw [h] at hx; simp at hx
  obtain ⟨b1,T20,i2,h3,h4⟩:=inv_inf (by omega) n1' n2' h2
  obtain ⟨g1,g2,g3,g4,g5⟩:=ih1 h0 hl T2 b1 T20 _ ht h3
  simp only [List.map_cons,List.map_nil,List.cons.injEq,and_true] at g5
  subst g1 g5
  obtain ⟨k1,k2,k3,k4,k5⟩:=ih2 g2 g3 T20 b T2' _ (len ht g4) h4
  exact ⟨k1,k2,k3,app g4 k4,k5⟩
 | @stop l i a T hx =>
  intro h0 hl T2 b T2' o2 ht h2
  have hx2:ifx l (Abs.nx M (a + off))=0:=by
   rcases E.nxE h0 hl with h | ⟨h,_⟩
   ·rw [h]; exact hx
   ·rw [h]; unfold ifx; simp
  obtain ⟨rfl,rfl,rfl⟩:=kg4 hx2 h2
  exact ⟨rfl,h0,hl,⟨[],[],by simp,by simp,rfl⟩,rfl⟩
 | @cmp i a T a1 T1 j pl hx _ ih =>
  intro h0 hl T2 b T2' o2 ht h2
  have ha:=lt (show Abs.nx L a≠[] by intro e; apply hx; rw [e]; rfl)
  have hx2:=E.nx h0 ha
  obtain ⟨T0,j2,pl2,h3,rfl,rfl⟩:=inv_cmp (by rw [hx2]; exact hx) h2
  rw [up] at h3
  obtain ⟨g1,g2,g3,g4,g5⟩:=ih (by omega) (by omega) T2 b T0 _ ht h3
  simp only [List.map_cons,List.map_nil,List.cons.injEq,and_true] at g5
  rw [hx2]
  exact ⟨g1,g2,g3,snoc (a':=a) (b:=b) g4 (by rw [g5]; rfl),idx (len ht g4)⟩
 | @more l i a T a1 T1 j a' T' k pl l3 hx _ _ ih1 ih2 =>
  intro h0 hl T2 b T2' o2 ht h2
  have ha:=lt (show Abs.nx L a≠[] by intro e; apply hx; rw [e]; unfold ifx; simp)
  have hx2:=E.nx h0 ha
  obtain ⟨b1,T20,j2,pl2,h3,h4⟩:=inv_more l3 (by rw [hx2]; exact hx) h2
  rw [up] at h3
  obtain ⟨g1,g2,g3,g4,g5⟩:=ih1 (by omega) (by omega) T2 b1 T20 _ ht h3
  simp only [List.map_cons,List.map_nil,List.cons.injEq,and_true] at g5
  subst g1 g5
  rw [hx2,len ht g4] at h4
  have s4:=snoc (a':=a) (b:=b) (op:=ifx l (Abs.nx L a)) (v:=v0) (nm:=[]) (ks:=[i,j]) (ks2:=[i + d,j + d]) (pl:=pl) (pl2:=pl2) g4 rfl
  obtain ⟨k1,k2,k3,k4,k5⟩:=ih2 g2 g3 _ b T2' _ (len ht s4) h4
  exact ⟨k1,k2,k3,app s4 k4,k5⟩
 | @var a T pl h1 h2 =>
  intro h0 hl T2 b T2' o2 ht h3
  have ht2:=E.tok a h0 h1
  obtain ⟨pl2,rfl,rfl,rfl⟩:=inv_var (by rw [ht2]; exact h2) h3
  rw [ht2]
  exact ⟨by omega,by omega,by omega,⟨[_],[_],rfl,rfl,by rw [List.map_singleton,List.map_singleton,x18 _ _ _ [] [] pl pl2 d rfl]⟩,idx ht⟩
 | @self a T pl h1 h2 =>
  intro h0 hl T2 b T2' o2 ht h3
  have ht2:=E.tok a h0 h1
  obtain ⟨pl2,rfl,rfl,rfl⟩:=inv_self (by rw [ht2]; exact h2) h3
  exact ⟨by omega,by omega,by omega,⟨[_],[_],rfl,rfl,by rw [List.map_singleton,List.map_singleton,x18 _ _ _ [] [] pl pl2 d rfl]⟩,idx ht⟩
 | @lit a T pl h1 h2 h4 =>
  intro h0 hl T2 b T2' o2 ht h3
  have ht2:=E.tok a h0 h1
  obtain ⟨pl2,rfl,rfl,rfl⟩:=inv_lit (by rw [ht2]; exact h2) (by rw [ht2]; exact h4) h3
  rw [ht2]
  exact ⟨by omega,by omega,by omega,⟨[_],[_],rfl,rfl,by rw [List.map_singleton,List.map_singleton,x18 _ _ _ [] [] pl pl2 d rfl]⟩,idx ht⟩
 | @word a T pl v h1 h2 h4 h5 =>
  intro h0 hl T2 b T2' o2 ht h3
  have ht2:=E.tok a h0 h1
  obtain ⟨pl2,rfl,rfl,rfl⟩:=km4 (by rw [ht2]; exact h2) (by rw [ht2]; exact h4) (by rw [ht2]; exact h5) h3
  exact ⟨by omega,by omega,by omega,⟨[_],[_],rfl,rfl,by rw [List.map_singleton,List.map_singleton,x18 _ _ _ [] [] pl pl2 d rfl]⟩,idx ht⟩
 | @call a T a' T' ks pl h1 h2 h4 h5 _ h6 ih =>
  intro h0 hl T2 b T2' o2 ht h3
  have ht2:=E.tok a h0 h1
  obtain ⟨b1,T0,ks2,pl2,k1,k2,k3,rfl,rfl,rfl⟩:=ki5 (by rw [ht2]; exact h2) (by rw [ht2]; exact h4) h3
  rw [ht2,show a + off + 2=a + 2 + off by omega] at k2
  have:=lt (show Abs.nx L (a + 1)≠[] by rw [h5]; simp)
  obtain ⟨g1,g2,g3,g4,g5⟩:=ih (by omega) (by omega) T2 b1 T0 _ ht k2
  have:=lt (show Abs.nx L a'≠[] by rw [h6]; simp)
  rw [ht2]
  exact ⟨by omega,by omega,by omega,snoc (a':=a) (b:=b1) g4 g5,idx (len ht g4)⟩
 | @paren a T a' T' i h1 h2 _ h4 ih =>
  intro h0 hl T2 b T2' o2 ht h3
  have ha:=lt (show Abs.nx L a≠[] by rw [h1]; simp)
  have ht2:=E.tok a h0 ha
  obtain ⟨b1,i2,k1,k2,k3,rfl,rfl⟩:=uo6 (by rw [ht2]; exact h2) h3
  rw [up] at k2
  obtain ⟨g1,g2,g3,g4,g5⟩:=ih (by omega) (by omega) T2 b1 T2' _ ht k2
  have:=lt (show Abs.nx L a'≠[] by rw [h4]; simp)
  exact ⟨by omega,by omega,by omega,g4,g5⟩
 | @last least most ks a T a' T' i _ h2 h3 ih =>
  intro h0 hl T2 b T2' o2 ht h4
  obtain ⟨b1,T20,i2,k1,k2⟩:=uz0 h4
  obtain ⟨g1,g2,g3,g4,g5⟩:=ih h0 hl T2 b1 T20 _ ht k1
  simp only [List.map_cons,List.map_nil,List.cons.injEq,and_true] at g5
  subst g1 g5
  rcases k2 with ⟨_,_,rfl,rfl,rfl⟩ | ⟨k3,_,_⟩
  ·exact ⟨rfl,g2,g3,g4,by simp⟩
  ·exfalso
   rcases E.nxE g2 g3 with h | ⟨h,_⟩
   ·rw [h] at k3; exact h3 k3
   ·rw [h] at k3; simp at k3
 | @next least most ks a T a1 T1 i a' T' ks' _ h2 h3 _ ih1 ih2 =>
  intro h0 hl T2 b T2' o2 ht h4
  obtain ⟨b1,T20,i2,k1,k2⟩:=uz0 h4
  obtain ⟨g1,g2,g3,g4,g5⟩:=ih1 h0 hl T2 b1 T20 _ ht k1
  simp only [List.map_cons,List.map_nil,List.cons.injEq,and_true] at g5
  subst g1 g5
  have ha:=lt (show Abs.nx L a1≠[] by rw [h2]; simp)
  have hx:=E.nx g2 ha
  rcases k2 with ⟨k3,_⟩ | ⟨_,_,k5⟩
  ·rw [hx] at k3; exact absurd h2 k3
  ·rw [up] at k5
   have e:ks.map (· + d) ++ [i + d]=(ks ++ [i]).map (· + d):=by simp
   rw [e] at k5
   obtain ⟨q1,q2,q3,q4,q5⟩:=ih2 (by omega) (by omega) T20 b T2' _ (len ht g4) k5
   exact ⟨q1,q2,q3,app g4 q4,q5⟩
end
theorem kj8 {d:Int}{x y:q23}(h:shN 0 y=shN d x)(self:q00)(vars:List q43):vq4 y self vars=vq4 x self vars∧vr8 y=vr8 x∧y.1=x.1∧y.2.1=x.2.1∧y.2.2.2.1=x.2.2.2.1.map (· + d):=by
 obtain ⟨a,b,c,e,f,u⟩:=x
 obtain ⟨a',b',c',e',f',u'⟩:=y
 simp only [shN,Prod.mk.injEq,Int.add_zero,List.map_id'] at h
 obtain ⟨rfl,rfl,rfl,rfl,_⟩:=h
 exact ⟨rfl,rfl,rfl,rfl,rfl⟩
theorem kh7 {A Y Z:List q23}{p:Int}(h0:0≤p)(h:p < Y.length):q24 (A ++ Y ++ Z) (p + (A.length:Int)) qd6=q24 Y p qd6:=by
 obtain ⟨k,rfl⟩:∃ k:Nat,p=k:=⟨p.toNat,by omega⟩
 have e:(k:Int) + (A.length:Int)=((A.length + k:Nat):Int):=by omega
 have hk:k < Y.length:=by omega
 rw [e]
 unfold q24
 rw [Int.toNat_natCast,Int.toNat_natCast,List.getD_eq_getElem?_getD,List.getD_eq_getElem?_getD,List.append_assoc,List.getElem?_append_right (by omega),Nat.add_sub_cancel_left,List.getElem?_append_left hk]
theorem nth_sh {d:Int}{X Y:List q23}(h:Y.map (shN 0)=X.map (shN d)){p:Int}(h0:0≤p)(hp:p < X.length):shN 0 (q24 Y p qd6)=shN d (q24 X p qd6):=by
 obtain ⟨k,rfl⟩:∃ k:Nat,p=k:=⟨p.toNat,by omega⟩
 have hl:=congrArg List.length h
 simp only [List.length_map] at hl
 have hk:k < X.length:=by omega
 have hk2:k < Y.length:=by omega
 rw [ql8 hk2,ql8 hk]
 have:=congrArg (fun l=>l[k]?) h
 simp only [List.getElem?_map,List.getElem?_eq_getElem hk,List.getElem?_eq_getElem hk2,Option.map_some,Option.some.injEq] at this
 exact this
theorem ub1 {N:Nat}{self:q00}{vars:List q43}{A X Y Z:List q23}{lA:List q03}(hA:yx4 N self vars (A ++ Y ++ Z) A.length=some lA)(h:Y.map (shN 0)=X.map (shN (A.length:Int)))(hk:∀ x ∈ X,∀ k ∈ x.2.2.2.1,0≤k):
  ∀ k,k≤X.length→yx4 N self vars (A ++ Y ++ Z) (A.length + k)=(yx4 N self vars X k).map fun l=>lA ++ l
 | 0,_=>by rw [Nat.add_zero,hA]; simp [yx4]
 | k + 1,hk2=>by
  have ih:=ub1 hA h hk k (by omega)
  have hl:=congrArg List.length h
  simp only [List.length_map] at hl
  have lenA:=y68 hA
  rw [← Nat.add_assoc]
  simp only [yx4,ih]
  cases h1:yx4 N self vars X k with
  | none=>simp
  | some l =>
   have lenl:=y68 h1
   simp only [Option.map_some,Option.bind_some]
   have e1:((A.length + k:Nat):Int)=(k:Int) + (A.length:Int):=by omega
   have mem:q24 X (k:Int) qd6 ∈ X:=wj2 (by omega) (by omega)
   have s1:=nth_sh h (p:=(k:Int)) (by omega) (by omega)
   obtain ⟨g1,g2,g3,g4,g5⟩:=kj8 s1 self vars
   rw [e1,kh7 (by omega) (by omega)]
   have kids:xi6 (A ++ Y ++ Z) (lA ++ l) (A.length + k) (q24 Y (k:Int) qd6).2.2.2.1=xi6 X l k (q24 X (k:Int) qd6).2.2.2.1:=by
    rw [g5]
    unfold xi6
    rw [List.map_map,List.map_map]
    have ka:∀ x ∈ (q24 X (k:Int) qd6).2.2.2.1,(xy6 (lA ++ l) (A.length + k) ∘ (· + (A.length:Int))) x=xy6 l k x∧(kw7 (A ++ Y ++ Z) (A.length + k) ∘ (· + (A.length:Int))) x=kw7 X k x:=fun x hx=>by
     have h0:=hk _ mem x hx
     simp only [Function.comp]
     unfold xy6 kw7
     by_cases c:x < k
     ·rw [if_pos (by omega),if_pos (by omega),if_pos (by omega),if_pos (by omega),kh7 h0 (by omega)]
      obtain ⟨_,_,q3,q4,_⟩:=kj8 (nth_sh h (p:=x) h0 (by omega)) self vars
      rw [q3,q4]
      refine ⟨?_,rfl⟩
      obtain ⟨j,rfl⟩:∃ j:Nat,x=j:=⟨x.toNat,by omega⟩
      have e3:(j:Int) + (A.length:Int)=((lA.length + j:Nat):Int):=by omega
      rw [e3,ql8 (by simp; omega),ql8 (by omega),List.getElem_append_right (by omega)]
      congr 1
      omega
     ·rw [if_neg (by omega),if_neg (by omega),if_neg (by omega),if_neg (by omega)]
      exact ⟨rfl,rfl⟩
    rw [List.map_congr_left fun x hx=>(ka x hx).1,List.map_congr_left fun x hx=>(ka x hx).2]
   rw [kids]
   have node:∀ q,v42 N self vars (q24 Y (k:Int) qd6) q=v42 N self vars (q24 X (k:Int) qd6) q:=fun q=>by
    unfold v42
    rw [g1,g2,g3]
   rw [node]
   cases v42 N self vars (q24 X (k:Int) qd6) (xi6 X l k (q24 X (k:Int) qd6).2.2.2.1) with
   | none=>rfl
   | some a=>simp
theorem qk9 (L:List q36)(a:Int):q24 (L.map bare) a q30=bare (q24 L a q30):=by
 unfold q24
 rw [List.getD_eq_getElem?_getD,List.getD_eq_getElem?_getD,List.getElem?_map]
 cases L[a.toNat]? <;> rfl
theorem wd6 (L:List q36)(a:Int):nx (L.map bare) a=nx L a:=by
 unfold nx
 rw [qk9,List.length_map]
 rfl
theorem Run.bare {L:List q36}{m:yh5}{a a':Int}{T T':List q23}{o:List Int}(h:Run L m a T a' T' o):Run (L.map bare) m a T a' T' o:=by
 induction h with
 | atom _ ih=>exact .atom ih
 | not hx _ ih=>exact .not (by rw [wd6]; exact hx) ih
 | neg hx _ ih=>exact .neg (by rw [wd6]; exact hx) ih
 | inf h1 h2 h3 h4 _ _ i1 i2=>exact .inf h1 h2 (by rw [wd6]; exact h3) (by rw [wd6]; exact h4) i1 i2
 | stop h=>exact .stop (by rw [wd6]; exact h)
 | @cmp i a T a1 T1 j pl h _ ih =>
  rw [← wd6] at h ⊢
  exact .cmp h ih
 | @more l i a T a1 T1 j a' T' k pl h1 h _ _ i1 i2 =>
  rw [← wd6] at h
  rw [← wd6] at i2
  exact .more h1 h i1 i2
 | @var a T pl h1 h2 =>
  have:=Run.var (L:=L.map Abs.bare) (a:=a) (T:=T) (pl:=pl) (by rw [List.length_map]; exact h1) (by rw [qk9]; exact h2)
  rw [qk9] at this
  exact this
 | @self a T pl h1 h2=>exact .self (by rw [List.length_map]; exact h1) (by rw [qk9]; exact h2)
 | @lit a T pl h1 h2 h3 =>
  have:=Run.lit (L:=L.map Abs.bare) (a:=a) (T:=T) (pl:=pl) (by rw [List.length_map]; exact h1) (by rw [qk9]; exact h2) (by rw [qk9]; exact h3)
  rw [qk9] at this
  exact this
 | @word a T pl v h1 h2 h3 h4=>exact .word (by rw [List.length_map]; exact h1) (by rw [qk9]; exact h2) (by rw [qk9]; exact h3) (by rw [qk9]; exact h4)
 | @call a T a' T' ks pl h1 h2 h3 h4 _ h6 ih =>
  have:=Run.call (L:=L.map Abs.bare) (a:=a) (T:=T) (pl:=pl) (a':=a') (T':=T') (ks:=ks) (by rw [List.length_map]; exact h1) (by rw [qk9]; exact h2) (by rw [qk9]; exact h3) (by rw [wd6]; exact h4) (by rw [qk9]; exact ih) (by rw [wd6]; exact h6)
  rw [qk9] at this
  exact this
 | paren h1 h2 _ h4 ih=>exact .paren (by rw [wd6]; exact h1) (by rw [qk9]; exact h2) ih (by rw [wd6]; exact h4)
 | last _ h2 h3 ih=>exact .last ih (by rw [wd6]; exact h2) (by rw [wd6]; exact h3)
 | next _ h2 h3 _ i1 i2=>exact .next i1 (by rw [wd6]; exact h2) h3 i2
theorem vm2 {L:List q36}{a:Int}{T:List q23}(hn:nx L a≠[110,111,116])(hm:nx L a≠[45])(hs:∀ b T1 o1,Run L .at_ a T b T1 o1→∀ l,ifx l (nx L b)=0):∀ (n:Nat) (l:Int) {a':Int} {T':List q23} {o:List Int},l=7 - n→0≤l→Run L (.ex l) a T a' T' o→Run L .at_ a T a' T' o
 | 0,l,a',T',o,e,_,h=>by
  have:l=7:=by omega
  subst this
  obtain ⟨i,rfl,h3⟩:=inv_ex7 h
  exact h3
 | n + 1,l,a',T',o,e,h0,h=>by
  obtain ⟨a1,T1,i,h1,h2⟩:=inv_inf (by omega) (fun h=>hn h.2) (fun h=>hm h.2) h
  have h3:=vm2 hn hm hs n (l + 1) (by omega) (by omega) h1
  obtain ⟨rfl,rfl,rfl⟩:=kg4 (hs _ _ _ h3 l) h2
  exact h3
theorem xy5 (l:Int){s:List UInt8}(h:s=[44]∨s=[41]∨s=[]):ifx l s=0:=by
 unfold ifx
 rcases h with rfl | rfl | rfl <;> simp
theorem k98 {α:Type}{A B:List α}{x d:α}{p:Int}(h:p=A.length):q24 (A ++ x :: B) p d=x:=by
 subst h
 unfold q24
 rw [Int.toNat_natCast,List.getD_eq_getElem?_getD,List.getElem?_append_right (Nat.le_refl _),Nat.sub_self]
 rfl
theorem uj6 {A B:List q36}{x:q36}{p:Int}(h:p=A.length)(hk:x.1=1∨x.1=7):nx (A ++ x :: B) p=x.2.1:=by
 unfold nx
 rw [k98 h,if_pos ⟨by subst h; simp; omega,hk⟩]
theorem emb_at {A L B:List q36}{off:Int}(h:off=A.length):Emb L (A ++ L ++ tk 7 [41] v0 :: B) off:=by
 subst h
 refine ⟨by omega,fun p h0 hp=>?_,?_⟩
 ·obtain ⟨k,rfl⟩:∃ k:Nat,p=k:=⟨p.toNat,by omega⟩
  have e:(k:Int) + (A.length:Int)=((A.length + k:Nat):Int):=by omega
  rw [e]
  unfold q24
  rw [Int.toNat_natCast,Int.toNat_natCast,List.getD_eq_getElem?_getD,List.getD_eq_getElem?_getD,List.append_assoc,List.getElem?_append_right (by omega),Nat.add_sub_cancel_left,List.getElem?_append_left (by omega)]
 ·exact uj6 (by simp; omega) (.inr rfl)
theorem par_run {L1 A B:List q36}{t1:List q23}{i1:Int}(hr:Run L1 (.ex 0) 0 [] L1.length t1 [i1]){p:Int}(hp:p=A.length){T:List q23}{b:Int}{T':List q23}{o:List Int}
  (h:Run (A ++ tk 7 [40] v0 :: (L1 ++ tk 7 [41] v0 :: B)) .at_ p T b T' o):b=p + L1.length + 2∧(∃ Y,T'=T ++ Y∧Y.map (shN 0)=t1.map (shN (T.length:Int)))∧o=[i1 + (T.length:Int)]:=by
 obtain ⟨b0,i,h1,h2,h3,rfl,rfl⟩:=uo6 (by rw [k98 hp]) h
 have e:A ++ tk 7 [40] v0 :: (L1 ++ tk 7 [41] v0 :: B)=(A ++ [tk 7 [40] v0]) ++ L1 ++ tk 7 [41] v0 :: B:=by simp
 rw [e] at h2
 have E:=emb_at (A:=A ++ [tk 7 [40] v0]) (L:=L1) (B:=B) (off:=p + 1) (by simp; omega)
 have h2':Run ((A ++ [tk 7 [40] v0]) ++ L1 ++ tk 7 [41] v0 :: B) (shM (T.length:Int) (.ex 0)) (0 + (p + 1)) T b0 T' [i]:=by
  rw [Int.zero_add]; exact h2
 obtain ⟨g1,g2,g3,⟨X,Y,q1,q2,q3⟩,g5⟩:=Run.sim E (d:=(T.length:Int)) hr (by omega) (by omega) T b0 T' [i] (by simp) h2'
 rw [List.nil_append] at q1
 subst q1
 exact ⟨by omega,⟨Y,q2,q3⟩,g5⟩
section
variable {L1 L2:List q36} {t1 t2:List q23} {i1 i2:Int} (h1:Run L1 (.ex 0) 0 [] L1.length t1 [i1]) (h2:Run L2 (.ex 0) 0 [] L2.length t2 [i2])
include h1 h2
def zi1 (c:q36)(L1 L2:List q36):List q36:=tk 1 [105,102] v0 :: tk 7 [40] v0 :: c :: tk 7 [44] v0 :: tk 7 [40] v0 :: (L1 ++ tk 7 [41] v0 :: tk 7 [44] v0 :: tk 7 [40] v0 :: (L2 ++ [tk 7 [41] v0,tk 7 [41] v0]))
theorem if_run {c:q36}{vc:q00}(hc1:nx [c] 0≠[110,111,116])(hc2:nx [c] 0≠[45])(hc:∀ (L:List q36) (a:Int) (T:List q23) (b:Int) (T':List q23) (o:List Int),q24 L a q30=c→Run L .at_ a T b T' o→∃ pl,b=a + 1∧T'=T ++ [nd 1 vc [] [] pl]∧o=[(T.length:Int)])
  {t:List q23} {i:Int} (h:Run (zi1 c L1 L2) (.ex 0) 0 [] (zi1 c L1 L2).length t [i]) :
  ∃ pl0 Y1 Y2 pl,t=[nd 1 vc [] [] pl0] ++ Y1 ++ Y2 ++ [nd 26 v0 [] [0,i1 + 1,i2 + 1 + t1.length] pl]∧Y1.map (shN 0)=t1.map (shN 1)∧Y2.map (shN 0)=t2.map (shN (1 + t1.length)):=by
 generalize hC:zi1 c L1 L2=C at h
 have c0:q24 C 0 q30=tk 1 [105,102] v0:=by subst hC; rfl
 have c2:q24 C 2 q30=c:=by subst hC; rfl
 have x0:nx C 0=[105,102]:=by
  subst hC; exact uj6 (A:=[]) rfl (.inl rfl)
 have x3:nx C 3=[44]:=by
  subst hC; exact uj6 (A:=[tk 1 [105,102] v0,tk 7 [40] v0,c]) rfl (.inr rfl)
 have len:(C.length:Int)=10 + L1.length + L2.length:=by subst hC; simp [zi1]; omega
 have x2:nx C 2=nx [c] 0:=by
  have e2:(2:Int) < C.length:=by omega
  have e3:q24 [c] (0:Int) q30=c:=rfl
  unfold nx
  rw [c2,e3]
  simp only [e2,true_and]
  simp
 -- the atoms
 have at2:∀ {T b T' o},Run C .at_ 2 T b T' o→∃ pl,b=3∧T'=T ++ [nd 1 vc [] [] pl]∧o=[(T.length:Int)]:=fun h=>hc C 2 _ _ _ _ c2 h
 have at4:∀ {T b T' o},Run C .at_ 4 T b T' o→b=6 + L1.length∧(∃ Y,T'=T ++ Y∧Y.map (shN 0)=t1.map (shN (T.length:Int)))∧o=[i1 + (T.length:Int)]:=fun {T b T' o} h=>by
  subst hC
  have:=par_run (A:=[tk 1 [105,102] v0,tk 7 [40] v0,c,tk 7 [44] v0]) h1 (p:=4) rfl h
  exact ⟨by omega,this.2⟩
 have at7:∀ {p:Int} {T b T' o},p=7 + (L1.length:Int)→Run C .at_ p T b T' o→b=9 + L1.length + L2.length∧(∃ Y,T'=T ++ Y∧Y.map (shN 0)=t2.map (shN (T.length:Int)))∧o=[i2 + (T.length:Int)]:=fun {p T b T' o} hp h=>by
  subst hC
  have e:zi1 c L1 L2=([tk 1 [105,102] v0,tk 7 [40] v0,c,tk 7 [44] v0,tk 7 [40] v0] ++ L1 ++ [tk 7 [41] v0,tk 7 [44] v0]) ++ tk 7 [40] v0 :: (L2 ++ tk 7 [41] v0 :: [tk 7 [41] v0]):=by simp [zi1]
  rw [e] at h
  have:=par_run h2 (p:=p) (by rw [hp]; simp; omega) h
  exact ⟨by omega,this.2⟩
 have x4:nx C 4=[40]:=by subst hC; exact uj6 (A:=[tk 1 [105,102] v0,tk 7 [40] v0,c,tk 7 [44] v0]) rfl (.inr rfl)
 have x6:∀ {p:Int},p=6 + (L1.length:Int)→nx C p=[44]:=fun {p} hp=>by
  subst hC
  have e:zi1 c L1 L2=([tk 1 [105,102] v0,tk 7 [40] v0,c,tk 7 [44] v0,tk 7 [40] v0] ++ L1 ++ [tk 7 [41] v0]) ++ tk 7 [44] v0 :: (tk 7 [40] v0 :: (L2 ++ [tk 7 [41] v0,tk 7 [41] v0])):=by simp [zi1]
  rw [e]
  exact uj6 (by rw [hp]; simp; omega) (.inr rfl)
 have x7:∀ {p:Int},p=7 + (L1.length:Int)→nx C p=[40]:=fun {p} hp=>by
  subst hC
  have e:zi1 c L1 L2=([tk 1 [105,102] v0,tk 7 [40] v0,c,tk 7 [44] v0,tk 7 [40] v0] ++ L1 ++ [tk 7 [41] v0,tk 7 [44] v0]) ++ tk 7 [40] v0 :: (L2 ++ [tk 7 [41] v0,tk 7 [41] v0]):=by simp [zi1]
  rw [e]
  exact uj6 (by rw [hp]; simp; omega) (.inr rfl)
 have x9:∀ {p:Int},p=9 + L1.length + L2.length→nx C p=[41]:=fun {p} hp=>by
  subst hC
  have e:zi1 c L1 L2=([tk 1 [105,102] v0,tk 7 [40] v0,c,tk 7 [44] v0,tk 7 [40] v0] ++ L1 ++ [tk 7 [41] v0,tk 7 [44] v0,tk 7 [40] v0] ++ L2 ++ [tk 7 [41] v0]) ++ tk 7 [41] v0 :: []:=by simp [zi1]
  rw [e]
  exact uj6 (by rw [hp]; simp; omega) (.inr rfl)
 clear hC
 -- the call
 have main:∀ {b T' o},Run C .at_ 0 [] b T' o→b=C.length∧∃ pl0 Y1 Y2 pl,T'=[nd 1 vc [] [] pl0] ++ Y1 ++ Y2 ++ [nd 26 v0 [] [0,i1 + 1,i2 + 1 + t1.length] pl]∧Y1.map (shN 0)=t1.map (shN 1)∧Y2.map (shN 0)=t2.map (shN (1 + t1.length)):=fun {b T' o} h=>by
  have cf:wx4 [105,102]=(26,3,3,()):=rfl
  obtain ⟨b0,T0,ks,pl,k1,k2,k3,rfl,rfl,rfl⟩:=ki5 (by rw [c0]) (by rw [c0]; show (wx4 [105,102]).1≠0; rw [cf]; simp) h
  rw [c0] at k2 ⊢
  have k2:Run C (.ar 3 3 []) 2 [] b0 T0 ks:=k2
  obtain ⟨a1,T1,j1,r1,k2⟩:=uz0 k2
  have r1:=vm2 (by rw [x2]; exact hc1) (by rw [x2]; exact hc2) (fun b T1 o1 hb l=>by
   obtain ⟨_,rfl,_⟩:=at2 hb
   rw [x3]; exact xy5 l (.inl rfl)) 7 0 rfl (by omega) r1
  obtain ⟨pl0,rfl,rfl,e1⟩:=at2 r1
  simp only [List.length_nil,List.cons.injEq,and_true] at e1
  subst e1
  rcases k2 with ⟨q,_⟩ | ⟨_,_,k2⟩
  ·exact absurd x3 q
  obtain ⟨a2,T2,j2,r2,k2⟩:=uz0 k2
  have r2:=vm2 (L:=C) (a:=3 + 1) (by rw [show (3:Int) + 1=4 from rfl,x4]; simp) (by rw [show (3:Int) + 1=4 from rfl,x4]; simp) (fun b T1 o1 hb l=>by
   obtain ⟨hb,_⟩:=at4 hb
   rw [x6 hb]; exact xy5 l (.inl rfl)) 7 0 rfl (by omega) r2
  obtain ⟨e2,⟨Y1,rfl,y1⟩,e3⟩:=at4 r2
  rcases k2 with ⟨q,_⟩ | ⟨_,_,k2⟩
  ·exact absurd (x6 e2) q
  obtain ⟨a3,T3,j3,r3,k2⟩:=uz0 k2
  have p7:a2 + 1=7 + (L1.length:Int):=by omega
  have r3:=vm2 (by rw [x7 p7]; simp) (by rw [x7 p7]; simp) (fun b T1 o1 hb l=>by
   obtain ⟨hb,_⟩:=at7 p7 hb
   rw [x9 hb]; exact xy5 l (.inr (.inl rfl))) 7 0 rfl (by omega) r3
  obtain ⟨e4,⟨Y2,rfl,y2⟩,e5⟩:=at7 p7 r3
  rcases k2 with ⟨_,_,rfl,rfl,rfl⟩ | ⟨q,_⟩
  ·have ly:(Y1.length:Int)=t1.length:=by
    have:=congrArg List.length y1
    simp at this
    omega
   simp only [List.nil_append,List.length_cons,List.length_nil,List.cons.injEq,and_true,List.length_append] at e3 e5 y1 y2
   have z1:((0 + 1:Nat):Int)=1:=rfl
   rw [z1] at e3 y1
   have z2:((0 + 1 + Y1.length:Nat):Int)=1 + t1.length:=by omega
   rw [z2] at e5 y2
   refine ⟨by omega,pl0,Y1,Y2,pl,?_,y1,y2⟩
   rw [e3,e5]
   simp only [List.nil_append,List.append_assoc,List.cons_append,List.length_nil]
   congr 3
   simp
   exact ⟨rfl,by omega⟩
  ·exfalso
   rw [x9 e4] at q
   simp at q
 have r:=vm2 (L:=C) (a:=0) (by rw [x0]; simp) (by rw [x0]; simp) (fun b T1 o1 hb l=>by
  obtain ⟨hb,_⟩:=main hb
  rw [hb]
  refine xy5 l (.inr (.inr ?_))
  unfold nx
  simp) 7 0 rfl (by omega) h
 exact (main r).2
end
end Go.Proofs.YtgicljncknbgcaaGreat.Abs
