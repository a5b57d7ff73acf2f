/- Derivations: what they must be; of a text within another. -/
import Derived.Test.YtgicljncknbgcaaGreatR2
import Derived.Test.YtgicljncknbgcaaGreatE2
import Derived.Test.YtgicljncknbgcaaGreatX1
set_option linter.unusedVariables false
set_option linter.unusedSimpArgs false
set_option linter.unusedSectionVars false
namespace Go.Proofs.YtgicljncknbgcaaGreat.Abs
open Go
section
variable {L:List q33} {a a':Int} {T T':List q20} {o:List Int}
theorem inv_ex7 (h:Run L (.ex 7) a T a' T' o):∃ i,o=[i]∧Run L .at_ a T a' T' [i]:=by
 generalize hm:yf9.ex 7=m at h
 cases h <;> simp only [yf9.ex.injEq,reduceCtorEq] at hm
 case atom i h=>exact ⟨i,rfl,h⟩
 case not=>omega
 case neg=>omega
 case inf=>omega
theorem inv_not (hx:nx L a=[110,111,116])(h:Run L (.ex 2) a T a' T' o):∃ T0 i pl,T'=T0 ++ [nd 6 v0 [] [i] pl]∧o=[(T0.length:Int)]∧Run L (.ex 2) (a + 1) T a' T0 [i]:=by
 generalize hm:yf9.ex 2=m at h
 cases h <;> simp only [yf9.ex.injEq,reduceCtorEq] at hm
 case atom=>omega
 case not T0 i pl _ h=>exact ⟨T0,i,pl,rfl,rfl,h⟩
 case neg=>omega
 case inf h1 _ _ _=>subst hm; exact absurd ⟨rfl,hx⟩ h1
theorem inv_neg (hx:nx L a=[45])(h:Run L (.ex 6) a T a' T' o):∃ T0 i pl,T'=T0 ++ [nd 17 v0 [] [i] pl]∧o=[(T0.length:Int)]∧Run L (.ex 6) (a + 1) T a' T0 [i]:=by
 generalize hm:yf9.ex 6=m at h
 cases h <;> simp only [yf9.ex.injEq,reduceCtorEq] at hm
 case atom=>omega
 case not=>omega
 case neg T0 i pl _ h=>exact ⟨T0,i,pl,rfl,rfl,h⟩
 case inf _ h1 _ _=>subst hm; exact absurd ⟨rfl,hx⟩ h1
theorem kh3 {l:Int}(h7:l≠7)(n1:¬ (l=2∧nx L a=[110,111,116]))(n2:¬ (l=6∧nx L a=[45]))(h:Run L (.ex l) a T a' T' o):∃ a1 T1 i,Run L (.ex (l + 1)) a T a1 T1 [i]∧Run L (.tl l i) a1 T1 a' T' o:=by
 generalize hm:yf9.ex l=m at h
 cases h <;> simp only [yf9.ex.injEq,reduceCtorEq] at hm
 case atom=>exact absurd hm h7
 case not h _=>exact absurd ⟨hm,h⟩ n1
 case neg h _=>exact absurd ⟨hm,h⟩ n2
 case inf h1 h2=>subst hm; exact ⟨_,_,_,h1,h2⟩
theorem uf0 {l i:Int}(h0:ifx l (nx L a)=0)(h:Run L (.tl l i) a T a' T' o):a'=a∧T'=T∧o=[i]:=by
 generalize hm:yf9.tl l i=m at h
 cases h <;> simp only [yf9.tl.injEq,reduceCtorEq] at hm
 case stop=>obtain ⟨rfl,rfl⟩:=hm; exact ⟨rfl,rfl,rfl⟩
 case cmp h _=>obtain ⟨rfl,rfl⟩:=hm; exact absurd h0 h
 case more _ h _ _=>obtain ⟨rfl,rfl⟩:=hm; exact absurd h0 h
theorem inv_cmp {i:Int}(h0:ifx 3 (nx L a)≠0)(h:Run L (.tl 3 i) a T a' T' o):∃ T1 j pl,Run L (.ex 4) (a + 1) T a' T1 [j]∧T'=T1 ++ [nd (ifx 3 (nx L a)) v0 [] [i,j] pl]∧o=[(T1.length:Int)]:=by
 generalize hm:yf9.tl 3 i=m at h
 cases h <;> simp only [yf9.tl.injEq,reduceCtorEq] at hm
 case stop h=>obtain ⟨rfl,rfl⟩:=hm; exact absurd h h0
 case cmp h=>obtain ⟨_,rfl⟩:=hm; exact ⟨_,_,_,h,rfl,rfl⟩
 case more h _ _ _=>obtain ⟨rfl,rfl⟩:=hm; exact absurd rfl h
theorem kk0 {l i:Int}(h3:l≠3)(h0:ifx l (nx L a)≠0)(h:Run L (.tl l i) a T a' T' o):∃ a1 T1 j pl,Run L (.ex (l + 1)) (a + 1) T a1 T1 [j]∧Run L (.tl l (T1.length:Int)) a1 (T1 ++ [nd (ifx l (nx L a)) v0 [] [i,j] pl]) a' T' o:=by
 generalize hm:yf9.tl l i=m at h
 cases h <;> simp only [yf9.tl.injEq,reduceCtorEq] at hm
 case stop h=>obtain ⟨rfl,rfl⟩:=hm; exact absurd h h0
 case cmp=>exact absurd hm.1 h3
 case more h1 h2=>obtain ⟨rfl,rfl⟩:=hm; exact ⟨_,_,_,_,h1,h2⟩
theorem inv_var (hk:(q25 L a q31).1=2)(h:Run L .at_ a T a' T' o):∃ pl,a'=a + 1∧T'=T ++ [nd 2 v0 (q25 L a q31).2.1 [] pl]∧o=[(T.length:Int)]:=by
 generalize hm:yf9.at_=m at h
 cases h <;> simp only [reduceCtorEq] at hm
 case var=>exact ⟨_,rfl,rfl,rfl⟩
 all_goals omega
theorem inv_self (hk:(q25 L a q31).1=3)(h:Run L .at_ a T a' T' o):∃ pl,a'=a + 1∧T'=T ++ [nd 3 v0 [] [] pl]∧o=[(T.length:Int)]:=by
 generalize hm:yf9.at_=m at h
 cases h <;> simp only [reduceCtorEq] at hm
 case self=>exact ⟨_,rfl,rfl,rfl⟩
 all_goals omega
theorem inv_lit (h4:4≤(q25 L a q31).1)(h6:(q25 L a q31).1≤6)(h:Run L .at_ a T a' T' o):∃ pl,a'=a + 1∧T'=T ++ [nd 1 (q25 L a q31).2.2.1 [] [] pl]∧o=[(T.length:Int)]:=by
 generalize hm:yf9.at_=m at h
 cases h <;> simp only [reduceCtorEq] at hm
 case lit=>exact ⟨_,rfl,rfl,rfl⟩
 all_goals omega
theorem inv_word {v:q00}(hk:(q25 L a q31).1=1)(hc:(zj8 (q25 L a q31).2.1).1=0)(hv:litF (q25 L a q31).2.1=some v)(h:Run L .at_ a T a' T' o):∃ pl,a'=a + 1∧T'=T ++ [nd 1 v [] [] pl]∧o=[(T.length:Int)]:=by
 generalize hm:yf9.at_=m at h
 cases h <;> simp only [reduceCtorEq] at hm
 case word v' _ _ _ h=>rw [hv] at h; cases h; exact ⟨_,rfl,rfl,rfl⟩
 case call=>exact absurd hc (by assumption)
 all_goals omega
theorem inv_call (hk:(q25 L a q31).1=1)(hc:(zj8 (q25 L a q31).2.1).1≠0)(h:Run L .at_ a T a' T' o):∃ b T0 ks pl,nx L (a + 1)=[40]∧Run L (.ar (zj8 (q25 L a q31).2.1).2.1 (zj8 (q25 L a q31).2.1).2.2.1 []) (a + 2) T b T0 ks∧nx L b=[41]∧a'=b + 1∧T'=T0 ++ [nd (zj8 (q25 L a q31).2.1).1 v0 [] ks pl]∧o=[(T0.length:Int)]:=by
 generalize hm:yf9.at_=m at h
 cases h <;> simp only [reduceCtorEq] at hm
 case word h _=>exact absurd h hc
 case call=>exact ⟨_,_,_,_,by assumption,by assumption,by assumption,rfl,rfl,rfl⟩
 all_goals omega
theorem vh4 (hk:(q25 L a q31).1=7)(h:Run L .at_ a T a' T' o):∃ b i,nx L a=[40]∧Run L (.ex 0) (a + 1) T b T' [i]∧nx L b=[41]∧a'=b + 1∧o=[i]:=by
 generalize hm:yf9.at_=m at h
 cases h <;> simp only [reduceCtorEq] at hm
 case paren=>exact ⟨_,_,by assumption,by assumption,by assumption,rfl,rfl⟩
 all_goals omega
theorem inv_ar {least most:Int}{ks:List Int}(h:Run L (.ar least most ks) a T a' T' o):∃ a1 T1 i,Run L (.ex 0) a T a1 T1 [i]∧((nx L a1≠[44]∧¬ (nx L a1=[41]∧((ks ++ [i]).length:Int) < least)∧a'=a1∧T'=T1∧o=ks ++ [i])∨(nx L a1=[44]∧((ks ++ [i]).length:Int)≠most∧Run L (.ar least most (ks ++ [i])) (a1 + 1) T1 a' T' o)):=by
 generalize hm:yf9.ar least most ks=m at h
 cases h <;> simp only [yf9.ar.injEq,reduceCtorEq] at hm
 case last=>obtain ⟨rfl,rfl,rfl⟩:=hm; exact ⟨_,_,_,by assumption,.inl ⟨by assumption,by assumption,rfl,rfl,rfl⟩⟩
 case next=>obtain ⟨rfl,rfl,rfl⟩:=hm; exact ⟨_,_,_,by assumption,.inr ⟨by assumption,by assumption,by assumption⟩⟩
end
def shN (d:Int)(n:q20):q20:=(n.1,n.2.1,n.2.2.1,n.2.2.2.1.map (· + d),(0,0,()),())
structure Emb (L M:List q33) (off:Int):Prop where
 off0:0≤off
 tok:∀ p:Int,0≤p→p < L.length→q25 M (p + off) q31=q25 L p q31
 close:nx M (L.length + off)=[41]
section
variable {L M:List q33} {off:Int} (E:Emb L M off)
include E
theorem Emb.lt {p:Int}(h0:0≤p)(h:p < L.length):p + off < M.length:=by
 have:=yq4 (show nx M (L.length + off)≠[] by rw [E.close]; simp)
 omega
theorem Emb.nx {p:Int}(h0:0≤p)(h:p < L.length):Abs.nx M (p + off)=Abs.nx L p:=by
 unfold Abs.nx
 have:=E.lt h0 h
 rw [E.tok p h0 h]
 simp only [h,this,true_and]
theorem Emb.nxE {p:Int}(h0:0≤p)(h:p≤L.length):Abs.nx M (p + off)=Abs.nx L p∨(Abs.nx M (p + off)=[41]∧Abs.nx L p=[]):=by
 rcases Int.lt_or_le p L.length with h1 | h1
 ·exact .inl (E.nx h0 h1)
 ·have:p=L.length:=by omega
  subst this
  refine .inr ⟨E.close,?_⟩
  unfold Abs.nx
  simp
def shM (d:Int):yf9→yf9
 | .ex l=>.ex l
 | .at_=>.at_
 | .tl l i=>.tl l (i + d)
 | .ar least most ks=>.ar least most (ks.map (· + d))
omit E in
theorem x37 (op:Int)(v:q00)(nm:List UInt8)(ks ks2:List Int)(pl pl2:qi2)(d:Int)(h:ks2=ks.map (· + d)):shN 0 (nd op v nm ks2 pl2)=shN d (nd op v nm ks pl):=by
 subst h
 simp only [shN,List.map_map]
 congr 4
 apply List.map_congr_left
 intro x _
 simp
theorem Run.sim {m:yf9}{a a':Int}{T T':List q20}{o:List Int}{d:Int}(h:Run L m a T a' T' o):0≤a→a≤L.length→∀ (T2:List q20) (b:Int) (T2':List q20) (o2:List Int),(T2.length:Int)=T.length + d→Run M (shM d m) (a + off) T2 b T2' o2 →
  b=a' + off∧0≤a'∧a'≤L.length∧(∃ X Y,T'=T ++ X∧T2'=T2 ++ Y∧Y.map (shN 0)=X.map (shN d))∧o2=o.map (· + d):=by
 have lt:∀ {p:Int},Abs.nx L p≠[]→p < L.length:=fun h=>yq4 h
 have up:∀ p:Int,p + off + 1=p + 1 + off:=fun p=>by omega
 -- a node more behind both
 have snoc:∀ {a' b:Int} {T T0 T2 T20:List q20} {op:Int} {v:q00} {nm:List UInt8} {ks ks2:List Int} {pl pl2:qi2},(∃ X Y,T0=T ++ X∧T20=T2 ++ Y∧Y.map (shN 0)=X.map (shN d))→ks2=ks.map (· + d) →
   ∃ X Y,T0 ++ [nd op v nm ks pl]=T ++ X∧T20 ++ [nd op v nm ks2 pl2]=T2 ++ Y∧Y.map (shN 0)=X.map (shN d):=fun {a' b T T0 T2 T20 op v nm ks ks2 pl pl2} hh hk=>by
  obtain ⟨X,Y,rfl,rfl,e⟩:=hh
  refine ⟨X ++ [nd op v nm ks pl],Y ++ [nd op v nm ks2 pl2],by simp,by simp,?_⟩
  rw [List.map_append,List.map_append,e,List.map_singleton,List.map_singleton,x37 op v nm ks ks2 pl pl2 d hk]
 have len:∀ {T T0 T2 T20:List q20},(T2.length:Int)=T.length + d→(∃ X Y,T0=T ++ X∧T20=T2 ++ Y∧Y.map (shN 0)=X.map (shN d))→(T20.length:Int)=T0.length + d:=fun {T T0 T2 T20} h hh=>by
  obtain ⟨X,Y,rfl,rfl,e⟩:=hh
  have:=congrArg List.length e
  simp at this
  simp
  omega
 have app:∀ {T T0 T1 T2 T20 T21:List q20},(∃ X Y,T0=T ++ X∧T20=T2 ++ Y∧Y.map (shN 0)=X.map (shN d))→(∃ X Y,T1=T0 ++ X∧T21=T20 ++ Y∧Y.map (shN 0)=X.map (shN d))→∃ X Y,T1=T ++ X∧T21=T2 ++ Y∧Y.map (shN 0)=X.map (shN d):=fun {T T0 T1 T2 T20 T21} h1 h2=>by
  obtain ⟨X,Y,rfl,rfl,e⟩:=h1
  obtain ⟨X',Y',rfl,rfl,e'⟩:=h2
  exact ⟨X ++ X',Y ++ Y',by simp,by simp,by rw [List.map_append,List.map_append,e,e']⟩
 have idx:∀ {T T2:List q20},(T2.length:Int)=T.length + d→[(T2.length:Int)]=[(T.length:Int)].map (· + d):=fun h=>by simp [h]
 induction h with
 | @atom a T a' T' i _ ih =>
  intro h0 hl T2 b T2' o2 ht h2
  obtain ⟨j,rfl,h3⟩:=inv_ex7 h2
  exact ih h0 hl T2 b T2' _ ht h3
 | @not a T a' T' i pl hx _ ih =>
  intro h0 hl T2 b T2' o2 ht h2
  have ha:=lt (show Abs.nx L a≠[] by rw [hx]; simp)
  have hx2:=E.nx h0 ha
  rw [hx] at hx2
  obtain ⟨T0,j,pl2,rfl,rfl,h3⟩:=inv_not hx2 h2
  rw [up] at h3
  obtain ⟨g1,g2,g3,g4,g5⟩:=ih (by omega) (by omega) T2 b T0 _ ht h3
  exact ⟨g1,g2,g3,snoc (a':=a) (b:=b) g4 g5,idx (len ht g4)⟩
 | @neg a T a' T' i pl hx _ ih =>
  intro h0 hl T2 b T2' o2 ht h2
  have ha:=lt (show Abs.nx L a≠[] by rw [hx]; simp)
  have hx2:=E.nx h0 ha
  rw [hx] at hx2
  obtain ⟨T0,j,pl2,rfl,rfl,h3⟩:=inv_neg hx2 h2
  rw [up] at h3
  obtain ⟨g1,g2,g3,g4,g5⟩:=ih (by omega) (by omega) T2 b T0 _ ht h3
  exact ⟨g1,g2,g3,snoc (a':=a) (b:=b) g4 g5,idx (len ht g4)⟩
 | @inf l a T a1 T1 i a' T' j l0 l7 n1 n2 _ _ ih1 ih2 =>
  intro h0 hl T2 b T2' o2 ht h2
  have n1':¬ (l=2∧Abs.nx M (a + off)=[110,111,116]):=fun ⟨e,hx⟩=>by
   rcases E.nxE h0 hl with h | ⟨h,_⟩
   ·exact n1 ⟨e,by rw [← h]; exact hx⟩
   ·rw [h] at hx; simp at hx
  have n2':¬ (l=6∧Abs.nx M (a + off)=[45]):=fun ⟨e,hx⟩=>by
   rcases E.nxE h0 hl with h | ⟨h,_⟩
   ·exact n2 ⟨e,by rw [← h]; exact hx⟩
   ·rw [h] at hx; simp at hx
  obtain ⟨b1,T20,i2,h3,h4⟩:=kh3 (by omega) n1' n2' h2
  obtain ⟨g1,g2,g3,g4,g5⟩:=ih1 h0 hl T2 b1 T20 _ ht h3
  simp only [List.map_cons,List.map_nil,List.cons.injEq,and_true] at g5
  subst g1 g5
  obtain ⟨k1,k2,k3,k4,k5⟩:=ih2 g2 g3 T20 b T2' _ (len ht g4) h4
  exact ⟨k1,k2,k3,app g4 k4,k5⟩
 | @stop l i a T hx =>
  intro h0 hl T2 b T2' o2 ht h2
  have hx2:ifx l (Abs.nx M (a + off))=0:=by
   rcases E.nxE h0 hl with h | ⟨h,_⟩
   ·rw [h]; exact hx
   ·rw [h]; unfold ifx; simp
  obtain ⟨rfl,rfl,rfl⟩:=uf0 hx2 h2
  exact ⟨rfl,h0,hl,⟨[],[],by simp,by simp,rfl⟩,rfl⟩
 | @cmp i a T a1 T1 j pl hx _ ih =>
  intro h0 hl T2 b T2' o2 ht h2
  have ha:=lt (show Abs.nx L a≠[] by intro e; apply hx; rw [e]; rfl)
  have hx2:=E.nx h0 ha
  obtain ⟨T0,j2,pl2,h3,rfl,rfl⟩:=inv_cmp (by rw [hx2]; exact hx) h2
  rw [up] at h3
  obtain ⟨g1,g2,g3,g4,g5⟩:=ih (by omega) (by omega) T2 b T0 _ ht h3
  simp only [List.map_cons,List.map_nil,List.cons.injEq,and_true] at g5
  rw [hx2]
  exact ⟨g1,g2,g3,snoc (a':=a) (b:=b) g4 (by rw [g5]; rfl),idx (len ht g4)⟩
 | @more l i a T a1 T1 j a' T' k pl l3 hx _ _ ih1 ih2 =>
  intro h0 hl T2 b T2' o2 ht h2
  have ha:=lt (show Abs.nx L a≠[] by intro e; apply hx; rw [e]; unfold ifx; simp)
  have hx2:=E.nx h0 ha
  obtain ⟨b1,T20,j2,pl2,h3,h4⟩:=kk0 l3 (by rw [hx2]; exact hx) h2
  rw [up] at h3
  obtain ⟨g1,g2,g3,g4,g5⟩:=ih1 (by omega) (by omega) T2 b1 T20 _ ht h3
  simp only [List.map_cons,List.map_nil,List.cons.injEq,and_true] at g5
  subst g1 g5
  rw [hx2,len ht g4] at h4
  have s4:=snoc (a':=a) (b:=b) (op:=ifx l (Abs.nx L a)) (v:=v0) (nm:=[]) (ks:=[i,j]) (ks2:=[i + d,j + d]) (pl:=pl) (pl2:=pl2) g4 rfl
  obtain ⟨k1,k2,k3,k4,k5⟩:=ih2 g2 g3 _ b T2' _ (len ht s4) h4
  exact ⟨k1,k2,k3,app s4 k4,k5⟩
 | @var a T pl h1 h2 =>
  intro h0 hl T2 b T2' o2 ht h3
  have ht2:=E.tok a h0 h1
  obtain ⟨pl2,rfl,rfl,rfl⟩:=inv_var (by rw [ht2]; exact h2) h3
  rw [ht2]
  exact ⟨by omega,by omega,by omega,⟨[_],[_],rfl,rfl,by rw [List.map_singleton,List.map_singleton,x37 _ _ _ [] [] pl pl2 d rfl]⟩,idx ht⟩
 | @self a T pl h1 h2 =>
  intro h0 hl T2 b T2' o2 ht h3
  have ht2:=E.tok a h0 h1
  obtain ⟨pl2,rfl,rfl,rfl⟩:=inv_self (by rw [ht2]; exact h2) h3
  exact ⟨by omega,by omega,by omega,⟨[_],[_],rfl,rfl,by rw [List.map_singleton,List.map_singleton,x37 _ _ _ [] [] pl pl2 d rfl]⟩,idx ht⟩
 | @lit a T pl h1 h2 h4 =>
  intro h0 hl T2 b T2' o2 ht h3
  have ht2:=E.tok a h0 h1
  obtain ⟨pl2,rfl,rfl,rfl⟩:=inv_lit (by rw [ht2]; exact h2) (by rw [ht2]; exact h4) h3
  rw [ht2]
  exact ⟨by omega,by omega,by omega,⟨[_],[_],rfl,rfl,by rw [List.map_singleton,List.map_singleton,x37 _ _ _ [] [] pl pl2 d rfl]⟩,idx ht⟩
 | @word a T pl v h1 h2 h4 h5 =>
  intro h0 hl T2 b T2' o2 ht h3
  have ht2:=E.tok a h0 h1
  obtain ⟨pl2,rfl,rfl,rfl⟩:=inv_word (by rw [ht2]; exact h2) (by rw [ht2]; exact h4) (by rw [ht2]; exact h5) h3
  exact ⟨by omega,by omega,by omega,⟨[_],[_],rfl,rfl,by rw [List.map_singleton,List.map_singleton,x37 _ _ _ [] [] pl pl2 d rfl]⟩,idx ht⟩
 | @call a T a' T' ks pl h1 h2 h4 h5 _ h6 ih =>
  intro h0 hl T2 b T2' o2 ht h3
  have ht2:=E.tok a h0 h1
  obtain ⟨b1,T0,ks2,pl2,k1,k2,k3,rfl,rfl,rfl⟩:=inv_call (by rw [ht2]; exact h2) (by rw [ht2]; exact h4) h3
  rw [ht2,show a + off + 2=a + 2 + off by omega] at k2
  have:=lt (show Abs.nx L (a + 1)≠[] by rw [h5]; simp)
  obtain ⟨g1,g2,g3,g4,g5⟩:=ih (by omega) (by omega) T2 b1 T0 _ ht k2
  have:=lt (show Abs.nx L a'≠[] by rw [h6]; simp)
  rw [ht2]
  exact ⟨by omega,by omega,by omega,snoc (a':=a) (b:=b1) g4 g5,idx (len ht g4)⟩
 | @paren a T a' T' i h1 h2 _ h4 ih =>
  intro h0 hl T2 b T2' o2 ht h3
  have ha:=lt (show Abs.nx L a≠[] by rw [h1]; simp)
  have ht2:=E.tok a h0 ha
  obtain ⟨b1,i2,k1,k2,k3,rfl,rfl⟩:=vh4 (by rw [ht2]; exact h2) h3
  rw [up] at k2
  obtain ⟨g1,g2,g3,g4,g5⟩:=ih (by omega) (by omega) T2 b1 T2' _ ht k2
  have:=lt (show Abs.nx L a'≠[] by rw [h4]; simp)
  exact ⟨by omega,by omega,by omega,g4,g5⟩
 | @last least most ks a T a' T' i _ h2 h3 ih =>
  intro h0 hl T2 b T2' o2 ht h4
  obtain ⟨b1,T20,i2,k1,k2⟩:=inv_ar h4
  obtain ⟨g1,g2,g3,g4,g5⟩:=ih h0 hl T2 b1 T20 _ ht k1
  simp only [List.map_cons,List.map_nil,List.cons.injEq,and_true] at g5
  subst g1 g5
  rcases k2 with ⟨_,_,rfl,rfl,rfl⟩ | ⟨k3,_,_⟩
  ·exact ⟨rfl,g2,g3,g4,by simp⟩
  ·exfalso
   rcases E.nxE g2 g3 with h | ⟨h,_⟩
   ·rw [h] at k3; exact h3 k3
   ·rw [h] at k3; simp at k3
 | @next least most ks a T a1 T1 i a' T' ks' _ h2 h3 _ ih1 ih2 =>
  intro h0 hl T2 b T2' o2 ht h4
  obtain ⟨b1,T20,i2,k1,k2⟩:=inv_ar h4
  obtain ⟨g1,g2,g3,g4,g5⟩:=ih1 h0 hl T2 b1 T20 _ ht k1
  simp only [List.map_cons,List.map_nil,List.cons.injEq,and_true] at g5
  subst g1 g5
  have ha:=lt (show Abs.nx L a1≠[] by rw [h2]; simp)
  have hx:=E.nx g2 ha
  rcases k2 with ⟨k3,_⟩ | ⟨_,_,k5⟩
  ·rw [hx] at k3; exact absurd h2 k3
  ·rw [up] at k5
   have e:ks.map (· + d) ++ [i + d]=(ks ++ [i]).map (· + d):=by simp
   rw [e] at k5
   obtain ⟨q1,q2,q3,q4,q5⟩:=ih2 (by omega) (by omega) T20 b T2' _ (len ht g4) k5
   exact ⟨q1,q2,q3,app g4 q4,q5⟩
end
theorem kk3 {d:Int}{x y:q20}(h:shN 0 y=shN d x)(self:q00)(vars:List q40):vc9 y self vars=vc9 x self vars∧vf9 y=vf9 x∧y.1=x.1∧y.2.1=x.2.1∧y.2.2.2.1=x.2.2.2.1.map (· + d):=by
 obtain ⟨a,b,c,e,f,u⟩:=x
 obtain ⟨a',b',c',e',f',u'⟩:=y
 simp only [shN,Prod.mk.injEq,Int.add_zero,List.map_id'] at h
 obtain ⟨rfl,rfl,rfl,rfl,_⟩:=h
 exact ⟨rfl,rfl,rfl,rfl,rfl⟩
theorem km7 {A Y Z:List q20}{p:Int}(h0:0≤p)(h:p < Y.length):q25 (A ++ Y ++ Z) (p + (A.length:Int)) qb7=q25 Y p qb7:=by
 obtain ⟨k,rfl⟩:∃ k:Nat,p=k:=⟨p.toNat,by omega⟩
 have e:(k:Int) + (A.length:Int)=((A.length + k:Nat):Int):=by omega
 have hk:k < Y.length:=by omega
 rw [e]
 unfold q25
 rw [Int.toNat_natCast,Int.toNat_natCast,List.getD_eq_getElem?_getD,List.getD_eq_getElem?_getD,List.append_assoc,List.getElem?_append_right (by omega),Nat.add_sub_cancel_left,List.getElem?_append_left hk]
theorem nth_sh {d:Int}{X Y:List q20}(h:Y.map (shN 0)=X.map (shN d)){p:Int}(h0:0≤p)(hp:p < X.length):shN 0 (q25 Y p qb7)=shN d (q25 X p qb7):=by
 obtain ⟨k,rfl⟩:∃ k:Nat,p=k:=⟨p.toNat,by omega⟩
 have hl:=congrArg List.length h
 simp only [List.length_map] at hl
 have hk:k < X.length:=by omega
 have hk2:k < Y.length:=by omega
 rw [qj2 hk2,qj2 hk]
 have:=congrArg (fun l=>l[k]?) h
 simp only [List.getElem?_map,List.getElem?_eq_getElem hk,List.getElem?_eq_getElem hk2,Option.map_some,Option.some.injEq] at this
 exact this
theorem ko4 {N:Nat}{self:q00}{vars:List q40}{A X Y Z:List q20}{lA:List q03}(hA:yz0 N self vars (A ++ Y ++ Z) A.length=some lA)(h:Y.map (shN 0)=X.map (shN (A.length:Int)))(hk:∀ x ∈ X,∀ k ∈ x.2.2.2.1,0≤k):
  ∀ k,k≤X.length→yz0 N self vars (A ++ Y ++ Z) (A.length + k)=(yz0 N self vars X k).map fun l=>lA ++ l
 | 0,_=>by rw [Nat.add_zero,hA]; simp [yz0]
 | k + 1,hk2=>by
  have ih:=ko4 hA h hk k (by omega)
  have hl:=congrArg List.length h
  simp only [List.length_map] at hl
  have lenA:=y99 hA
  rw [← Nat.add_assoc]
  simp only [yz0,ih]
  cases h1:yz0 N self vars X k with
  | none=>simp
  | some l =>
   have lenl:=y99 h1
   simp only [Option.map_some,Option.bind_some]
   have e1:((A.length + k:Nat):Int)=(k:Int) + (A.length:Int):=by omega
   have mem:q25 X (k:Int) qb7 ∈ X:=qu8 (by omega) (by omega)
   have s1:=nth_sh h (p:=(k:Int)) (by omega) (by omega)
   obtain ⟨g1,g2,g3,g4,g5⟩:=kk3 s1 self vars
   rw [e1,km7 (by omega) (by omega)]
   have kids:yb7 (A ++ Y ++ Z) (lA ++ l) (A.length + k) (q25 Y (k:Int) qb7).2.2.2.1=yb7 X l k (q25 X (k:Int) qb7).2.2.2.1:=by
    rw [g5]
    unfold yb7
    rw [List.map_map,List.map_map]
    have ka:∀ x ∈ (q25 X (k:Int) qb7).2.2.2.1,(um7 (lA ++ l) (A.length + k) ∘ (· + (A.length:Int))) x=um7 l k x∧(ke9 (A ++ Y ++ Z) (A.length + k) ∘ (· + (A.length:Int))) x=ke9 X k x:=fun x hx=>by
     have h0:=hk _ mem x hx
     simp only [Function.comp]
     unfold um7 ke9
     by_cases c:x < k
     ·rw [if_pos (by omega),if_pos (by omega),if_pos (by omega),if_pos (by omega),km7 h0 (by omega)]
      obtain ⟨_,_,q3,q4,_⟩:=kk3 (nth_sh h (p:=x) h0 (by omega)) self vars
      rw [q3,q4]
      refine ⟨?_,rfl⟩
      obtain ⟨j,rfl⟩:∃ j:Nat,x=j:=⟨x.toNat,by omega⟩
      have e3:(j:Int) + (A.length:Int)=((lA.length + j:Nat):Int):=by omega
      rw [e3,qj2 (by simp; omega),qj2 (by omega),List.getElem_append_right (by omega)]
      congr 1
      omega
     ·rw [if_neg (by omega),if_neg (by omega),if_neg (by omega),if_neg (by omega)]
      exact ⟨rfl,rfl⟩
    rw [List.map_congr_left fun x hx=>(ka x hx).1,List.map_congr_left fun x hx=>(ka x hx).2]
   rw [kids]
   have node:∀ q,xv7 N self vars (q25 Y (k:Int) qb7) q=xv7 N self vars (q25 X (k:Int) qb7) q:=fun q=>by
    unfold xv7
    rw [g1,g2,g3]
   rw [node]
   cases xv7 N self vars (q25 X (k:Int) qb7) (yb7 X l k (q25 X (k:Int) qb7).2.2.2.1) with
   | none=>rfl
   | some a=>simp
theorem qk9 (L:List q33)(a:Int):q25 (L.map bare) a q31=bare (q25 L a q31):=by
 unfold q25
 rw [List.getD_eq_getElem?_getD,List.getD_eq_getElem?_getD,List.getElem?_map]
 cases L[a.toNat]? <;> rfl
theorem we0 (L:List q33)(a:Int):nx (L.map bare) a=nx L a:=by
 unfold nx
 rw [qk9,List.length_map]
 rfl
theorem Run.bare {L:List q33}{m:yf9}{a a':Int}{T T':List q20}{o:List Int}(h:Run L m a T a' T' o):Run (L.map bare) m a T a' T' o:=by
 induction h with
 | atom _ ih=>exact .atom ih
 | not hx _ ih=>exact .not (by rw [we0]; exact hx) ih
 | neg hx _ ih=>exact .neg (by rw [we0]; exact hx) ih
 | inf h1 h2 h3 h4 _ _ i1 i2=>exact .inf h1 h2 (by rw [we0]; exact h3) (by rw [we0]; exact h4) i1 i2
 | stop h=>exact .stop (by rw [we0]; exact h)
 | @cmp i a T a1 T1 j pl h _ ih =>
  rw [← we0] at h ⊢
  exact .cmp h ih
 | @more l i a T a1 T1 j a' T' k pl h1 h _ _ i1 i2 =>
  rw [← we0] at h
  rw [← we0] at i2
  exact .more h1 h i1 i2
 | @var a T pl h1 h2 =>
  have:=Run.var (L:=L.map Abs.bare) (a:=a) (T:=T) (pl:=pl) (by rw [List.length_map]; exact h1) (by rw [qk9]; exact h2)
  rw [qk9] at this
  exact this
 | @self a T pl h1 h2=>exact .self (by rw [List.length_map]; exact h1) (by rw [qk9]; exact h2)
 | @lit a T pl h1 h2 h3 =>
  have:=Run.lit (L:=L.map Abs.bare) (a:=a) (T:=T) (pl:=pl) (by rw [List.length_map]; exact h1) (by rw [qk9]; exact h2) (by rw [qk9]; exact h3)
  rw [qk9] at this
  exact this
 | @word a T pl v h1 h2 h3 h4=>exact .word (by rw [List.length_map]; exact h1) (by rw [qk9]; exact h2) (by rw [qk9]; exact h3) (by rw [qk9]; exact h4)
 | @call a T a' T' ks pl h1 h2 h3 h4 _ h6 ih =>
  have:=Run.call (L:=L.map Abs.bare) (a:=a) (T:=T) (pl:=pl) (a':=a') (T':=T') (ks:=ks) (by rw [List.length_map]; exact h1) (by rw [qk9]; exact h2) (by rw [qk9]; exact h3) (by rw [we0]; exact h4) (by rw [qk9]; exact ih) (by rw [we0]; exact h6)
  rw [qk9] at this
  exact this
 | paren h1 h2 _ h4 ih=>exact .paren (by rw [we0]; exact h1) (by rw [qk9]; exact h2) ih (by rw [we0]; exact h4)
 | last _ h2 h3 ih=>exact .last ih (by rw [we0]; exact h2) (by rw [we0]; exact h3)
 | next _ h2 h3 _ i1 i2=>exact .next i1 (by rw [we0]; exact h2) h3 i2
theorem y88 (l:Int){s:List UInt8}(h:s=[44]∨s=[41]∨s=[]):ifx l s=0:=by
 unfold ifx
 rcases h with rfl | rfl | rfl <;> simp
theorem v39 {α:Type}{A B:List α}{x d:α}{p:Int}(h:p=A.length):q25 (A ++ x :: B) p d=x:=by
 subst h
 unfold q25
 rw [Int.toNat_natCast,List.getD_eq_getElem?_getD,List.getElem?_append_right (Nat.le_refl _),Nat.sub_self]
 rfl
theorem y70 {A B:List q33}{x:q33}{p:Int}(h:p=A.length)(hk:x.1=1∨x.1=7):nx (A ++ x :: B) p=x.2.1:=by
 unfold nx
 rw [v39 h,if_pos ⟨by subst h; simp; omega,hk⟩]
theorem emb_at {A L B:List q33}{off:Int}(h:off=A.length):Emb L (A ++ L ++ tk 7 [41] v0 :: B) off:=by
 subst h
 refine ⟨by omega,fun p h0 hp=>?_,?_⟩
 ·obtain ⟨k,rfl⟩:∃ k:Nat,p=k:=⟨p.toNat,by omega⟩
  have e:(k:Int) + (A.length:Int)=((A.length + k:Nat):Int):=by omega
  rw [e]
  unfold q25
  rw [Int.toNat_natCast,Int.toNat_natCast,List.getD_eq_getElem?_getD,List.getD_eq_getElem?_getD,List.append_assoc,List.getElem?_append_right (by omega),Nat.add_sub_cancel_left,List.getElem?_append_left (by omega)]
 ·exact y70 (by simp; omega) (.inr rfl)
theorem par_run {L1 A B:List q33}{t1:List q20}{i1:Int}(hr:Run L1 (.ex 0) 0 [] L1.length t1 [i1]){p:Int}(hp:p=A.length){T:List q20}{b:Int}{T':List q20}{o:List Int}
  (h:Run (A ++ tk 7 [40] v0 :: (L1 ++ tk 7 [41] v0 :: B)) .at_ p T b T' o):b=p + L1.length + 2∧(∃ Y,T'=T ++ Y∧Y.map (shN 0)=t1.map (shN (T.length:Int)))∧o=[i1 + (T.length:Int)]:=by
 obtain ⟨b0,i,h1,h2,h3,rfl,rfl⟩:=vh4 (by rw [v39 hp]) h
 have e:A ++ tk 7 [40] v0 :: (L1 ++ tk 7 [41] v0 :: B)=(A ++ [tk 7 [40] v0]) ++ L1 ++ tk 7 [41] v0 :: B:=by simp
 rw [e] at h2
 have E:=emb_at (A:=A ++ [tk 7 [40] v0]) (L:=L1) (B:=B) (off:=p + 1) (by simp; omega)
 have h2':Run ((A ++ [tk 7 [40] v0]) ++ L1 ++ tk 7 [41] v0 :: B) (shM (T.length:Int) (.ex 0)) (0 + (p + 1)) T b0 T' [i]:=by
  rw [Int.zero_add]; exact h2
 obtain ⟨g1,g2,g3,⟨X,Y,q1,q2,q3⟩,g5⟩:=Run.sim E (d:=(T.length:Int)) hr (by omega) (by omega) T b0 T' [i] (by simp) h2'
 rw [List.nil_append] at q1
 subst q1
 exact ⟨by omega,⟨Y,q2,q3⟩,g5⟩
section
variable {L1 L2:List q33} {t1 t2:List q20} {i1 i2:Int} (h1:Run L1 (.ex 0) 0 [] L1.length t1 [i1]) (h2:Run L2 (.ex 0) 0 [] L2.length t2 [i2])
include h1 h2
end
end Go.Proofs.YtgicljncknbgcaaGreat.Abs
