/- EvalIfs: words and answers of 'if' with two texts in it. -/
import Derived.Test.YtgicljncknbgcaaGreatX2
import Derived.Test.YtgicljncknbgcaaGreatN1
set_option linter.unusedVariables false
set_option linter.unusedSimpArgs false
set_option linter.unusedSectionVars false
namespace Go.Proofs.YtgicljncknbgcaaGreat.Abs
open Go
theorem sign_word (N:Nat)(c:UInt8)(r:List UInt8)(h:c=40∨c=41∨c=44):yl7 N (c :: r)=some (tk 7 [c] v0,1):=by
 have hs:v15 (c :: r)=1:=by
  unfold v15
  rcases h with rfl | rfl | rfl <;> cases r <;> simp
 have hr:j72 (c :: r)=0:=by
  unfold j72
  rcases h with rfl | rfl | rfl <;> rfl
 have hd:qm1 c=false:=by rcases h with rfl | rfl | rfl <;> rfl
 unfold yl7
 dsimp only
 rw [hr,hs,hd]
 rcases h with rfl | rfl | rfl <;> rfl
theorem Lx.sign {N:Nat}{c:UInt8}{r:List UInt8}{l:List q33}(h:c=40∨c=41∨c=44)(k:Lx N r l):Lx N (c :: r) (tk 7 [c] v0 :: l) :=
 .tok (by rcases h with rfl | rfl | rfl <;> decide) (by rcases h with rfl | rfl | rfl <;> decide) (by rcases h with rfl | rfl | rfl <;> decide) (sign_word N c r h) k
section
variable {N:Nat} {self:q00} {vars:List q40} {t1 t2:List q20} {l1 l2:List q03} {vc:q00} {B:Nat}
theorem x03 {α:Type}(l:List α)(d:α)(h:0 < l.length):l.getLastD d=q25 l ((l.length:Int) - 1) d:=by
 have e:((l.length:Int) - 1)=((l.length - 1:Nat):Int):=by omega
 rw [e,qj2 (by omega)]
 cases l with
 | nil=>simp at h
 | cons a l =>
  rw [List.getLastD_cons]
  simp only [List.length_cons,Nat.add_sub_cancel]
  cases l with
  | nil=>rfl
  | cons b l=>simp [List.getLastD,List.getLast_eq_getElem]
end
end Go.Proofs.YtgicljncknbgcaaGreat.Abs
namespace Go.Proofs.YtgicljncknbgcaaGreat.Abs
theorem known10 :qx6 2000000=some true:=by kernel_rfl
open Go
theorem qu3 :Tells ((qx6 2000000).bind fun r=>some r) fun r=>r=true:=by rw [known10]; exact Tells.some rfl
theorem VOK.up {n m:Nat}{v:q00}(h:VOK n v)(k:n≤m):VOK m v:=⟨h.1,h.2.1,h.2.2.1,Nat.le_trans h.2.2.2 k⟩
structure Rd (N:Nat) (s:List UInt8) (t:List q20):Prop where
 ex:∃ L i,Lx N s L∧Run L (.ex 0) 0 [] L.length t [i]∧i=(t.length:Int) - 1
 pos:0 < t.length
 len:t.length≤60
 good:Good s.length t
theorem xk4 {N:Nat}(hN:1000000≤N){s:List UInt8}(hs:s.length≤65536):Tells (wf0 N s) fun r=>r.2.2.1=0→Rd N s r.1:=by
 refine (u86 (M:=100000) (by omega) ⟨by omega,by omega⟩ hs).mono fun r hr h0=>?_
 obtain ⟨k1,L,p,i,k2,k3,k4⟩:=hr h0
 have hrun:=Run.ok k3 k4 (by omega) trivial
 obtain ⟨X,hX,_,hG⟩:=hrun.pre
 rw [List.nil_append] at hX
 obtain ⟨g1,g2,_⟩:=hrun.out
 simp only [List.cons.injEq,and_true] at g1
 have hl:=Lex_is (by omega) k2 rfl
 refine ⟨⟨L.map bare,i,hl,?_,g1⟩,by simpa using g2,k1,by rw [hX]; exact hG⟩
 rw [List.length_map]
 exact k4.bare
theorem Rd.nodes {N n:Nat}{s:List UInt8}{t:List q20}(h:Rd N s t)(hs:s.length≤n)(hn:n≤100000):∀ x ∈ t,VOK n x.2.1∧x.2.2.2.1.length≤100000:=fun x hx=>by
 obtain ⟨⟨a1,a2,a3⟩,_⟩:=h.good x hx
 exact ⟨a1.up hs,by omega⟩
theorem read_err {N:Nat}{s:List UInt8}{r:(List q20)×qi2×Int×Unit}(h:wf0 N s=some r)(h0:r.2.2.1≠0):r.1=[]:=by
 unfold wf0 x33 at h
 cases hl:jk4 N s with
 | none=>rw [hl] at h; cases h
 | some l =>
  rw [hl,Option.bind_some] at h
  by_cases c:l.2.2.1=0
  ·have e:(l.2.2.1 != 0)=false:=by simpa using c
   rw [e,cond_false] at h
   cases hp:y83 N l.1 0 with
   | none=>rw [hp] at h; cases h
   | some p =>
    rw [hp,Option.bind_some] at h
    have b2:∀ (a b c d:Int) ,at1 N (zh7 N l.1 a b c d)=some r→r.1=[]:=fun a b c d h=>by
     cases N with
     | zero=>cases h
     | succ N =>
      unfold at1 zh7 at h
      dsimp only at h
      by_cases q:a < (l.1.length:Int)
      ·rw [decide_eq_true q,cond_true] at h
       cases q2:inR a l.1.length with
       | false=>rw [q2] at h; cases h
       | true=>rw [q2,cond_true] at h; cases h; rfl
      ·rw [decide_eq_false q,cond_false] at h
       cases q2:j65 (N + 1) l.1 with
       | none=>rw [q2] at h; cases h
       | some z=>rw [q2,Option.bind_some] at h; cases h; rfl
    have b1:∀ (a b c d:Int) ,at1 N (wg2 N l.1 a b c d ())=some r→r.1=[]:=fun a b c d h=>by
     cases hN:N with
     | zero=>rw [hN] at h; cases h
     | succ M =>
      have h:wg2 N l.1 a b c d ()=some r:=by rw [qb8 (by omega)] at h; exact h
      unfold wg2 j85 at h
      dsimp only at h
      by_cases q:a=0
      ·have e:(a == 0)=true:=by simpa using q
       rw [e,cond_true] at h; exact b2 _ _ _ _ h
      ·have e:(a == 0)=false:=by simpa using q
       rw [e,cond_false] at h; exact b2 _ _ _ _ h
    dsimp only at h
    by_cases q:p.2.2.1=0
    ·have e:(p.2.2.1 == 0)=true:=by simpa using q
     rw [e,cond_true] at h
     by_cases q2:p.2.1=(l.1.length:Int)
     ·have e2:(p.2.1 == (l.1.length:Int))=true:=by simpa using q2
      rw [e2,cond_true] at h
      cases h
      exact absurd rfl h0
     ·have e2:(p.2.1 == (l.1.length:Int))=false:=by simpa using q2
      rw [e2,cond_false] at h
      exact b1 _ _ _ _ h
    ·have e:(p.2.2.1 == 0)=false:=by simpa using q
     rw [e,cond_false] at h
     exact b1 _ _ _ _ h
  ·have e:(l.2.2.1 != 0)=true:=by simpa using c
   rw [e,cond_true] at h
   cases h
   rfl
theorem ex_down {C:List q33}{p:Int}{T:List q20}{m:Int}(hn:m≤2∨nx C p≠[110,111,116])(hm:m≤6∨nx C p≠[45])(h7:m≤7):∀ (n:Nat) (k:Int) {b:Int} {T':List q20} {o:List Int},k=m - n→0≤k →
  (∀ b T1 o1,Run C (.ex m) p T b T1 o1→∀ l,k≤l→l < m→ifx l (nx C b)=0)→Run C (.ex k) p T b T' o→Run C (.ex m) p T b T' o
 | 0,k,b,T',o,e,_,_,h=>by
  have:k=m:=by omega
  subst this
  exact h
 | n + 1,k,b,T',o,e,h0,hs,h=>by
  obtain ⟨a1,T1,i,h1,h2⟩:=kh3 (by omega) (fun h=>by rcases hn with h3 | h3; omega; exact h3 h.2) (fun h=>by rcases hm with h3 | h3; omega; exact h3 h.2) h
  have h3:=ex_down hn hm h7 n (k + 1) (by omega) (by omega) (fun b T1 o1 hb l hl=>hs b T1 o1 hb l (by omega)) h1
  obtain ⟨rfl,rfl,rfl⟩:=uf0 (hs _ _ _ h3 k (by omega) (by omega)) h2
  exact h3
def qm0 (C:List q33)(m:yf9)(p q:Int)(Q:List q20→List q20→Int→Prop):Prop:=∀ T b T' o,Run C m p T b T' o→b=q∧∃ i,o=[i]∧Q T T' i
theorem qm0.down {C:List q33}{p q k m:Int}{Q:List q20→List q20→Int→Prop}(h:qm0 C (.ex m) p q Q)(hn:m≤2∨nx C p≠[110,111,116])(hm:m≤6∨nx C p≠[45])(h7:m≤7)(hk:0≤k)(hkm:k≤m)(hs:∀ l,k≤l→l < m→ifx l (nx C q)=0):qm0 C (.ex k) p q Q:=fun T b T' o hr =>
 h T b T' o (ex_down hn hm h7 (m - k).toNat k (by omega) hk (fun b T1 o1 hb l l1 l2=>by rw [(h T b T1 o1 hb).1]; exact hs l l1 l2) hr)
theorem qm0.atom {C:List q33}{p q:Int}{Q:List q20→List q20→Int→Prop}(h:qm0 C .at_ p q Q):qm0 C (.ex 7) p q Q:=fun T b T' o hr=>by
 obtain ⟨i,rfl,hr2⟩:=inv_ex7 hr
 exact h T b T' _ hr2
def BinQ (op:Int)(Q1 Q2:List q20→List q20→Int→Prop)(T T':List q20)(k:Int):Prop:=∃ T1 T2 i j pl,Q1 T T1 i∧Q2 T1 T2 j∧T'=T2 ++ [nd op v0 [] [i,j] pl]∧k=T2.length
def NotQ (Q:List q20→List q20→Int→Prop)(T T':List q20)(k:Int):Prop:=∃ T1 i pl,Q T T1 i∧T'=T1 ++ [nd 6 v0 [] [i] pl]∧k=T1.length
theorem qm0.bin {C:List q33}{p p1 p2 l op:Int}{Q1 Q2:List q20→List q20→Int→Prop}(h1:qm0 C (.ex (l + 1)) p p1 Q1)(h2:qm0 C (.ex (l + 1)) (p1 + 1) p2 Q2)(hl:0≤l)(hl7:l < 7)(hl2:l≠2)(hl6:l≠6)(hop:ifx l (nx C p1)=op)(h0:op≠0)(he:l=3∨ifx l (nx C p2)=0):
  qm0 C (.ex l) p p2 (BinQ op Q1 Q2):=fun T b T' o hr=>by
 obtain ⟨a1,T1,i,r1,r2⟩:=kh3 (by omega) (fun h=>hl2 h.1) (fun h=>hl6 h.1) hr
 obtain ⟨rfl,i',e1,q1⟩:=h1 _ _ _ _ r1
 simp only [List.cons.injEq,and_true] at e1
 subst e1
 by_cases h3:l=3
 ·subst h3
  obtain ⟨T2,j,pl,r3,rfl,rfl⟩:=inv_cmp (by rw [hop]; exact h0) r2
  obtain ⟨rfl,j',e2,q2⟩:=h2 _ _ _ _ r3
  simp only [List.cons.injEq,and_true] at e2
  subst e2
  rw [hop]
  exact ⟨rfl,_,rfl,T1,T2,i,j,pl,q1,q2,rfl,rfl⟩
 ·obtain ⟨a2,T2,j,pl,r3,r4⟩:=kk0 h3 (by rw [hop]; exact h0) r2
  obtain ⟨rfl,j',e2,q2⟩:=h2 _ _ _ _ r3
  simp only [List.cons.injEq,and_true] at e2
  subst e2
  obtain ⟨rfl,rfl,rfl⟩:=uf0 (by rcases he with h | h; exact absurd h h3; exact h) r4
  rw [hop]
  exact ⟨rfl,_,rfl,T1,T2,i,j,pl,q1,q2,rfl,rfl⟩
theorem qm0.not {C:List q33}{p q:Int}{Q:List q20→List q20→Int→Prop}(hx:nx C p=[110,111,116])(h:qm0 C (.ex 2) (p + 1) q Q):qm0 C (.ex 2) p q (NotQ Q):=fun T b T' o hr=>by
 obtain ⟨T0,i,pl,rfl,rfl,r⟩:=inv_not hx hr
 obtain ⟨rfl,i',e,q1⟩:=h _ _ _ _ r
 simp only [List.cons.injEq,and_true] at e
 subst e
 exact ⟨rfl,_,rfl,T0,i,pl,q1,rfl,rfl⟩
theorem qm0.paren {C:List q33}{p q:Int}{Q:List q20→List q20→Int→Prop}(hk:(q25 C p q31).1=7)(h:qm0 C (.ex 0) (p + 1) q Q):qm0 C .at_ p (q + 1) Q:=fun T b T' o hr=>by
 obtain ⟨b0,i,_,r,_,rfl,rfl⟩:=vh4 hk hr
 obtain ⟨rfl,i',e,q1⟩:=h _ _ _ _ r
 exact ⟨rfl,i',e,q1⟩
def ym9 (t1:List q20)(i1:Int)(T T':List q20)(i:Int):Prop:=∃ Y,T'=T ++ Y∧Y.map (shN 0)=t1.map (shN (T.length:Int))∧i=i1 + T.length
theorem qm0.text {L1 A B:List q33}{t1:List q20}{i1:Int}(hr:Run L1 (.ex 0) 0 [] L1.length t1 [i1]){p:Int}(hp:p=A.length):qm0 (A ++ tk 7 [40] v0 :: (L1 ++ tk 7 [41] v0 :: B)) .at_ p (p + L1.length + 2) (ym9 t1 i1):=fun T b T' o h=>by
 obtain ⟨h1,⟨Y,h2,h3⟩,h4⟩:=par_run hr hp h
 exact ⟨h1,_,h4,Y,h2,h3,rfl⟩
theorem ifx_and {l:Int}(h:l≠1):ifx l [97,110,100]=0:=by unfold ifx; simp [h]
theorem ifx_or {l:Int}(h:l≠0):ifx l [111,114]=0:=by unfold ifx; simp [h]
theorem ifx_cmp {l:Int}{s:List UInt8}(h:l≠3)(hs:s=[61]∨s=[60,62]∨s=[60]∨s=[62,61]):ifx l s=0:=by unfold ifx; rcases hs with rfl | rfl | rfl | rfl <;> simp [h]
theorem nx_end (C:List q33){p:Int}(h:p=C.length):nx C p=[]:=by subst h; unfold nx; simp
abbrev tL :q33:=tk 7 [40] v0
abbrev tR :q33:=tk 7 [41] v0
abbrev vb0 :q33:=tk 1 [110,111,116] v0
def par (L:List q33):List q33:=tL :: (L ++ [tR])
theorem zx0 (L:List q33):((par L).length:Int)=L.length + 2:=by simp [par]; omega
section
variable {L1 L2:List q33} {t1 t2:List q20} {i1 i2:Int} (h1:Run L1 (.ex 0) 0 [] L1.length t1 [i1]) (h2:Run L2 (.ex 0) 0 [] L2.length t2 [i2])
theorem qm0.opnd {L1 A B:List q33}{t1:List q20}{i1:Int}(h1:Run L1 (.ex 0) 0 [] L1.length t1 [i1]){p q:Int}(hp:p=A.length)(hq:q=p + L1.length + 2){k:Int}(hk:0≤k)(hk7:k≤7)(hs:∀ l,k≤l→l < 7→ifx l (nx (A ++ par L1 ++ B) q)=0):qm0 (A ++ par L1 ++ B) (.ex k) p q (ym9 t1 i1):=by
 have e:A ++ par L1 ++ B=A ++ tL :: (L1 ++ tR :: B):=by simp [par]
 rw [e] at hs ⊢
 have hx:nx (A ++ tL :: (L1 ++ tR :: B)) p=[40]:=y70 hp (.inr rfl)
 have:=qm0.text (B:=B) h1 hp
 rw [← hq] at this
 exact this.atom.down (.inr (by rw [hx]; simp)) (.inr (by rw [hx]; simp)) (by omega) hk hk7 hs
include h1 h2
theorem cmp_run {s:List UInt8}(hs:s=[61]∨s=[60,62]∨s=[60]∨s=[62,61])(h0:ifx 3 s≠0)(A B:List q33)(p q:Int)(hp:p=A.length)(hq:q=p + L1.length + 2 + 1 + L2.length + 2)(hend:∀ l,ifx l (nx (A ++ par L1 ++ tk 7 s v0 :: (par L2 ++ B)) q)=0):
  qm0 (A ++ par L1 ++ tk 7 s v0 :: (par L2 ++ B)) (.ex 0) p q (BinQ (ifx 3 s) (ym9 t1 i1) (ym9 t2 i2)):=by
 have l1:=zx0 L1
 have l2:=zx0 L2
 have hx1:nx (A ++ par L1 ++ tk 7 s v0 :: (par L2 ++ B)) (p + L1.length + 2)=s:=y70 (by simp only [List.length_append]; omega) (.inr rfl)
 have m1:=qm0.opnd (A:=A) (B:=tk 7 s v0 :: (par L2 ++ B)) h1 hp rfl (k:=4) (by omega) (by omega) (fun l a b=>by rw [hx1]; exact ifx_cmp (by omega) hs)
 have e:A ++ par L1 ++ tk 7 s v0 :: (par L2 ++ B)=(A ++ par L1 ++ [tk 7 s v0]) ++ par L2 ++ B:=by simp
 have m2:=qm0.opnd (A:=A ++ par L1 ++ [tk 7 s v0]) (B:=B) h2 (p:=p + L1.length + 2 + 1) (q:=q) (by simp only [List.length_append,List.length_singleton]; omega) hq (k:=4) (by omega) (by omega) (fun l a b=>by rw [← e]; exact hend l)
 rw [← e] at m2
 have hx0:nx (A ++ par L1 ++ tk 7 s v0 :: (par L2 ++ B)) p=[40]:=by
  have e2:A ++ par L1 ++ tk 7 s v0 :: (par L2 ++ B)=A ++ tL :: (L1 ++ tR :: (tk 7 s v0 :: (par L2 ++ B))):=by simp [par]
  rw [e2]
  exact y70 hp (.inr rfl)
 have m3:=qm0.bin (l:=3) m1 m2 (by omega) (by omega) (by omega) (by omega) (by rw [hx1]) h0 (.inl rfl)
 exact m3.down (.inr (by rw [hx0]; simp)) (.inl (by omega)) (by omega) (by omega) (by omega) fun l _ _=>hend l
theorem not_run {C:List q33}{q:Int}{Q:List q20→List q20→Int→Prop}(c0:nx C 0=[110,111,116])(c1:(q25 C 1 q31).1=7)(c1':nx C 1=[40])(hq:q + 1=C.length)(h:qm0 C (.ex 0) 2 q Q):qm0 C (.ex 0) 0 C.length (NotQ Q):=by
 have hend:∀ l,ifx l (nx C (q + 1))=0:=fun l=>by rw [nx_end C hq]; exact y88 l (.inr (.inr rfl))
 have m1:=(qm0.paren (p:=1) c1 h).atom.down (k:=2) (.inr (by rw [c1']; simp)) (.inr (by rw [c1']; simp)) (by omega) (by omega) (by omega) fun l _ _=>hend l
 have m2:=(qm0.not (p:=0) c0 m1).down (k:=0) (.inl (by omega)) (.inl (by omega)) (by omega) (by omega) (by omega) fun l _ _=>hend l
 rw [← hq]
 exact m2
def kw3 (L1 L2:List q33):List q33:=[vb0,tL] ++ par L1 ++ tk 1 [97,110,100] v0 :: (par L2 ++ [tR])
theorem and_run :qm0 (kw3 L1 L2) (.ex 0) 0 (kw3 L1 L2).length (NotQ (BinQ 5 (ym9 t1 i1) (ym9 t2 i2))):=by
 have l1:=zx0 L1
 have l2:=zx0 L2
 have hx1:nx (kw3 L1 L2) (2 + L1.length + 2)=[97,110,100]:=y70 (by simp only [List.length_append,List.length_cons,List.length_nil]; omega) (.inl rfl)
 have e:kw3 L1 L2=([vb0,tL] ++ par L1 ++ [tk 1 [97,110,100] v0]) ++ par L2 ++ [tR]:=by simp [kw3]
 have e3:kw3 L1 L2=([vb0,tL] ++ par L1 ++ [tk 1 [97,110,100] v0] ++ par L2) ++ tR :: []:=by simp [kw3]
 have hxe:nx (kw3 L1 L2) (2 + L1.length + 2 + 1 + L2.length + 2)=[41]:=by
  rw [e3]; exact y70 (by simp only [List.length_append,List.length_cons,List.length_nil]; omega) (.inr rfl)
 have hend:∀ l,ifx l (nx (kw3 L1 L2) (2 + L1.length + 2 + 1 + L2.length + 2))=0:=fun l=>by rw [hxe]; exact y88 l (.inr (.inl rfl))
 have m1:qm0 (kw3 L1 L2) (.ex 2) 2 (2 + L1.length + 2) (ym9 t1 i1):=qm0.opnd (A:=[vb0,tL]) (B:=tk 1 [97,110,100] v0 :: (par L2 ++ [tR])) h1 (p:=2) rfl rfl (by omega) (by omega) (fun l a b=>by
  show ifx l (nx (kw3 L1 L2) (2 + L1.length + 2))=0
  rw [hx1]; exact ifx_and (by omega))
 have m2:=qm0.opnd (A:=[vb0,tL] ++ par L1 ++ [tk 1 [97,110,100] v0]) (B:=[tR]) h2 (p:=2 + L1.length + 2 + 1) (q:=2 + L1.length + 2 + 1 + L2.length + 2) (by simp only [List.length_append,List.length_cons,List.length_nil]; omega) rfl (k:=2) (by omega) (by omega) (fun l a b=>by rw [← e]; exact hend l)
 rw [← e] at m2
 have m3:=qm0.bin (l:=1) (op:=5) m1 m2 (by omega) (by omega) (by omega) (by omega) (by rw [hx1]; rfl) (by omega) (.inr (hend 1))
 have m4:=m3.down (k:=0) (.inl (by omega)) (.inl (by omega)) (by omega) (by omega) (by omega) fun l _ _=>hend l
 refine not_run h1 h2 (y70 (A:=[]) rfl (.inl rfl)) rfl (y70 (A:=[vb0]) rfl (.inr rfl)) ?_ m4
 rw [e3]
 simp only [List.length_append,List.length_cons,List.length_nil]
 omega
def orT (L1 L2:List q33):List q33:=[tL,vb0] ++ par L1 ++ tk 1 [111,114] v0 :: vb0 :: (par L2 ++ [tR])
theorem or_run :qm0 (orT L1 L2) (.ex 0) 0 (orT L1 L2).length (BinQ 4 (NotQ (ym9 t1 i1)) (NotQ (ym9 t2 i2))):=by
 have l1:=zx0 L1
 have l2:=zx0 L2
 have hx1:nx (orT L1 L2) (2 + L1.length + 2)=[111,114]:=y70 (by simp only [List.length_append,List.length_cons,List.length_nil]; omega) (.inl rfl)
 have e:orT L1 L2=([tL,vb0] ++ par L1 ++ [tk 1 [111,114] v0,vb0]) ++ par L2 ++ [tR]:=by simp [orT]
 have e2:orT L1 L2=([tL,vb0] ++ par L1 ++ [tk 1 [111,114] v0]) ++ vb0 :: (par L2 ++ [tR]):=by simp [orT]
 have e3:orT L1 L2=([tL,vb0] ++ par L1 ++ [tk 1 [111,114] v0,vb0] ++ par L2) ++ tR :: []:=by simp [orT]
 have hxe:nx (orT L1 L2) (2 + L1.length + 2 + 1 + 1 + L2.length + 2)=[41]:=by
  rw [e3]; exact y70 (by simp only [List.length_append,List.length_cons,List.length_nil]; omega) (.inr rfl)
 have hxn:nx (orT L1 L2) (2 + L1.length + 2 + 1)=[110,111,116]:=by
  rw [e2]; exact y70 (by simp only [List.length_append,List.length_cons,List.length_nil]; omega) (.inl rfl)
 have hend:∀ l,ifx l (nx (orT L1 L2) (2 + L1.length + 2 + 1 + 1 + L2.length + 2))=0:=fun l=>by rw [hxe]; exact y88 l (.inr (.inl rfl))
 have m1:qm0 (orT L1 L2) (.ex 2) 2 (2 + L1.length + 2) (ym9 t1 i1):=qm0.opnd (A:=[tL,vb0]) (B:=tk 1 [111,114] v0 :: vb0 :: (par L2 ++ [tR])) h1 (p:=2) rfl rfl (by omega) (by omega) (fun l a b=>by
  show ifx l (nx (orT L1 L2) (2 + L1.length + 2))=0
  rw [hx1]; exact ifx_or (by omega))
 have m1':=(qm0.not (p:=1) (y70 (A:=[tL]) rfl (.inl rfl)) m1).down (k:=1) (.inl (by omega)) (.inl (by omega)) (by omega) (by omega) (by omega) (fun l a b=>by rw [hx1]; exact ifx_or (by omega))
 have m2:=qm0.opnd (A:=[tL,vb0] ++ par L1 ++ [tk 1 [111,114] v0,vb0]) (B:=[tR]) h2 (p:=2 + L1.length + 2 + 1 + 1) (q:=2 + L1.length + 2 + 1 + 1 + L2.length + 2) (by simp only [List.length_append,List.length_cons,List.length_nil]; omega) rfl (k:=2) (by omega) (by omega) (fun l a b=>by rw [← e]; exact hend l)
 rw [← e] at m2
 have m2':=(qm0.not hxn m2).down (k:=1) (.inl (by omega)) (.inl (by omega)) (by omega) (by omega) (by omega) (fun l _ _=>hend l)
 have m3:=qm0.bin (l:=0) (op:=4) m1' m2' (by omega) (by omega) (by omega) (by omega) (by rw [hx1]; rfl) (by omega) (.inr (hend 0))
 have hlen:(2 + L1.length + 2 + 1 + 1 + L2.length + 2:Int) + 1=(orT L1 L2).length:=by
  rw [e3]
  simp only [List.length_append,List.length_cons,List.length_nil]
  omega
 have m4:=(qm0.paren (p:=0) (q:=2 + L1.length + 2 + 1 + 1 + L2.length + 2) rfl m3).atom.down (k:=0) (.inr (by rw [show nx (orT L1 L2) 0=[40] from y70 (A:=[]) rfl (.inr rfl)]; simp)) (.inr (by rw [show nx (orT L1 L2) 0=[40] from y70 (A:=[]) rfl (.inr rfl)]; simp)) (by omega) (by omega) (by omega) (fun l _ _=>by rw [nx_end _ hlen]; exact y88 l (.inr (.inr rfl)))
 rw [hlen] at m4
 exact m4
def opT (s:List UInt8)(L1 L2:List q33):List q33:=[] ++ par L1 ++ tk 7 s v0 :: (par L2 ++ [])
theorem op_run {s:List UInt8}(hs:s=[61]∨s=[60,62]∨s=[60]∨s=[62,61])(h0:ifx 3 s≠0):qm0 (opT s L1 L2) (.ex 0) 0 (opT s L1 L2).length (BinQ (ifx 3 s) (ym9 t1 i1) (ym9 t2 i2)):=by
 have l1:=zx0 L1
 have l2:=zx0 L2
 have hl:((opT s L1 L2).length:Int)=0 + L1.length + 2 + 1 + L2.length + 2:=by
  unfold opT
  simp only [List.length_append,List.length_cons,List.length_nil]
  omega
 exact cmp_run h1 h2 hs h0 [] [] 0 _ rfl hl (fun l=>by
  show ifx l (nx (opT s L1 L2) _)=0
  rw [nx_end _ rfl]; exact y88 l (.inr (.inr rfl)))
def noT (s:List UInt8)(L1 L2:List q33):List q33:=[vb0,tL] ++ par L1 ++ tk 7 s v0 :: (par L2 ++ [tR])
theorem no_run {s:List UInt8}(hs:s=[61]∨s=[60,62]∨s=[60]∨s=[62,61])(h0:ifx 3 s≠0):qm0 (noT s L1 L2) (.ex 0) 0 (noT s L1 L2).length (NotQ (BinQ (ifx 3 s) (ym9 t1 i1) (ym9 t2 i2))):=by
 have l1:=zx0 L1
 have l2:=zx0 L2
 have e3:noT s L1 L2=([vb0,tL] ++ par L1 ++ [tk 7 s v0] ++ par L2) ++ tR :: []:=by simp [noT]
 have hxe:nx (noT s L1 L2) (2 + L1.length + 2 + 1 + L2.length + 2)=[41]:=by
  rw [e3]; exact y70 (by simp only [List.length_append,List.length_cons,List.length_nil]; omega) (.inr rfl)
 have m:=cmp_run h1 h2 hs h0 [vb0,tL] [tR] 2 _ rfl rfl (fun l=>by
  show ifx l (nx (noT s L1 L2) _)=0
  rw [hxe]; exact y88 l (.inr (.inl rfl)))
 refine not_run h1 h2 (y70 (A:=[]) rfl (.inl rfl)) rfl (y70 (A:=[vb0]) rfl (.inr rfl)) ?_ m
 show _=((noT s L1 L2).length:Int)
 rw [e3]
 simp only [List.length_append,List.length_cons,List.length_nil]
 omega
end
end Go.Proofs.YtgicljncknbgcaaGreat.Abs
