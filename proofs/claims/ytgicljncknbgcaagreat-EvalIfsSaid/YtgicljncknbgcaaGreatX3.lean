/- EvalIfs: words and answers of 'if' with two texts in it. -/
import Derived.Test.YtgicljncknbgcaaGreatX2
import Derived.Test.YtgicljncknbgcaaGreatN1
import Derived.Test.YtgicljncknbgcaaGreatG7
set_option linter.unusedVariables false
set_option linter.unusedSimpArgs false
set_option linter.unusedSectionVars false
namespace Go.Proofs.YtgicljncknbgcaaGreat.Abs
open Go
theorem sign_word (N:Nat)(c:UInt8)(r:List UInt8)(h:c=40∨c=41∨c=44):jn6 N (c :: r)=some (tk 7 [c] v0,1):=by
 have hs:xy4 (c :: r)=1:=by
  unfold xy4
  rcases h with rfl | rfl | rfl <;> cases r <;> simp
 have hr:j46 (c :: r)=0:=by
  unfold j46
  rcases h with rfl | rfl | rfl <;> rfl
 have hd:qk5 c=false:=by rcases h with rfl | rfl | rfl <;> rfl
 unfold jn6
 dsimp only
 rw [hr,hs,hd]
 rcases h with rfl | rfl | rfl <;> rfl
theorem Lx.sign {N:Nat}{c:UInt8}{r:List UInt8}{l:List q36}(h:c=40∨c=41∨c=44)(k:Lx N r l):Lx N (c :: r) (tk 7 [c] v0 :: l) :=
 .tok (by rcases h with rfl | rfl | rfl <;> decide) (by rcases h with rfl | rfl | rfl <;> decide) (by rcases h with rfl | rfl | rfl <;> decide) (sign_word N c r h) k
def v36 (s t:List UInt8):List UInt8:=(((([44,32,40]:List UInt8) ++ s) ++ ([10,41,44,32,40]:List UInt8)) ++ t) ++ ([10,41,41]:List UInt8)
theorem ifRest_eq (s t:List UInt8):v36 s t=44 :: 32 :: 40 :: (s ++ 10 :: 41 :: 44 :: 32 :: 40 :: (t ++ 10 :: 41 :: 41 :: [])):=by simp [v36]
theorem if_lex {N:Nat}{s t cw:List UInt8}{l1 l2:List q36}{c:q36}(h1:Lx N s l1)(h2:Lx N t l2)(hcw:∀ r l,Lx N (44 :: r) l→Lx N (cw ++ 44 :: r) (c :: l)):Lx N (105 :: 102 :: 40 :: (cw ++ v36 s t)) (zi1 c l1 l2):=by
 unfold zi1
 refine .tok (n:=2) (by decide) (by decide) (by decide) rfl ?_
 show Lx N (40 :: (cw ++ v36 s t)) _
 refine .sign (.inl rfl) ?_
 rw [ifRest_eq]
 refine hcw _ _ (.sign (.inr (.inr rfl)) (.space (.sign (.inl rfl) ?_)))
 have e:Lx N (t ++ 10 :: 41 :: 41 :: []) (l2 ++ [tk 7 [41] v0,tk 7 [41] v0]):=h2.line_app (.sign (.inr (.inl rfl)) (.sign (.inr (.inl rfl)) .done))
 exact h1.line_app (.sign (.inr (.inl rfl)) (.sign (.inr (.inr rfl)) (.space (.sign (.inl rfl) e))))
section
variable {N:Nat} {self:q00} {vars:List q43} {t1 t2:List q23} {l1 l2:List q03} {vc:q00} {B:Nat}
theorem k19 {α:Type}(l:List α)(d:α)(h:0 < l.length):l.getLastD d=q24 l ((l.length:Int) - 1) d:=by
 have e:((l.length:Int) - 1)=((l.length - 1:Nat):Int):=by omega
 rw [e,ql8 (by omega)]
 cases l with
 | nil=>simp at h
 | cons a l =>
  rw [List.getLastD_cons]
  simp only [List.length_cons,Nat.add_sub_cancel]
  cases l with
  | nil=>rfl
  | cons b l=>simp [List.getLastD,List.getLast_eq_getElem]
theorem if_eval (hN:1000000 < N)(hB:B≤4294967280)(g1:∀ x ∈ t1,∀ k ∈ x.2.2.2.1,0≤k)(g2:∀ x ∈ t2,∀ k ∈ x.2.2.2.1,0≤k)(e1:yx4 N self vars t1 t1.length=some l1)(e2:yx4 N self vars t2 t2.length=some l2)
  (v1:∀ a ∈ l1,VOK B a.1) (v2:∀ a ∈ l2,VOK B a.1) (hv:VOK B vc) (n1:0 < t1.length) (n2:0 < t2.length) {Y1 Y2:List q23} {pl0 pl:qi7} (y1:Y1.map (shN 0)=t1.map (shN 1)) (y2:Y2.map (shN 0)=t2.map (shN (1 + t1.length)))
  {t:List q23} (ht:t=[nd 1 vc [] [] pl0] ++ Y1 ++ Y2 ++ [nd 26 v0 [] [0,(t1.length:Int),(t2.length:Int) + t1.length] pl]) :
  ∃ l,yx4 N self vars t t.length=some l∧l.getLastD a0=ifA (wk4 vc) (l1.getLastD a0) (l2.getLastD a0):=by
 have ly1:Y1.length=t1.length:=by have:=congrArg List.length y1; simpa using this
 have ly2:Y2.length=t2.length:=by have:=congrArg List.length y2; simpa using this
 have ll1:=y68 e1
 have ll2:=y68 e2
 have s0:yx4 N self vars t 1=some [wk4 vc]:=by
  subst ht
  rfl
 have s1:yx4 N self vars t (1 + t1.length)=some ([wk4 vc] ++ l1):=by
  have e:t=[nd 1 vc [] [] pl0] ++ Y1 ++ (Y2 ++ [nd 26 v0 [] [0,(t1.length:Int),(t2.length:Int) + t1.length] pl]):=by rw [ht,List.append_assoc]
  rw [e] at s0 ⊢
  have:=ub1 (A:=[nd 1 vc [] [] pl0]) s0 y1 g1 t1.length (Nat.le_refl _)
  rw [e1] at this
  exact this
 have s2:yx4 N self vars t (1 + t1.length + t2.length)=some ([wk4 vc] ++ l1 ++ l2):=by
  have lA:([nd 1 vc [] [] pl0] ++ Y1).length=1 + t1.length:=by simp; omega
  rw [ht] at s1 ⊢
  rw [← lA] at s1
  have:=ub1 (A:=[nd 1 vc [] [] pl0] ++ Y1) (Y:=Y2) (X:=t2) s1 (by rw [lA,y2]; congr 1) g2 t2.length (Nat.le_refl _)
  rw [e2,lA] at this
  exact this
 have lt:t.length=1 + t1.length + t2.length + 1:=by rw [ht]; simp; omega
 have last:q24 t ((1 + t1.length + t2.length:Nat):Int) qd6=nd 26 v0 [] [0,(t1.length:Int),(t2.length:Int) + t1.length] pl:=by
  rw [ht]
  exact k98 (by simp; omega)
 have all:∀ a ∈ [wk4 vc] ++ l1 ++ l2,VOK B a.1:=fun a ha=>by
  simp only [List.mem_append,List.mem_singleton] at ha
  rcases ha with (rfl | ha) | ha
  ·exact xz1 hv
  ·exact v1 a ha
  ·exact v2 a ha
 have lall:([wk4 vc] ++ l1 ++ l2).length=1 + t1.length + t2.length:=by simp; omega
 have k0:xy6 ([wk4 vc] ++ l1 ++ l2) (1 + t1.length + t2.length) 0=wk4 vc:=by
  unfold xy6
  rw [if_pos (by omega)]
  rfl
 have k1:xy6 ([wk4 vc] ++ l1 ++ l2) (1 + t1.length + t2.length) (t1.length:Int)=l1.getLastD a0:=by
  unfold xy6
  rw [if_pos (by omega),k19 l1 a0 (by omega)]
  have e:(t1.length:Int)=((1 + (t1.length - 1):Nat):Int):=by omega
  have e':(l1.length:Int) - 1=((t1.length - 1:Nat):Int):=by omega
  rw [e,e']
  unfold q24
  rw [Int.toNat_natCast,Int.toNat_natCast,List.getD_eq_getElem?_getD,List.getD_eq_getElem?_getD,List.append_assoc,List.getElem?_append_right (by simp),List.getElem?_append_left (by simp; omega)]
  simp
 have k2:xy6 ([wk4 vc] ++ l1 ++ l2) (1 + t1.length + t2.length) ((t2.length:Int) + t1.length)=l2.getLastD a0:=by
  unfold xy6
  rw [if_pos (by omega),k19 l2 a0 (by omega)]
  have e:(t2.length:Int) + t1.length=((1 + t1.length + (t2.length - 1):Nat):Int):=by omega
  have e':(l2.length:Int) - 1=((t2.length - 1:Nat):Int):=by omega
  rw [e,e']
  unfold q24
  rw [Int.toNat_natCast,Int.toNat_natCast,List.getD_eq_getElem?_getD,List.getD_eq_getElem?_getD,List.getElem?_append_right (by simp; omega)]
  simp only [List.length_append,List.length_singleton]
  rw [show 1 + t1.length + (t2.length - 1) - (1 + l1.length)=t2.length - 1 by omega]
 have kok:KOK B (xi6 t ([wk4 vc] ++ l1 ++ l2) (1 + t1.length + t2.length) [0,(t1.length:Int),(t2.length:Int) + t1.length]):=by
  refine ⟨fun a ha=>?_,by simp [xi6]⟩
  obtain ⟨x,_,rfl⟩:=List.mem_map.1 ha
  unfold xy6
  split
  ·exact all _ (wj2 (by omega) (by omega))
  ·exact qh7 B
 rw [lt]
 refine ⟨([wk4 vc] ++ l1 ++ l2) ++ [ifA (wk4 vc) (l1.getLastD a0) (l2.getLastD a0)],?_,List.getLastD_concat ..⟩
 simp only [yx4,s2,Option.bind_some]
 rw [last]
 unfold v42
 rw [if_neg (by simp [vr8]),opO_is hN kok hB 26 (by omega) (by omega)]
 have:opF 26 (xi6 t ([wk4 vc] ++ l1 ++ l2) (1 + t1.length + t2.length) [0,(t1.length:Int),(t2.length:Int) + t1.length])=ifA (xy6 ([wk4 vc] ++ l1 ++ l2) (1 + t1.length + t2.length) 0) (xy6 ([wk4 vc] ++ l1 ++ l2) (1 + t1.length + t2.length) (t1.length:Int)) (xy6 ([wk4 vc] ++ l1 ++ l2) (1 + t1.length + t2.length) ((t2.length:Int) + t1.length)):=rfl
 rw [this,k0,k1,k2]
 rfl
end
end Go.Proofs.YtgicljncknbgcaaGreat.Abs
namespace Go.Proofs.YtgicljncknbgcaaGreat.Abs
theorem known10 :qw2 2000000=some true:=by kernel_rfl
open Go
theorem qt6 :Tells ((qw2 2000000).bind fun r=>some r) fun r=>r=true:=by rw [known10]; exact Tells.some rfl
theorem VOK.up {n m:Nat}{v:q00}(h:VOK n v)(k:n≤m):VOK m v:=⟨h.1,h.2.1,h.2.2.1,Nat.le_trans h.2.2.2 k⟩
structure Rd (N:Nat) (s:List UInt8) (t:List q23):Prop where
 ex:∃ L i,Lx N s L∧Run L (.ex 0) 0 [] L.length t [i]∧i=(t.length:Int) - 1
 pos:0 < t.length
 len:t.length≤60
 good:Good s.length t
theorem xh3 {N:Nat}(hN:1000000≤N){s:List UInt8}(hs:s.length≤65536):Tells (z45 N s) fun r=>r.2.2.1=0→Rd N s r.1:=by
 refine (u49 (M:=100000) (by omega) ⟨by omega,by omega⟩ hs).mono fun r hr h0=>?_
 obtain ⟨k1,L,p,i,k2,k3,k4⟩:=hr h0
 have hrun:=Run.ok k3 k4 (by omega) trivial
 obtain ⟨X,hX,_,hG⟩:=hrun.pre
 rw [List.nil_append] at hX
 obtain ⟨g1,g2,_⟩:=hrun.out
 simp only [List.cons.injEq,and_true] at g1
 have hl:=Lex_is (by omega) k2 rfl
 refine ⟨⟨L.map bare,i,hl,?_,g1⟩,by simpa using g2,k1,by rw [hX]; exact hG⟩
 rw [List.length_map]
 exact k4.bare
theorem Rd.nodes {N n:Nat}{s:List UInt8}{t:List q23}(h:Rd N s t)(hs:s.length≤n)(hn:n≤100000):∀ x ∈ t,VOK n x.2.1∧x.2.2.2.1.length≤100000:=fun x hx=>by
 obtain ⟨⟨a1,a2,a3⟩,_⟩:=h.good x hx
 exact ⟨a1.up hs,by omega⟩
structure Cond (N:Nat) (cw:List UInt8) (c:q36) (vc:q00):Prop where
 lex:∀ r l,Lx N (44 :: r) l→Lx N (cw ++ 44 :: r) (c :: l)
 n1:nx [c] 0≠[110,111,116]
 n2:nx [c] 0≠[45]
 at_:∀ (L:List q36) (a:Int) (T:List q23) (b:Int) (T':List q23) (o:List Int),q24 L a q30=c→Run L .at_ a T b T' o→∃ pl,b=a + 1∧T'=T ++ [nd 1 vc [] [] pl]∧o=[(T.length:Int)]
 val:VOK 500 vc
 short:cw.length≤10
section
variable {N:Nat} {s t cw:List UInt8} {t1 t2:List q23} {c:q36} {vc self:q00} {vars:List q43}
theorem if_tells (hN:1000000 < N)(hs:s.length≤200)(ht:t.length≤200)(r1:Rd N s t1)(r2:Rd N t t2)(hc:Cond N cw c vc)(hself:VOK 500 self)(hvars:∀ b ∈ vars,VOK 500 b.2.1)(hv:vars.length≤40)
  {x y:q00×Int×Unit} (hx:qh4 N t1 self vars=some x) (hy:qh4 N t2 self vars=some y) :
  Tells (z45 N (105 :: 102 :: 40 :: (cw ++ v36 s t))) fun r=>r.2.2.1=0→Tells (qh4 N r.1 self vars) fun z=>z=ifA (wk4 vc) x y:=by
 have hlen:(105 :: 102 :: 40 :: (cw ++ v36 s t)).length≤500:=by
  have:=hc.short
  simp [v36]
  omega
 refine (xh3 (by omega) (by omega)).mono fun r hr h0=>?_
 have hr:=hr h0
 obtain ⟨L1,i1,a1,a2,a3⟩:=r1.ex
 obtain ⟨L2,i2,b1,b2,b3⟩:=r2.ex
 obtain ⟨L,i,c1,c2,c3⟩:=hr.ex
 have hl:L=zi1 c L1 L2:=c1.det (if_lex a1 b1 hc.lex)
 subst hl
 obtain ⟨pl0,Y1,Y2,pl,e1,e2,e3⟩:=if_run a2 b2 hc.n1 hc.n2 hc.at_ c2
 have p1:=r1.pos
 have p2:=r2.pos
 have k1:i1 + 1=(t1.length:Int):=by omega
 have k2:i2 + 1 + t1.length=(t2.length:Int) + t1.length:=by omega
 rw [k1,k2] at e1
 have ev1:EvOK N 500 t1 self vars:=⟨hN,by omega,r1.nodes (by omega) (by omega),hself,hvars⟩
 have ev2:EvOK N 500 t2 self vars:=⟨hN,by omega,r2.nodes (by omega) (by omega),hself,hvars⟩
 have ev:EvOK N 500 r.1 self vars:=⟨hN,by omega,hr.nodes hlen (by omega),hself,hvars⟩
 have q1:=r1.len
 have q2:=r2.len
 have q3:=hr.len
 obtain ⟨x',x1,l1,x2,x3,x4⟩:=j26 ev1 (by omega) (by omega)
 rw [hx] at x1
 cases x1
 obtain ⟨y',y1,l2,y2,y3,y4⟩:=j26 ev2 (by omega) (by omega)
 rw [hy] at y1
 cases y1
 obtain ⟨z,z1,l,z2,z3,z4⟩:=j26 ev (by omega) (by omega)
 obtain ⟨l',w1,w2⟩:=if_eval (B:=500) hN (by omega) (fun n hn=>(r1.good n hn).2) (fun n hn=>(r2.good n hn).2) x2 y2 x3 y3 hc.val p1 p2 e2 e3 e1
 rw [z2] at w1
 cases w1
 refine ⟨z,z1,?_⟩
 rw [z4,w2,x4,y4]
end
theorem vh3 {w:List UInt8}{vc:q00}(hl:∀ (N:Nat) r,jn6 N (w ++ 44 :: r)=some (tk 1 w v0,w.length))(h0:∃ c r,w=c :: r∧c≠32∧c≠10∧c≠59)(h1:w≠[110,111,116])(h2:w≠[45])(hc:(wx4 w).1=0)(hv:litF w=some vc)(hw:w.length≤10)(N:Nat):Cond N w (tk 1 w v0) vc:=by
 have hx:nx [tk 1 w v0] 0=w:=uj6 (A:=[]) rfl (.inl rfl)
 refine ⟨fun r l k=>?_,by rw [hx]; exact h1,by rw [hx]; exact h2,fun L a T b T' o e h=>km4 (by rw [e]) (by rw [e]; exact hc) (by rw [e]; exact hv) h,litF_ok hv 500,hw⟩
 obtain ⟨c,q,e,g1,g2,g3⟩:=h0
 have:=hl N r
 rw [e,List.cons_append] at this ⊢
 refine .tok g1 g2 g3 this ?_
 rw [← List.cons_append,List.drop_left]
 exact k
theorem condT (N:Nat):Cond N [116,114,117,101] (tk 1 [116,114,117,101] v0) (4,1,[],()):=vh3 (fun _ _=>rfl) ⟨_,_,rfl,by decide,by decide,by decide⟩ (by simp) (by simp) rfl rfl (by simp) N
theorem condF (N:Nat):Cond N [102,97,108,115,101] (tk 1 [102,97,108,115,101] v0) (4,0,[],()):=vh3 (fun _ _=>rfl) ⟨_,_,rfl,by decide,by decide,by decide⟩ (by simp) (by simp) rfl rfl (by simp) N
theorem condN (N:Nat):Cond N [110,117,108,108] (tk 1 [110,117,108,108] v0) (0,0,[],()):=vh3 (fun _ _=>rfl) ⟨_,_,rfl,by decide,by decide,by decide⟩ (by simp) (by simp) rfl rfl (by simp) N
theorem par1 :wk0 2000000 [49]=some ((1,1,[],()),0,()):=by kernel_rfl
theorem cond_one :Cond 2000000 [49] (tk 4 [49] (1,1,[],())) (1,1,[],()):=by
 have hp:parF 2000000 [49]=some (1,1,[],()):=by unfold parF; rw [par1]; rfl
 refine ⟨fun r l k=>?_,by show ([]:List UInt8)≠_; simp,by show ([]:List UInt8)≠_; simp,fun L a T b T' o e h=>?_,⟨by simp,by simp,⟨by simp,by simp⟩,by simp⟩,by simp⟩
 ·have hw:jn6 2000000 (49 :: 44 :: r)=some (tk 4 [49] (1,1,[],()),1):=by
   have hn:xx6 (49 :: 44 :: r)=1:=rfl
   have hr:j46 (49 :: 44 :: r)=0:=rfl
   have hd:qk5 49=true:=rfl
   unfold jn6
   dsimp only
   rw [hr,hn,if_neg (by omega),if_neg (by decide),if_pos hd]
   show (parF 2000000 [49]).map _=_
   rw [hp]
   rfl
  exact .tok (by decide) (by decide) (by decide) hw k
 ·have:=inv_lit (L:=L) (a:=a) (by rw [e]; show (4:Int)≤4; omega) (by rw [e]; show (4:Int)≤6; omega) h
  rw [e] at this
  exact this
theorem ifs_tells {s t:List UInt8}{self:q00}{vars:List q43}(h1:WfV self)(h2:∀ b ∈ vars,WfV b.2.1):Tells (wc3 2000000 s t self vars) fun r=>r=true:=by
 unfold wc3 j71
 refine Tells.dec (fun _=>qt6) fun c1=>Tells.dec (fun _=>qt6) fun c2=>Tells.dec (fun _=>qt6) fun c3=>Tells.dec (fun _=>qt6) fun c4=>?_
 refine Tells.iter (fun (i:Int)=>∃ k:Nat,i=k∧k≤vars.length∧∀ b ∈ vars.take k,b.2.1.2.2.1.length≤300) (fun (i:Int)=>vars.length - i.toNat) ?_ _ _ ⟨0,rfl,by omega,by simp⟩ (by omega)
 rintro K i ⟨k,rfl,q1,q3⟩ hK
 unfold ws4 zh9
 dsimp only
 refine Tells.dec (fun c=>?_) (fun c=>?_)
 ·have hk:k < vars.length:=by omega
  have ht:=yt0 vars k hk
  rw [ql8 hk]
  refine Tells.ok (qv5 (by omega) (by omega)) (Tells.dec (fun _=>qt6) (fun c6=>?_))
  refine Tells.ok (inI (by omega) (by omega)) (hK _ ⟨k + 1,by omega,by omega,fun b hb=>?_⟩ (by omega))
  rw [ht] at hb
  rcases List.mem_append.1 hb with hb | hb
  ·exact q3 b hb
  ·rw [List.mem_singleton.1 hb]; omega
 ·have hk:k=vars.length:=by omega
  subst hk
  rw [List.take_length] at q3
  have hself:VOK 500 self:=⟨h1.1,h1.2.1,h1.2.2,by omega⟩
  have hvars:∀ b ∈ vars,VOK 500 b.2.1:=fun b hb=>⟨(h2 b hb).1,(h2 b hb).2.1,(h2 b hb).2.2,by have:=q3 b hb; omega⟩
  refine Tells.bind (xh3 (N:=2000000) (by omega) (by omega)) fun ra hra=>Tells.bind (xh3 (N:=2000000) (by omega) (by omega)) fun rb hrb=>?_
  refine Tells.ite (fun _=>qt6) fun d1=>Tells.ite (fun _=>qt6) fun d2=>?_
  have r1:=hra (by simpa using d1)
  have r2:=hrb (by simpa using d2)
  have ev1:EvOK 2000000 500 ra.1 self vars:=⟨by omega,by omega,r1.nodes (by omega) (by omega),hself,hvars⟩
  have ev2:EvOK 2000000 500 rb.1 self vars:=⟨by omega,by omega,r2.nodes (by omega) (by omega),hself,hvars⟩
  have p1:=r1.len
  have p2:=r2.len
  obtain ⟨x,hx,_⟩:=j26 ev1 (by omega) (by omega)
  obtain ⟨y,hy,_⟩:=j26 ev2 (by omega) (by omega)
  refine Tells.bindE hx (Tells.bindE hy ?_)
  have cat:∀ a b:List UInt8,a.length≤1000→b.length≤1000→qt8 a b=true:=fun a b h1 h2=>catT (by omega) (by omega)
  refine Tells.ok (cat _ _ (by simp) (by omega)) (Tells.ok (cat _ _ (by simp; omega) (by simp)) (Tells.ok (cat _ _ (by simp; omega) (by omega)) (Tells.ok (cat _ _ (by simp; omega) (by simp)) (Tells.ok (cat _ _ (by simp) (by simp; omega)) (Tells.ok (cat _ _ (by simp) (by simp; omega)) (Tells.ok (cat _ _ (by simp) (by simp; omega)) (Tells.ok (cat _ _ (by simp) (by simp; omega)) ?_)))))))
  have go:=fun cw c vc (hc:Cond 2000000 cw c vc)=>if_tells (by omega) (by omega) (by omega) r1 r2 hc hself hvars (by omega) hx hy
  generalize hl:([((([105,102,40,116,114,117,101]:List UInt8) ++ ((((([44,32,40]:List UInt8) ++ s) ++ ([10,41,44,32,40]:List UInt8)) ++ t) ++ ([10,41,41]:List UInt8))),x.1,x.2.1,()),((([105,102,40,102,97,108,115,101]:List UInt8) ++ ((((([44,32,40]:List UInt8) ++ s) ++ ([10,41,44,32,40]:List UInt8)) ++ t) ++ ([10,41,41]:List UInt8))),y.1,y.2.1,()),((([105,102,40,110,117,108,108]:List UInt8) ++ ((((([44,32,40]:List UInt8) ++ s) ++ ([10,41,44,32,40]:List UInt8)) ++ t) ++ ([10,41,41]:List UInt8))),(0,0,[],()),0,()),((([105,102,40,49]:List UInt8) ++ ((((([44,32,40]:List UInt8) ++ s) ++ ([10,41,44,32,40]:List UInt8)) ++ t) ++ ([10,41,41]:List UInt8))),(0,0,[],()),8,())]:List u31)=l
  have all:∀ e ∈ l,Tells (z45 2000000 e.1) fun r=>r.2.2.1=0→Tells (qh4 2000000 r.1 self vars) fun z=>z.1=e.2.1∧z.2.1=e.2.2.1:=fun e he=>by
   have tr:ifA (wk4 (4,1,[],())) x y=x:=rfl
   have fa:ifA (wk4 (4,0,[],())) x y=y:=rfl
   have nu:ifA (wk4 (0,0,[],())) x y=((0,0,[],()),0,()):=rfl
   have on:ifA (wk4 (1,1,[],())) x y=((0,0,[],()),8,()):=rfl
   subst hl
   simp only [List.mem_cons,List.not_mem_nil,or_false] at he
   rcases he with rfl | rfl | rfl | rfl
   ·exact (go _ _ _ (condT _)).mono fun r hr h0=>(hr h0).mono fun z hz=>by rw [hz,tr]; exact ⟨rfl,rfl⟩
   ·exact (go _ _ _ (condF _)).mono fun r hr h0=>(hr h0).mono fun z hz=>by rw [hz,fa]; exact ⟨rfl,rfl⟩
   ·exact (go _ _ _ (condN _)).mono fun r hr h0=>(hr h0).mono fun z hz=>by rw [hz,nu]; exact ⟨rfl,rfl⟩
   ·exact (go _ _ _ cond_one).mono fun r hr h0=>(hr h0).mono fun z hz=>by rw [hz,on]; exact ⟨rfl,rfl⟩
  have ll:l.length=4:=by rw [← hl]; rfl
  refine Tells.iter (fun (i:Int)=>0≤i∧i≤4) (fun (i:Int)=>4 - i.toNat) ?_ _ _ ⟨by omega,by omega⟩ (by omega)
  rintro K i ⟨i1,i2⟩ hK
  unfold zt8
  dsimp only
  refine Tells.dec (fun c=>?_) (fun c=>qt6)
  have hi:i < (l.length:Int):=c
  have next:Tells (bif q26 (i + 1) then K (i + 1) else none) fun r=>r=true:=Tells.ok (inI (by omega) (by omega)) (hK _ ⟨by omega,by omega⟩ (by omega))
  refine Tells.ok (qv5 (by omega) (by omega)) (Tells.bind (all _ (wj2 (d:=ko8) i1 hi)) fun r hr=>Tells.ite (fun _=>next) fun e0=>?_)
  refine Tells.bind (hr (by simpa using e0)) fun z ⟨z1,z2⟩=>?_
  refine Tells.no ?_ (Tells.no ?_ next)
  ·rw [z1]; simp
  ·rw [z2]; simp
end Go.Proofs.YtgicljncknbgcaaGreat.Abs
