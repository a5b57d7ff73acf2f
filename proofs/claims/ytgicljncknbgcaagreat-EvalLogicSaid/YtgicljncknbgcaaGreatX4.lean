/- EvalLogic: answers of its texts. -/
import Derived.Test.YtgicljncknbgcaaGreatX3
import Derived.Test.YtgicljncknbgcaaGreatG7
set_option linter.unusedVariables false
set_option linter.unusedSimpArgs false
set_option linter.unusedSectionVars false
namespace Go.Proofs.YtgicljncknbgcaaGreat.Abs
open Go
def q78 (a:q03):Prop:=a.1.1=4→(a.1.2.1=0∨a.1.2.1=1)∧a.1.2.2.1=[]
theorem q78.no {a:q03}(h:a.1.1≠4):q78 a:=fun e=>absurd e h
theorem q78.E (e:Int):q78 (kc1 e):=.no (by simp [kc1])
theorem q78.nul :q78 (w60 (0,0,[],())):=.no (by simp [w60])
theorem q78.truth (b:Bool):q78 (w60 (w14 b)):=fun _=>by cases b <;> simp [w60,w14]
theorem q78.ite {c:Prop} [Decidable c] {x y:q03} (hx:q78 x) (hy:q78 y):q78 (if c then x else y):=by
 by_cases h:c
 ·rw [if_pos h]; exact hx
 ·rw [if_neg h]; exact hy
theorem kt9 {v:q00}(h:mayF v=true):q78 (w60 v):=fun h4=>by
 have h4:v.1=4:=h4
 unfold mayF qx7 at h
 have e0:(v.1 == 0)=false:=by rw [h4]; rfl
 have e1:(v.1 == 1)=false:=by rw [h4]; rfl
 have e2:(v.1 == 2)=false:=by rw [h4]; rfl
 have e3:(v.1 == 3)=false:=by rw [h4]; rfl
 have e4:(v.1 == 4)=true:=by rw [h4]; rfl
 rw [e0,e1,e2,e3,e4] at h
 simp only [cond_false,cond_true] at h
 cases hs:(v.2.2.1 == ([]:List UInt8)) with
 | false=>rw [hs] at h; simp at h
 | true =>
  rw [hs] at h
  have hs:v.2.2.1=[]:=eq_of_beq hs
  refine ⟨?_,hs⟩
  show v.2.1=0∨v.2.1=1
  by_cases hn:v.2.1=0
  ·exact .inl hn
  ·have:(v.2.1 == 0)=false:=by simpa using hn
   rw [this] at h
   simp at h
   exact .inr h
theorem q78.held (v:q00):q78 (uh5 v):=by
 unfold uh5
 split
 ·rename_i h; exact kt9 h
 ·exact .E _
theorem q78.truthF {a:q03}(h:q78 a):q78 (q99 a):=.ite (.E _) h
theorem q78.notV (v:q00):q78 (w60 (ul7 v)):=by
 unfold Abs.ul7
 split
 ·exact .truth _
 ·exact .no (by simp [w60,zw4])
theorem q78.told {r:q00×Int×Unit}(h:r.1.1≠4):q78 (zo1 r):=.ite (.E _) (.no h)
theorem q78.only {k:Int}{l:List q00}{G:q03}(h:q78 G):q78 (zn5 k l G):=.ite (.E _) (.ite .nul h)
theorem q78.left2 {x y:q03}{F:q00→q00→q03}(hx:q78 x)(hy:q78 y)(hF:q78 (F x.1 y.1)):q78 (zf6 x y F):=.ite hx (.ite hy hF)
theorem q78.left1 {x:q03}{F:q00→q03}(hx:q78 x)(hF:q78 (F x.1)):q78 (ub3 x F):=.ite hx hF
theorem y92 (g h:Int→Int→Int×Int×Unit)(a b:q00):(doS g h a b).1.1≠4:=by
 have fin:∀ k r,k≠4→(finV k r).1.1≠4:=fun k r hk=>by
  unfold finV
  split
  ·simp [zw4]
  ·exact hk
 unfold doS
 split
 ·simp [zw4]
 split
 ·simp [zw4]
 split
 ·exact fin _ _ (by omega)
 split
 ·simp [zw4]
 ·exact fin _ _ (by omega)
theorem q78.allS :∀ (l:List q00) (out:q00),q78 (w60 out)→(∀ v ∈ l,q78 (w60 v))→q78 (w60 (Abs.allS out l))
 | [],out,h,_=>h
 | v :: l,out,h,hl=>by
  unfold Abs.allS
  split
  ·exact hl v (by simp)
  ·refine q78.allS l _ ?_ fun v hv=>hl v (by simp [hv])
   split
   ·exact h
   ·exact .no (by simp [w60,zw4])
theorem q78.both {e:Int}{f:q00→q00→q00}{x y:q03}(hx:q78 x)(hy:q78 y)(hf:∀ a b,q78 (w60 a)→q78 (w60 b)→q78 (w60 (f a b))):q78 (jo7 e f x y):=.ite hx.truthF (.ite hy.truthF (hf _ _ hx.truthF hy.truthF))
theorem q78.ord {p:Int→Bool}(x y:q00):q78 (vq3 p x y):=.ite (.E _) (.ite .nul (.truth _))
theorem q78.eq {l:List Bool}{t:Bool}(x y:q00):q78 (eqF l t x y):=.ite (.truth _) (.ite .nul (.ite (.E _) (.truth _)))
theorem q78.getF {k:q34}(h:∀ a ∈ k.1,q78 a)(i:Nat):q78 (wo0 k i):=by
 unfold Abs.wo0
 rw [List.getD_eq_getElem?_getD]
 cases h1:k.1[i]? with
 | none=>exact .no (by simp [a0])
 | some a=>exact h a (List.mem_of_getElem? h1)
theorem q78.op (op:Int){k:q34}(h:∀ a ∈ k.1,q78 a):q78 (opF op k):=by
 have hx:=q78.getF h 0
 have hy:=q78.getF h 1
 have hz:=q78.getF h 2
 unfold opF
 dsimp only
 refine .ite (.both hx hy fun a b ha hb=>q78.allS _ _ (.truth true) ?_) (.ite (.both hx hy fun a b _ _=>.notV _) (.ite (.ite (.notV _) hx.truthF) (.ite (.left2 hx hy (.eq _ _)) (.ite (.left2 hx hy (.eq _ _)) (.ite (.left2 hx hy (.ord _ _)) (.ite (.left2 hx hy (.ord _ _)) (.ite (.left2 hx hy (.ord _ _)) (.ite (.left2 hx hy (.ord _ _)) ?_))))))))
 ·intro v hv
  simp only [List.mem_cons,List.not_mem_nil,or_false] at hv
  rcases hv with rfl | rfl
  ·exact ha
  ·exact hb
 refine .ite (.left2 hx hy (.only (.truth _))) (.ite (.left2 hx hy (.only (.truth _))) (.ite (.left2 hx hy (.told (y92 _ _ _ _))) (.ite (.left2 hx hy (.told (y92 _ _ _ _))) (.ite (.left2 hx hy (.told (y92 _ _ _ _))) (.ite (.left2 hx hy (.told (y92 _ _ _ _))) (.ite (.left1 hx (.told (y92 _ _ _ _))) ?_))))))
 refine .ite (.left1 hx (.ite (.E _) (.ite (.told (y92 _ _ _ _)) hx))) (.ite (.left2 hx hy (.only (.told (by simp)))) (.ite (.left1 hx (.only (.no (by simp [w60])))) (.ite (.left1 hx (.only (.no (by simp [w60])))) (.ite (.ite hx.truthF (.ite hy hz)) (.E _)))))
theorem q78.most {k:q34}(h:∀ a ∈ k.1,q78 a){a:q03}(hm:u44 k a):q78 a:=by
 rcases hm.ok with ⟨h1,_⟩ | ⟨h1,r,hr,rfl⟩
 ·exact h a h1
 ·unfold zo1
  by_cases e:r.2.1=0
  ·rw [if_neg (by simp [e])]
   rcases hr.ok e with ⟨h2,_⟩ | ⟨h2,h3,_⟩
   ·rw [h2]; exact .nul
   ·refine .no ?_
    have:=ym8 _ h2
    show r.1.1≠4
    omega
  ·rw [if_pos e]; exact .E _
theorem xc0 {N B:Nat}{t:List q20}{self:q00}{vars:List q40}(h:EvOK N B t self vars):∀ i,i≤t.length→∀ l,yz0 N self vars t i=some l→∀ a ∈ l,q78 a
 | 0,_,l,hl=>by cases hl; simp
 | i + 1,hi,l,hl=>by
  obtain ⟨l0,h1,h2,h3⟩:=zh4 h i (by omega)
  have ih:=xc0 h i (by omega) l0 h1
  simp only [yz0,h1,Option.bind_some] at hl
  rw [Option.map_eq_some_iff] at hl
  obtain ⟨a,h4,rfl⟩:=hl
  intro b hb
  rcases List.mem_append.1 hb with hb | hb
  ·exact ih b hb
  ·rw [List.mem_singleton.1 hb]
   have hm:q25 t (i:Int) qb7 ∈ t:=qu8 (by omega) (by omega)
   obtain ⟨g1,g2⟩:=h.nodes _ hm
   have hk:=ue4 h h3 (i:=i) (by omega) g2
   have hr:∀ a ∈ (yb7 t l0 i (q25 t (i:Int) qb7).2.2.2.1).1,q78 a:=fun a ha=>by
    obtain ⟨x,_,rfl⟩:=List.mem_map.1 ha
    unfold um7
    split
    ·exact ih _ (qu8 (by omega) (by omega))
    ·exact .no (by simp [a0])
   unfold xv7 at h4
   by_cases hb:vf9 (q25 t (i:Int) qb7)=true
   ·rw [if_pos hb] at h4
    cases h4
    unfold vc9
    refine .ite (.held _) (.ite (.held _) ?_)
    unfold ub7
    split
    ·exact .held _
    ·exact .E _
   ·rw [if_neg hb] at h4
    by_cases ho:(q25 t (i:Int) qb7).1=19∨(q25 t (i:Int) qb7).1=20
    ·obtain ⟨a',h5,h6⟩:=u21 h.fuel hk _ ho
     rw [h4] at h5
     cases h5
     exact .most hr h6
    ·rw [opO_is h.fuel hk h.bound _ (fun e=>ho (.inl e)) (fun e=>ho (.inr e))] at h4
     cases h4
     exact .op _ hr
theorem vi8 {x:q03}(h:q78 x):(q99 x).2.1≠0∨(x.2.1=0∧(x.1=(4,0,[],())∨x.1=(4,1,[],())∨x.1.1=0)):=by
 by_cases e:x.2.1=0
 ·by_cases k4:x.1.1=4
  ·obtain ⟨h1,h2⟩:=h k4
   obtain ⟨⟨k,n,s,u⟩,_⟩:=x
   dsimp only at *
   subst k4 h2
   rcases h1 with rfl | rfl
   ·exact .inr ⟨e,.inl rfl⟩
   ·exact .inr ⟨e,.inr (.inl rfl)⟩
  ·by_cases k0:x.1.1=0
   ·exact .inr ⟨e,.inr (.inr k0)⟩
   ·left
    unfold q99
    rw [if_pos ⟨e,k4,k0⟩]
    simp [kc1]
 ·left
  unfold q99
  rw [if_neg (fun h=>e h.1)]
  exact e
theorem v59 {x:q03}(e:x.2.1=0)(k:x.1.1=4∨x.1.1=0):q99 x=x:=by
 unfold q99
 rw [if_neg]
 rintro ⟨_,h1,h2⟩
 rcases k with k | k
 ·exact h1 k
 ·exact h2 k
theorem zh0 {x:q03}(h:(q99 x).2.1≠0):q99 (q99 x)=q99 x:=by
 rw [q99,if_neg (fun h2=>h h2.1)]
theorem v13 {x:q03}(h:(q99 x).2.1≠0):v30 x=q99 x:=by unfold v30; rw [if_neg h]
theorem law_and {x y:q03}(hx:q78 x)(hy:q78 y):v30 (jo7 0 allV x y)=jo7 1 anyV (v30 x) (v30 y):=by
 rcases vi8 hx with bx | ⟨ex,cx⟩
 ·have e1:jo7 0 allV x y=q99 x:=by unfold jo7; rw [if_pos (.inl bx)]
  have b2:(q99 (q99 x)).2.1≠0:=by rw [zh0 bx]; exact bx
  rw [e1,v13 b2,zh0 bx,v13 bx]
  unfold jo7
  rw [zh0 bx,if_pos (.inl bx)]
 have tx:q99 x=x:=v59 ex (by rcases cx with h | h | h; exact .inl (by rw [h]); exact .inl (by rw [h]); exact .inr h)
 obtain ⟨vx,e,u⟩:=x
 dsimp only at ex cx
 subst ex
 rcases cx with rfl | cx
 ·rfl
 rcases vi8 hy with bY | ⟨ey,cy⟩
 ·have e1:jo7 0 allV (vx,0,u) y=q99 y:=by
   unfold jo7
   rw [tx,if_neg,if_pos bY]
   rintro (h | ⟨h1,h2⟩)
   ·exact h rfl
   ·rcases cx with rfl | cx
    ·simp at h2
    ·rw [cx] at h1; simp at h1
  have b2:(q99 (q99 y)).2.1≠0:=by rw [zh0 bY]; exact bY
  rw [e1,v13 b2,zh0 bY,v13 bY]
  unfold jo7
  rw [zh0 bY]
  rcases cx with rfl | cx
  ·rw [if_neg,if_pos bY]
   rintro (h | ⟨h1,h2⟩) <;> simp [v30,q99,w60,ul7,w14] at *
  ·have hn:v30 (vx,0,u)=w60 zw4:=by
    unfold v30
    rw [tx,if_pos rfl]
    unfold ul7
    rw [if_neg (by rw [cx]; omega)]
   rw [hn,if_neg,if_pos bY]
   rintro (h | ⟨h1,h2⟩) <;> simp [q99,w60,zw4] at *
 ·have ty:q99 y=y:=v59 ey (by rcases cy with h | h | h; exact .inl (by rw [h]); exact .inl (by rw [h]); exact .inr h)
  obtain ⟨vy,e,u'⟩:=y
  dsimp only at ey cy
  subst ey
  have nn:∀ (v:q00) (u:Unit),v.1=0→v30 (v,0,u)=w60 zw4:=fun v u h=>by
   have tv:q99 (v,0,u)=(v,0,u):=v59 rfl (.inr h)
   unfold v30
   rw [tv,if_pos rfl]
   unfold ul7
   rw [if_neg (by rw [h]; omega)]
  have an:∀ v:q00,v.1=0→allV (4,1,[],()) v=zw4∧allV v (4,1,[],())=zw4∧(∀ w:q00,w.1=0→allV v w=zw4)∧allV v (4,0,[],())=(4,0,[],()):=fun v h=>by
   have h4:¬ v.1=4:=by omega
   refine ⟨?_,?_,fun w hw=>?_,?_⟩ <;> simp [allV,allS,h4,xd7]
   omega
  rcases cx with rfl | cx
  ·rcases cy with rfl | rfl | cy
   ·rfl
   ·rfl
   ·rw [nn vy u' cy]
    unfold jo7
    rw [tx,if_neg (by simp),ty,if_neg (by simp),(an vy cy).1]
    rfl
  ·rw [nn vx u cx]
   have nb:¬ ((q99 (vx,0,u)).2.1≠0∨((q99 (vx,0,u)).1.1=4∧(q99 (vx,0,u)).1.2.1=0)):=by
    rw [tx]
    rintro (h | ⟨h1,h2⟩)
    ·exact h rfl
    ·rw [cx] at h1; simp at h1
   unfold jo7
   rw [if_neg nb,tx,ty,if_neg (by simp)]
   rcases cy with rfl | rfl | cy
   ·rw [(an vx cx).2.2.2]; rfl
   ·rw [(an vx cx).2.1]; rfl
   ·rw [(an vx cx).2.2.1 vy cy,nn vy u' cy]; rfl
theorem u15 {x y:q03}{F G:q00→q00→q03}(h:∀ a b,v30 (F a b)=G a b):v30 (zf6 x y F)=zf6 x y G:=by
 have bad:∀ z:q03,z.2.1≠0→v30 z=z:=fun z hz=>by
  have:q99 z=z:=by unfold q99; rw [if_neg (fun h=>hz h.1)]
  unfold v30
  rw [this,if_neg hz]
 unfold zf6
 by_cases h1:x.2.1=0
 ·have h1:¬ x.2.1≠0:=fun e=>e h1
  simp only [if_neg h1]
  by_cases h2:y.2.1=0
  ·have h2:¬ y.2.1≠0:=fun e=>e h2
   simp only [if_neg h2]; exact h _ _
  ·rw [if_pos h2,if_pos h2]; exact bad y h2
 ·rw [if_pos h1,if_pos h1]; exact bad x h1
theorem xl2 (b:Bool):v30 (w60 (w14 b))=w60 (w14 (!b)):=by cases b <;> rfl
theorem law_eq (n:List Bool)(a b:q00):v30 (eqF n false a b)=eqF n true a b:=by
 unfold eqF
 split
 ·rw [xl2]; cases (a.1 == b.1) <;> rfl
 split
 ·rfl
 split
 ·rfl
 ·rw [xl2]; cases ((k56 a b).1 == 0) <;> rfl
theorem law_lt (a b:q00):v30 (vq3 (fun c=>decide (c ≥ 0)) a b)=vq3 (fun c=>decide (c < 0)) a b:=by
 unfold vq3
 split
 ·rfl
 split
 ·rfl
 ·rw [xl2]
  show w60 (w14 (!decide ((k56 a b).1 ≥ 0)))=w60 (w14 (decide ((k56 a b).1 < 0)))
  by_cases h:(k56 a b).1 < 0
  ·rw [decide_eq_true h,decide_eq_false (by omega)]; rfl
  ·rw [decide_eq_false h,decide_eq_true (by omega)]; rfl
def nulB (n:q20):Bool:=n.1 == 1 && n.2.1.1 == 0
theorem vh3 {α:Type}{l m:List α}{i:Int}{d:α}(h0:0≤i)(h:i < l.length):q25 (l ++ m) i d=q25 l i d:=by
 unfold q25
 rw [List.getD_eq_getElem?_getD,List.getD_eq_getElem?_getD,List.getElem?_append_left (by omega)]
theorem u32 {α:Type}{l m:List α}{i j:Int}{d:α}(h:i=l.length + j)(hj:0≤j):q25 (l ++ m) i d=q25 m j d:=by
 unfold q25
 rw [List.getD_eq_getElem?_getD,List.getD_eq_getElem?_getD,List.getElem?_append_right (by omega),show i.toNat - l.length=j.toNat by omega]
section
variable {N B:Nat} {self:q00} {vars:List q40}
structure Fed (N B:Nat) (sf:q00) (vars:List q40) (T:List q20) (l:List q03):Prop where
 ans:∀ Z,yz0 N sf vars (T ++ Z) T.length=some l
 ok:∀ a ∈ l,VOK B a.1
theorem Fed.len {T:List q20}{l:List q03}(h:Fed N B self vars T l):l.length=T.length:=y99 (h.ans [])
structure Stem (T:List q20) (l:List q03) (i:Int) (a:q03) (b:Bool):Prop where
 lo:0≤i
 hi:i < T.length
 ans:q25 l i a0=a
 nul:nulB (q25 T i qb7)=b
theorem Stem.more {T Y:List q20}{l m:List q03}{i:Int}{a:q03}{b:Bool}(h:Stem T l i a b)(hl:l.length=T.length):Stem (T ++ Y) (l ++ m) i a b:=by
 obtain ⟨h1,h2,h3,h4⟩:=h
 refine ⟨h1,by simp only [List.length_append]; omega,?_,?_⟩
 ·rw [vh3 h1 (by omega)]; exact h3
 ·rw [vh3 h1 h2]; exact h4
def EvQ (N B:Nat)(self:q00)(vars:List q40)(Q:List q20→List q20→Int→Prop)(a:q03)(b:Bool):Prop :=
 ∀ T l T' i,Fed N B self vars T l→Q T T' i→∃ Y m,T'=T ++ Y∧Fed N B self vars T' (l ++ m)∧Stem T' (l ++ m) i a b
theorem EvQ.text {t:List q20}{l1:List q03}{i1:Int}(g:∀ x ∈ t,∀ k ∈ x.2.2.2.1,0≤k)(e:yz0 N self vars t t.length=some l1)(v:∀ a ∈ l1,VOK B a.1)(h0:0 < t.length)(hi:i1=(t.length:Int) - 1):EvQ N B self vars (ym9 t i1) (l1.getLastD a0) (nulB (q25 t i1 qb7)):=by
 rintro T l T' i hA ⟨Y,rfl,hY,rfl⟩
 have lY:Y.length=t.length:=by have:=congrArg List.length hY; simpa using this
 have ll:=y99 e
 have lT:=hA.len
 refine ⟨Y,l1,rfl,⟨fun Z=>?_,fun a ha=>?_⟩,⟨by omega,by simp only [List.length_append]; omega,?_,?_⟩⟩
 ·have h1:yz0 N self vars (T ++ Y ++ Z) T.length=some l:=by rw [List.append_assoc]; exact hA.ans _
  have:=ko4 (A:=T) h1 hY g t.length (Nat.le_refl _)
  rw [List.length_append,lY,this,e]
  rfl
 ·rcases List.mem_append.1 ha with ha | ha
  ·exact hA.ok a ha
  ·exact v a ha
 ·rw [u32 (j:=i1) (by omega) (by omega),x03 l1 a0 (by omega),hi,ll]
 ·rw [u32 (j:=i1) (by omega) (by omega)]
  obtain ⟨k,hk⟩:∃ k:Nat,i1=k:=⟨i1.toNat,by omega⟩
  subst hk
  rw [qj2 (by omega),qj2 (by omega)]
  have h2:(Y.map (shN 0))[k]'(by rw [List.length_map]; omega)=(t.map (shN (T.length:Int)))[k]'(by rw [List.length_map]; omega):=by
   simp only [hY]
  rw [List.getElem_map,List.getElem_map] at h2
  have q1:(Y[k]'(by omega)).1=(t[k]'(by omega)).1:=by have:=congrArg (fun n:q20=>n.1) h2; exact this
  have q2:(Y[k]'(by omega)).2.1.1=(t[k]'(by omega)).2.1.1:=by have:=congrArg (fun n:q20=>n.2.1.1) h2; exact this
  unfold nulB
  rw [q1,q2]
theorem Fed.node {T:List q20}{l:List q03}(h:Fed N B self vars T l)(hN:1000000 < N)(hB:B≤4294967280){op:Int}(ho:4≤op)(h19:op≠19)(h20:op≠20){ks:List Int}{pl:qi2}{k:q34}(hk:∀ Z,yb7 (T ++ Z) l T.length ks=k)(hl:ks.length≤100000):
  Fed N B self vars (T ++ [nd op v0 [] ks pl]) (l ++ [opF op k])∧Stem (T ++ [nd op v0 [] ks pl]) (l ++ [opF op k]) T.length (opF op k) false:=by
 have lT:=h.len
 have kok:KOK B k:=by
  rw [← hk []]
  refine ⟨fun a ha=>?_,by simpa [yb7] using hl⟩
  obtain ⟨x,_,rfl⟩:=List.mem_map.1 ha
  unfold um7
  split
  ·exact h.ok _ (qu8 (by omega) (by omega))
  ·exact qh8 B
 refine ⟨⟨fun Z=>?_,fun a ha=>?_⟩,⟨by omega,by simp only [List.length_append,List.length_singleton]; omega,v39 (by omega),?_⟩⟩
 ·rw [List.append_assoc,List.length_append]
  show yz0 N self vars (T ++ ([nd op v0 [] ks pl] ++ Z)) (T.length + 1)=_
  simp only [yz0,h.ans,Option.bind_some]
  rw [List.singleton_append,v39 rfl]
  unfold xv7
  rw [if_neg (by simp only [vf9,decide_eq_true_eq]; omega)]
  show (opO N op (yb7 (T ++ nd op v0 [] ks pl :: Z) l T.length ks)).map _=_
  rw [hk,opO_is hN kok hB op h19 h20]
  rfl
 ·rcases List.mem_append.1 ha with ha | ha
  ·exact h.ok a ha
  ·rw [List.mem_singleton.1 ha]; exact VOK_op op kok hB
 ·rw [v39 rfl]
  unfold nulB
  rw [show (op == 1)=false from by simp; omega]
  rfl
theorem y81 {T Z:List q20}{l:List q03}{i:Int}{a:q03}{b:Bool}(h:Stem T l i a b):um7 l T.length i=a∧ke9 (T ++ Z) T.length i=b:=by
 obtain ⟨h1,h2,h3,h4⟩:=h
 refine ⟨by unfold um7; rw [if_pos ⟨h1,h2⟩]; exact h3,?_⟩
 unfold ke9
 rw [if_pos ⟨h1,h2⟩,vh3 h1 h2]
 exact h4
theorem EvQ.bin {Q1 Q2:List q20→List q20→Int→Prop}{a1 a2:q03}{b1 b2:Bool}(h1:EvQ N B self vars Q1 a1 b1)(h2:EvQ N B self vars Q2 a2 b2)(hN:1000000 < N)(hB:B≤4294967280){op:Int}(ho:4≤op)(h19:op≠19)(h20:op≠20):EvQ N B self vars (BinQ op Q1 Q2) (opF op ([a1,a2],[b1,b2],())) false:=by
 rintro T l T' i hA ⟨T1,T2,i1,i2,pl,q1,q2,rfl,rfl⟩
 obtain ⟨Y1,m1,rfl,A1,R1⟩:=h1 _ _ _ _ hA q1
 obtain ⟨Y2,m2,rfl,A2,R2⟩:=h2 _ _ _ _ A1 q2
 have R1':=R1.more (Y:=Y2) (m:=m2) A1.len
 obtain ⟨c1,c2⟩:=A2.node hN hB ho h19 h20 (ks:=[i1,i2]) (pl:=pl) (k:=([a1,a2],[b1,b2],())) (fun Z=>by
  unfold yb7
  simp only [List.map_cons,List.map_nil]
  rw [(y81 (Z:=Z) R1').1,(y81 (Z:=Z) R1').2,(y81 (Z:=Z) R2).1,(y81 (Z:=Z) R2).2]) (by simp)
 refine ⟨Y1 ++ (Y2 ++ [nd op v0 [] [i1,i2] pl]),m1 ++ (m2 ++ [opF op ([a1,a2],[b1,b2],())]),by simp only [List.append_assoc],?_,?_⟩
 ·simpa only [List.append_assoc] using c1
 ·simpa only [List.append_assoc] using c2
theorem EvQ.not {Q:List q20→List q20→Int→Prop}{a1:q03}{b1:Bool}(h1:EvQ N B self vars Q a1 b1)(hN:1000000 < N)(hB:B≤4294967280):EvQ N B self vars (NotQ Q) (v30 a1) false:=by
 rintro T l T' i hA ⟨T1,i1,pl,q1,rfl,rfl⟩
 obtain ⟨Y1,m1,rfl,A1,R1⟩:=h1 _ _ _ _ hA q1
 obtain ⟨c1,c2⟩:=A1.node hN hB (op:=6) (by omega) (by omega) (by omega) (ks:=[i1]) (pl:=pl) (k:=([a1],[b1],())) (fun Z=>by
  unfold yb7
  simp only [List.map_cons,List.map_nil]
  rw [(y81 (Z:=Z) R1).1,(y81 (Z:=Z) R1).2]) (by simp)
 refine ⟨Y1 ++ [nd 6 v0 [] [i1] pl],m1 ++ [v30 a1],by simp only [List.append_assoc],?_,?_⟩
 ·rw [← List.append_assoc]; exact c1
 ·rw [← List.append_assoc]; exact c2
theorem say_tells (hN:1000000 < N){u:List UInt8}(hu:u.length≤500)(hself:VOK 500 self)(hvars:∀ b ∈ vars,VOK 500 b.2.1)(hv:vars.length≤40){L:List q33}{Q:List q20→List q20→Int→Prop}{a:q03}{b:Bool}(hL:Lx N u L)(hQ:qm0 L (.ex 0) 0 L.length Q)(hE:EvQ N 500 self vars Q a b):
  Tells (wf0 N u) fun r=>Tells (qs7 N r.1 self vars) fun z=>r.2.2.1=0→z=a:=by
 obtain ⟨r,h,h1⟩:=xk4 (N:=N) (s:=u) (by omega) (by omega)
 refine ⟨r,h,?_⟩
 by_cases h0:r.2.2.1=0
 ·have hr:=h1 h0
  obtain ⟨L',i,c1,c2,c3⟩:=hr.ex
  have hl:L'=L:=c1.det hL
  subst hl
  obtain ⟨_,i',e,q⟩:=hQ _ _ _ _ c2
  simp only [List.cons.injEq,and_true] at e
  subst e
  have ev:EvOK N 500 r.1 self vars:=⟨hN,by omega,hr.nodes hu (by omega),hself,hvars⟩
  have ln:=hr.len
  obtain ⟨Y,m,e2,A,R⟩:=hE [] [] _ _ ⟨fun _=>rfl,by simp⟩ q
  obtain ⟨z,z1,l,z2,z3,z4⟩:=u53 ev (by omega) (by omega)
  have h3:=A.ans []
  rw [List.append_nil,z2] at h3
  cases h3
  refine ⟨z,z1,fun _=>?_⟩
  have hl:=A.len
  have hp:=hr.pos
  rw [z4,x03 _ _ (by omega),hl,← c3]
  exact R.ans
 ·dsimp only
  rw [read_err h h0]
  have ev:EvOK N 500 [] self vars:=⟨hN,by omega,by simp,hself,hvars⟩
  obtain ⟨z,z1,_⟩:=u53 ev (by simp) (by omega)
  exact ⟨z,z1,fun h=>absurd h h0⟩
end
section
variable {N:Nat} {s t:List UInt8} {l1 l2:List q33}
theorem Lx.par {r:List UInt8}{l:List q33}(h:Lx N s l1)(k:Lx N r l):Lx N (40 :: (s ++ 10 :: 41 :: r)) (Abs.par l1 ++ l):=by
 have e:Abs.par l1 ++ l=tL :: (l1 ++ tR :: l):=by simp [Abs.par]
 rw [e]
 exact .sign (.inl rfl) (h.line_app (.sign (.inr (.inl rfl)) k))
theorem Lx.wnot {r:List UInt8}{l:List q33}(k:Lx N r l):Lx N (110 :: 111 :: 116 :: 32 :: r) (vb0 :: l):=.tok (n:=3) (by decide) (by decide) (by decide) rfl (.space k)
theorem Lx.wand {r:List UInt8}{l:List q33}(k:Lx N r l):Lx N (32 :: 97 :: 110 :: 100 :: 32 :: r) (tk 1 [97,110,100] v0 :: l):=.space (.tok (n:=3) (by decide) (by decide) (by decide) rfl (.space k))
theorem Lx.wor {r:List UInt8}{l:List q33}(k:Lx N r l):Lx N (32 :: 111 :: 114 :: 32 :: r) (tk 1 [111,114] v0 :: l):=.space (.tok (n:=2) (by decide) (by decide) (by decide) rfl (.space k))
theorem Lx.w1 {r:List UInt8}{l:List q33}{c:UInt8}(hc:c=61∨c=60)(k:Lx N r l):Lx N (32 :: c :: 32 :: r) (tk 7 [c] v0 :: l):=by
 rcases hc with rfl | rfl
 ·exact .space (.tok (n:=1) (by decide) (by decide) (by decide) rfl (.space k))
 ·exact .space (.tok (n:=1) (by decide) (by decide) (by decide) rfl (.space k))
theorem Lx.w2 {r:List UInt8}{l:List q33}{c d:UInt8}(hc:c=60∧d=62∨c=62∧d=61)(k:Lx N r l):Lx N (32 :: c :: d :: 32 :: r) (tk 7 [c,d] v0 :: l):=by
 rcases hc with ⟨rfl,rfl⟩ | ⟨rfl,rfl⟩
 ·exact .space (.tok (n:=2) (by decide) (by decide) (by decide) rfl (.space k))
 ·exact .space (.tok (n:=2) (by decide) (by decide) (by decide) rfl (.space k))
abbrev inP (s:List UInt8):List UInt8:=(([40]:List UInt8) ++ s) ++ ([10,41]:List UInt8)
theorem and_lex (h1:Lx N s l1)(h2:Lx N t l2):Lx N (((([110,111,116,32,40] ++ inP s) ++ [32,97,110,100,32]) ++ inP t) ++ [41]) (kw3 l1 l2):=by
 have h:Lx N _ _:=(((h2.par (.sign (.inr (.inl rfl)) .done)).wand |> h1.par).sign (.inl rfl)).wnot
 simpa [kw3,inP] using h
theorem or_lex (h1:Lx N s l1)(h2:Lx N t l2):Lx N (((([40,110,111,116,32] ++ inP s) ++ [32,111,114,32,110,111,116,32]) ++ inP t) ++ [41]) (orT l1 l2):=by
 have h:Lx N _ _:=((h1.par (h2.par (.sign (.inr (.inl rfl)) .done)).wnot.wor).wnot).sign (.inl rfl)
 simpa [orT,inP] using h
theorem op_lex {c:UInt8}(hc:c=61∨c=60)(h1:Lx N s l1)(h2:Lx N t l2):Lx N ((inP s ++ [32,c,32]) ++ inP t) (opT [c] l1 l2):=by
 have h:Lx N _ _:=h1.par ((h2.par .done).w1 hc)
 simpa [opT,inP] using h
theorem no_lex {c d:UInt8}(hc:c=60∧d=62∨c=62∧d=61)(h1:Lx N s l1)(h2:Lx N t l2):Lx N (((([110,111,116,32,40] ++ inP s) ++ [32,c,d,32]) ++ inP t) ++ [41]) (noT [c,d] l1 l2):=by
 have h:Lx N _ _:=((h1.par ((h2.par (.sign (.inr (.inl rfl)) .done)).w2 hc)).sign (.inl rfl)).wnot
 simpa [noT,inP] using h
end
section
variable {s t:List UInt8} {self:q00} {vars:List q40}
def Say (self:q00)(vars:List q40)(u:List UInt8)(a:q03):Prop:=Tells (wf0 2000000 u) fun r=>Tells (qs7 2000000 r.1 self vars) fun z=>r.2.2.1=0→z=a
def PairOK (self:q00)(vars:List q40)(e:x72):Prop:=∃ a,Say self vars e.1 a∧Say self vars e.2.1 a
theorem ks1 {P:vz0}{k n a b c d:Int}{w:List UInt8}(all:∀ e ∈ [P.1,P.2.1,P.2.2.1],PairOK (k,n,w,()) vars e):Tells (q87 (wd0 2000000 P k n w vars a b c d) 2000000 0) fun r=>r=true:=by
 refine Tells.iter (fun (i:Int)=>0≤i∧i≤3) (fun (i:Int)=>3 - i.toNat) ?_ _ _ ⟨by omega,by omega⟩ (by omega)
 rintro K i ⟨i1,i2⟩ hK
 unfold wd0
 dsimp only
 refine Tells.dec (fun c=>?_) (fun c=>qu3)
 have next:Tells (bif q27 (i + 1) then K (i + 1) else none) fun r=>r=true:=Tells.ok (inI (by omega) (by omega)) (hK _ ⟨by omega,by omega⟩ (by omega))
 obtain ⟨A,p1,p2⟩:=all (q25 ([P.1,P.2.1,P.2.2.1]:List x72) i d_Arr2) (qu8 i1 (by simp; omega))
 refine Tells.ok (qu4 (by omega) (by omega)) (Tells.bind p1 fun r9 q9=>Tells.bind q9 fun r10 q10=>Tells.bind p2 fun r11 q11=>Tells.bind q11 fun r12 q12=>?_)
 refine Tells.ite (fun e1=>Tells.ite (fun e2=>?_) fun _=>next) fun _=>next
 have z1:=q10 (by simpa using e1)
 have z2:=q12 (by simpa using e2)
 refine Tells.no ?_ (Tells.no ?_ next)
 ·rw [z1,z2]; simp
 ·rw [z1,z2]; simp
theorem pairs_ok {ta tb:List q20}(hs:s.length≤200)(ht:t.length≤200)(r1:Rd 2000000 s ta)(r2:Rd 2000000 t tb)(hself:VOK 500 self)(hvars:∀ b ∈ vars,VOK 500 b.2.1)(hv:vars.length≤40){u1 u2 v1 v2 w1 w2:List UInt8}
  (hu1:u1=((([110,111,116,32,40] ++ inP s) ++ [32,97,110,100,32]) ++ inP t) ++ [41]) (hu2:u2=((([40,110,111,116,32] ++ inP s) ++ [32,111,114,32,110,111,116,32]) ++ inP t) ++ [41])
  (hv1:v1=(inP s ++ [32,61,32]) ++ inP t) (hv2:v2=((([110,111,116,32,40] ++ inP s) ++ [32,60,62,32]) ++ inP t) ++ [41])
  (hw1:w1=(inP s ++ [32,60,32]) ++ inP t) (hw2:w2=((([110,111,116,32,40] ++ inP s) ++ [32,62,61,32]) ++ inP t) ++ [41]) :
  ∀ e ∈ ([(u1,u2,()),(v1,v2,()),(w1,w2,())]:List x72),PairOK self vars e:=by
 obtain ⟨L1,i1,a1,a2,a3⟩:=r1.ex
 obtain ⟨L2,i2,b1,b2,b3⟩:=r2.ex
 have p1:=r1.pos
 have p2:=r2.pos
 have ev1:EvOK 2000000 500 ta self vars:=⟨by omega,by omega,r1.nodes (by omega) (by omega),hself,hvars⟩
 have ev2:EvOK 2000000 500 tb self vars:=⟨by omega,by omega,r2.nodes (by omega) (by omega),hself,hvars⟩
 obtain ⟨l1,e1,n1,o1⟩:=zh4 ev1 _ (Nat.le_refl _)
 obtain ⟨l2,e2,n2,o2⟩:=zh4 ev2 _ (Nat.le_refl _)
 have R1:q78 (l1.getLastD a0):=by rw [x03 l1 a0 (by omega)]; exact xc0 ev1 _ (Nat.le_refl _) l1 e1 _ (qu8 (by omega) (by omega))
 have R2:q78 (l2.getLastD a0):=by rw [x03 l2 a0 (by omega)]; exact xc0 ev2 _ (Nat.le_refl _) l2 e2 _ (qu8 (by omega) (by omega))
 have E1:=EvQ.text (N:=2000000) (B:=500) (self:=self) (vars:=vars) (fun n hn=>(r1.good n hn).2) e1 o1 p1 a3
 have E2:=EvQ.text (N:=2000000) (B:=500) (self:=self) (vars:=vars) (fun n hn=>(r2.good n hn).2) e2 o2 p2 b3
 generalize hX:l1.getLastD a0=X at R1 E1
 generalize hY:l2.getLastD a0=Y at R2 E2
 generalize hb1:nulB (q25 ta i1 qb7)=m1 at E1
 generalize hb2:nulB (q25 tb i2 qb7)=m2 at E2
 have go:∀ {u:List UInt8} {L:List q33} {Q:List q20→List q20→Int→Prop} {a:q03} {b:Bool} (a':q03),u.length≤500→Lx 2000000 u L→qm0 L (.ex 0) 0 L.length Q→EvQ 2000000 500 self vars Q a b→a=a'→Say self vars u a':=fun a' h1 h2 h3 h4 h5=>by
  subst h5
  exact say_tells (by omega) h1 hself hvars hv h2 h3 h4
 have f1:1000000 < 2000000:=by omega
 have f2:500≤4294967280:=by omega
 intro e he
 simp only [List.mem_cons,List.not_mem_nil,or_false] at he
 rcases he with rfl | rfl | rfl
 ·refine ⟨v30 (jo7 0 allV X Y),go _ ?_ (by rw [hu1]; exact and_lex a1 b1) (and_run a2 b2) ((E1.bin E2 f1 f2 (op:=5) (by omega) (by omega) (by omega)).not f1 f2) rfl,go _ ?_ (by rw [hu2]; exact or_lex a1 b1) (or_run a2 b2) ((E1.not f1 f2).bin (E2.not f1 f2) f1 f2 (op:=4) (by omega) (by omega) (by omega)) (law_and R1 R2).symm⟩
  ·rw [hu1]; simp; omega
  ·rw [hu2]; simp; omega
 ·refine ⟨zf6 X Y (eqF [m1,m2] true),go _ ?_ (by rw [hv1]; exact op_lex (.inl rfl) a1 b1) (op_run a2 b2 (.inl rfl) (by decide)) (E1.bin E2 f1 f2 (by decide) (by decide) (by decide)) rfl,go _ ?_ (by rw [hv2]; exact no_lex (.inl ⟨rfl,rfl⟩) a1 b1) (no_run a2 b2 (.inr (.inl rfl)) (by decide)) ((E1.bin E2 f1 f2 (by decide) (by decide) (by decide)).not f1 f2) (u15 (F:=eqF [m1,m2] false) (law_eq _))⟩
  ·rw [hv1]; simp; omega
  ·rw [hv2]; simp; omega
 ·refine ⟨zf6 X Y (vq3 fun c=>decide (c < 0)),go _ ?_ (by rw [hw1]; exact op_lex (.inr rfl) a1 b1) (op_run a2 b2 (.inr (.inr (.inl rfl))) (by decide)) (E1.bin E2 f1 f2 (by decide) (by decide) (by decide)) rfl,go _ ?_ (by rw [hw2]; exact no_lex (.inr ⟨rfl,rfl⟩) a1 b1) (no_run a2 b2 (.inr (.inr (.inr rfl))) (by decide)) ((E1.bin E2 f1 f2 (by decide) (by decide) (by decide)).not f1 f2) (u15 (F:=vq3 fun c=>decide (c ≥ 0)) law_lt)⟩
  ·rw [hw1]; simp; omega
  ·rw [hw2]; simp; omega
theorem k82 (h1:WfV self)(h2:∀ b ∈ vars,WfV b.2.1):Tells (qu5 2000000 s t self vars) fun r=>r=true:=by
 unfold qu5 zn7
 refine Tells.dec (fun _=>qu3) fun c1=>Tells.dec (fun _=>qu3) fun c2=>Tells.dec (fun _=>qu3) fun c3=>Tells.dec (fun _=>qu3) fun c4=>?_
 refine Tells.iter (fun (i:Int)=>∃ k:Nat,i=k∧k≤vars.length∧∀ b ∈ vars.take k,b.2.1.2.2.1.length≤300) (fun (i:Int)=>vars.length - i.toNat) ?_ _ _ ⟨0,rfl,by omega,by simp⟩ (by omega)
 rintro K i ⟨k,rfl,q1,q3⟩ hK
 unfold wc6 ws9
 dsimp only
 refine Tells.dec (fun c=>?_) (fun c=>?_)
 ·have hk:k < vars.length:=by omega
  have ht:=x50 vars k hk
  rw [qj2 hk]
  refine Tells.ok (qu4 (by omega) (by omega)) (Tells.dec (fun _=>qu3) (fun c6=>?_))
  refine Tells.ok (inI (by omega) (by omega)) (hK _ ⟨k + 1,by omega,by omega,fun b hb=>?_⟩ (by omega))
  rw [ht] at hb
  rcases List.mem_append.1 hb with hb | hb
  ·exact q3 b hb
  ·rw [List.mem_singleton.1 hb]; omega
 ·have hk:k=vars.length:=by omega
  subst hk
  rw [List.take_length] at q3
  have hself:VOK 500 self:=⟨h1.1,h1.2.1,h1.2.2,by omega⟩
  have hvars:∀ b ∈ vars,VOK 500 b.2.1:=fun b hb=>⟨(h2 b hb).1,(h2 b hb).2.1,(h2 b hb).2.2,by have:=q3 b hb; omega⟩
  refine Tells.bind (xk4 (N:=2000000) (by omega) (by omega)) fun ra hra=>Tells.bind (xk4 (N:=2000000) (by omega) (by omega)) fun rb hrb=>?_
  refine Tells.ite (fun _=>qu3) fun d1=>Tells.ite (fun _=>qu3) fun d2=>?_
  have r1:=hra (by simpa using d1)
  have r2:=hrb (by simpa using d2)
  have cat:∀ a b:List UInt8,a.length≤1000→b.length≤1000→qf6 a b=true:=fun a b h1 h2=>catT (by omega) (by omega)
  iterate 24 refine Tells.ok (cat _ _ (by first | omega | (simp <;> omega)) (by first | omega | (simp <;> omega))) ?_
  exact ks1 (pairs_ok (by omega) (by omega) r1 r2 hself hvars (by omega) rfl rfl rfl rfl rfl rfl)
end
end Go.Proofs.YtgicljncknbgcaaGreat.Abs
