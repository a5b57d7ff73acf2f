/- Expressions' answers: a node's answer. -/
import Derived.Test.YtgicljncknbgcaaGreatE1
set_option linter.unusedVariables false
set_option linter.unusedSimpArgs false
set_option linter.unusedSectionVars false
namespace Go.Proofs.YtgicljncknbgcaaGreat.Abs
open Go
def qw5 (a:q03):q03:=if a.2.1=0∧a.1.1≠4∧a.1.1≠0 then ky7 8 else a
def ku1 (ends:Int)(f:q00→q00→q00)(x y:q03):q03 :=
 if (qw5 x).2.1≠0∨((qw5 x).1.1=4∧(qw5 x).1.2.1=ends) then qw5 x
 else if (qw5 y).2.1≠0 then qw5 y else zp9 (f (qw5 x).1 (qw5 y).1)
def allV (a b:q00):q00:=allS xs9 [a,b]
def anyV (a b:q00):q00:=k39 (allS xs9 [k39 a,k39 b])
def notA (x:q03):q03:=if (qw5 x).2.1=0 then zp9 (k39 (qw5 x).1) else qw5 x
def um4 (x:q03)(F:q00→q03):q03:=if x.2.1≠0 then x else F x.1
def jo3 (x y:q03)(F:q00→q00→q03):q03:=if x.2.1≠0 then x else if y.2.1≠0 then y else F x.1 y.1
def ifA (x y z:q03):q03 :=
 if (qw5 x).2.1≠0∨(qw5 x).1.1=0 then qw5 x else if (qw5 x).1.2.1=1 then y else z
def opF (op:Int)(k:q34):q03 :=
 let x:=wo0 k 0
 let y:=wo0 k 1
 if op=5 then ku1 0 allV x y
 else if op=4 then ku1 1 anyV x y
 else if op=6 then notA x
 else if op=7 then jo3 x y (eqF k.2.1 true)
 else if op=8 then jo3 x y (eqF k.2.1 false)
 else if op=9 then jo3 x y (k24 fun c=>decide (c < 0))
 else if op=10 then jo3 x y (k24 fun c=>decide (c≤0))
 else if op=11 then jo3 x y (k24 fun c=>decide (c > 0))
 else if op=12 then jo3 x y (k24 fun c=>decide (c ≥ 0))
 else if op=24 then jo3 x y fun a b=>zo1 3 [a,b] (zp9 (z89 (Lib.contains a.2.2.1 b.2.2.1)))
 else if op=25 then jo3 x y fun a b=>zo1 3 [a,b] (zp9 (z89 (headF a.2.2.1 b.2.2.1)))
 else if op=13 then jo3 x y fun a b=>zv1 (doS gAdd gAdd a b)
 else if op=14 then jo3 x y fun a b=>zv1 (doS gSub gSub a b)
 else if op=15 then jo3 x y fun a b=>zv1 (doS gMul hMul a b)
 else if op=16 then jo3 x y fun a b=>zv1 (doS gQuo hQuo a b)
 else if op=17 then um4 x fun a=>zv1 (negV a)
 else if op=18 then um4 x absF
 else if op=21 then jo3 x y fun a b=>zo1 1 [a,b] (zv1 ((1,(modE a.2.1 b.2.1).1,[],()),(modE a.2.1 b.2.1).2.1,()))
 else if op=22 then um4 x fun a=>zo1 3 [a] (zp9 (1,(a.2.2.1.length:Int),[],()))
 else if op=23 then um4 x fun a=>zo1 3 [a] (zp9 (3,0,a.2.2.1.map Abs.Upper.upB,()))
 else if op=26 then ifA x y (wo0 k 2)
 else ky7 2
def opO (N:Nat)(op:Int)(k:q34):Option q03:=(wd9 N op k).bind fun r=>bif (!r.2.1) then qu1 N op k else some r.1
structure KOK (B:Nat) (k:q34):Prop where
 ans:∀ a ∈ k.1,VOK B a.1
 len:k.1.length≤100000
section
variable {B:Nat}
theorem KOK.get {k:q34}(h:KOK B k)(i:Nat):VOK B (wo0 k i).1:=by
 unfold wo0
 rw [List.getD_eq_getElem?_getD]
 cases h1:k.1[i]? with
 | none=>exact qh7 B
 | some a=>exact h.ans a (List.mem_of_getElem? h1)
theorem wc1 {N:Nat}{k:q34}{F:List q00→Option q03}{f:q00→q00→q03}(hF:(F [(wo0 k 0).1,(wo0 k 1).1])=some (f (wo0 k 0).1 (wo0 k 1).1)):w99 F (z49 k 2) []=some (jo3 (wo0 k 0) (wo0 k 1) f):=by
 have e:z49 k 2=[wo0 k 0,wo0 k 1]:=rfl
 rw [e]
 unfold jo3
 simp only [w99,List.nil_append,List.singleton_append]
 by_cases h1:(wo0 k 0).2.1=0
 ·by_cases h2:(wo0 k 1).2.1=0
  ·simp only [h1,h2,ne_eq,not_true,if_false]; exact hF
  ·simp [h1,h2]
 ·simp [h1]
theorem xx9 {N:Nat}{k:q34}{F:List q00→Option q03}{f:q00→q03}(hF:(F [(wo0 k 0).1])=some (f (wo0 k 0).1)):w99 F (z49 k 1) []=some (um4 (wo0 k 0) f):=by
 have e:z49 k 1=[wo0 k 0]:=rfl
 rw [e]
 unfold um4
 simp only [w99,List.nil_append]
 by_cases h1:(wo0 k 0).2.1=0
 ·simp only [h1,ne_eq,not_true,if_false]; exact hF
 ·simp [h1]
theorem xz3 (N:Nat)(k:q34)(i:Nat):q82 N k (i:Int)=some (qw5 (wo0 k i)):=by
 unfold q82 qw5
 rw [ki6,Option.bind_some]
 by_cases h1:(wo0 k i).2.1=0
 ·by_cases h2:(wo0 k i).1.1=4
  ·simp [h1,h2]
  ·by_cases h3:(wo0 k i).1.1=0
   ·simp [h1,h3]
   ·have e2:((wo0 k i).1.1 != 4)=true:=by simpa using h2
    have e3:((wo0 k i).1.1 != 0)=true:=by simpa using h3
    have e1:((wo0 k i).2.1 == 0)=true:=by simpa using h1
    rw [e1,e2,e3,if_pos ⟨h1,h2,h3⟩]
    rfl
 ·have e1:((wo0 k i).2.1 == 0)=false:=by simpa using h1
  rw [e1,if_neg (fun h=>h1 h.1)]; rfl
section
variable {N:Nat} (hN:1000000 < N) {k:q34} (hk:KOK B k) (hB:B≤4294967280)
include hN hk hB
theorem both_is (ends:Int)(q:List q00→Option q00)(f:q00→q00→q00)(hq:∀ a b,q [a,b]=some (f a b)):((q82 N k 0).bind fun (r:q03) =>
 bif (r.2.1 != 0) then
  some r
 else
  bif (r.1.1 == 4) then
   bif (r.1.2.1 == ends) then
    some r
   else
    (q82 N k 1).bind fun (r1:q03) =>
    bif (r1.2.1 != 0) then
     some r1
    else
     (q ([r.1,r1.1]:List q00)).bind fun (r2:q00) =>
     some (r2,0,())
  else
   (q82 N k 1).bind fun (r3:q03) =>
   bif (r3.2.1 != 0) then
    some r3
   else
    (q ([r.1,r3.1]:List q00)).bind fun (r4:q00) =>
    some (r4,0,()))=some (ku1 ends f (wo0 k 0) (wo0 k 1)):=by
 have t0:=xz3 N k 0
 have t1:=xz3 N k 1
 have z0:((0:Nat):Int)=0:=rfl
 have z1:((1:Nat):Int)=1:=rfl
 rw [z0] at t0
 rw [z1] at t1
 simp only [t0,t1,Option.bind_some,hq]
 unfold ku1
 generalize qw5 (wo0 k 0)=a
 generalize qw5 (wo0 k 1)=b
 by_cases h1:a.2.1=0
 ·by_cases h2:a.1.1=4
  ·by_cases h3:a.1.2.1=ends
   ·simp [h1,h2,h3]
   ·by_cases h4:b.2.1=0
    ·have e3:(a.1.2.1 == ends)=false:=by simpa using h3
     simp [h1,h2,h3,h4,e3,zp9]
    ·have e3:(a.1.2.1 == ends)=false:=by simpa using h3
     have e4:(b.2.1 != 0)=true:=by simpa using h4
     simp [h1,h2,h3,h4,e3,e4]
  ·have e2:(a.1.1 == 4)=false:=by simpa using h2
   by_cases h4:b.2.1=0
   ·simp [h1,h2,e2,h4,zp9]
   ·have e4:(b.2.1 != 0)=true:=by simpa using h4
    simp [h1,h2,e2,h4,e4]
 ·have e1:(a.2.1 != 0)=true:=by simpa using h1
  simp [h1,e1]
theorem opO_is (op:Int)(h19:op≠19)(h20:op≠20):opO N op k=some (opF op k):=by
 have z0:((0:Nat):Int)=0:=rfl
 have z1:((1:Nat):Int)=1:=rfl
 have z2:((2:Nat):Int)=2:=rfl
 have hx:=hk.get 0
 have hy:=hk.get 1
 have i0:=hx.2.2.1
 have i1:=hy.2.2.1
 have w:∀ n:Int,(n == n)=true:=fun n=>by simp
 unfold opO wd9 j81
 have ne:∀ {n:Int},op≠n→(op == n)=false:=fun h=>by simpa using h
 by_cases h5:op=5
 ·subst h5
  have:=both_is hN hk hB 0 (wj8 N) allV (fun a b=>by rw [xr3 N _ (by simp) (by simp; omega)]; rfl)
  show (((wa7 N k 0).bind fun (r:q03)=>some (r,true,())).bind _)=_
  unfold wa7
  rw [this]
  rfl
 rw [ne h5,cond_false]
 by_cases h4:op=4
 ·subst h4
  have:=both_is hN hk hB 1 (wt7 N) anyV (fun a b=>by rw [uk4 N _ (by simp) (by simp; omega)]; rfl)
  show (((qr4 N k 1).bind fun (r:q03)=>some (r,true,())).bind _)=_
  unfold qr4
  rw [this]
  rfl
 rw [ne h4,cond_false]
 by_cases h6:op=6
 ·subst h6
  have t0:=xz3 N k 0
  rw [z0] at t0
  rw [w,cond_true,t0,Option.bind_some]
  show _=some (notA (wo0 k 0))
  unfold notA
  by_cases e:(qw5 (wo0 k 0)).2.1=0
  ·have e':((qw5 (wo0 k 0)).2.1 == 0)=true:=by simpa using e
   rw [e',cond_true,y21,if_pos e,e]
   rfl
  ·have e':((qw5 (wo0 k 0)).2.1 == 0)=false:=by simpa using e
   rw [e',cond_false,if_neg e]
   rfl
 rw [ne h6,cond_false]
 have equal:∀ t:Bool,qz3 N k t=some (jo3 (wo0 k 0) (wo0 k 1) (eqF k.2.1 t)):=fun t=>by
  unfold qz3
  have e:=xi9 N k 2 k.1 k.2.1 t (by omega) (by omega)
  rw [z2] at e
  rw [e,wc1 (N:=N) (f:=eqF k.2.1 t) (by unfold z42; rw [kt3 (by omega) _ _ _ _ _ i0 i1]; rfl)]
  rfl
 by_cases h7:op=7
 ·subst h7
  rw [w,cond_true]
  dsimp only
  rw [qc1 (by omega)]
  unfold wt0
  have e:(k.1,k.2.1,())=k:=rfl
  rw [e,w,equal]
  rfl
 rw [ne h7,cond_false]
 by_cases h8:op=8
 ·subst h8
  rw [w,cond_true]
  dsimp only
  rw [qc1 (by omega)]
  unfold wt0
  have e:(k.1,k.2.1,())=k:=rfl
  have e2:((8:Int) == 7)=false:=rfl
  rw [e,e2,equal]
  rfl
 rw [ne h8,cond_false]
 by_cases h9:op=9
 ·subst h9
  have e:=y99 N k 2 (by omega) (by omega)
  rw [z2] at e
  rw [w,cond_true,e,wc1 (N:=N) (f:=k24 fun c=>decide (c < 0)) (by unfold wc9; rw [order_lt (by omega) _ _ i0 i1]; rfl)]
  rfl
 rw [ne h9,cond_false]
 by_cases h10:op=10
 ·subst h10
  have e:=y86 N k 2 (by omega) (by omega)
  rw [z2] at e
  rw [w,cond_true,e,wc1 (N:=N) (f:=k24 fun c=>decide (c≤0)) (by unfold we8; rw [order_le (by omega) _ _ i0 i1]; rfl)]
  rfl
 rw [ne h10,cond_false]
 by_cases h11:op=11
 ·subst h11
  have e:=ya1 N k 2 (by omega) (by omega)
  rw [z2] at e
  rw [w,cond_true,e,wc1 (N:=N) (f:=k24 fun c=>decide (c > 0)) (by unfold wd8; rw [order_gt (by omega) _ _ i0 i1]; rfl)]
  rfl
 rw [ne h11,cond_false]
 by_cases h12:op=12
 ·subst h12
  have e:=y90 N k 2 (by omega) (by omega)
  rw [z2] at e
  rw [w,cond_true,e,wc1 (N:=N) (f:=k24 fun c=>decide (c ≥ 0)) (by unfold wc6; rw [order_ge (by omega) _ _ i0 i1]; rfl)]
  rfl
 rw [ne h12,cond_false]
 by_cases h24:op=24
 ·subst h24
  have e:=y92 N k 2 3 (by omega) (by omega)
  rw [z2] at e
  rw [w,cond_true,e,wc1 (N:=N) (f:=fun a b=>zo1 3 [a,b] (zp9 (z89 (Lib.contains a.2.2.1 b.2.2.1)))) (by unfold we4; rw [has_is (by omega) _ _ (by have:=hx.2.2.2; omega)]; rfl)]
  rfl
 rw [ne h24,cond_false]
 by_cases h25:op=25
 ·subst h25
  have e:=yd5 N k 2 3 (by omega) (by omega)
  rw [z2] at e
  rw [w,cond_true,e,wc1 (N:=N) (f:=fun a b=>zo1 3 [a,b] (zp9 (z89 (headF a.2.2.1 b.2.2.1)))) (by unfold we6; rw [starts_is (by omega)]; rfl)]
  rfl
 rw [ne h25,cond_false,Option.bind_some]
 show qu1 N op k=_
 unfold qu1
 have n0:∀ a b:q00,q24 [a,b] 0 q29=a:=fun _ _=>rfl
 have n1:∀ a b:q00,q24 [a,b] 1 q29=b:=fun _ _=>rfl
 have m0:∀ a b:q00,inR 0 [a,b].length=true:=fun _ _=>rfl
 have m1:∀ a b:q00,inR 1 [a,b].length=true:=fun _ _=>rfl
 by_cases h13:op=13
 ·subst h13
  have e:=yd1 N k 2 (by omega) (by omega)
  rw [z2] at e
  rw [w,cond_true,e,wc1 (N:=N) (f:=fun a b=>zv1 (doS gAdd gAdd a b)) (by unfold we0; rw [m0,cond_true,m1,cond_true,n0,n1,uy9 N (by omega) _ _ i0 i1,Option.bind_some,zv0]; rfl)]
  rfl
 rw [ne h13,cond_false]
 by_cases h14:op=14
 ·subst h14
  have e:=yd6 N k 2 (by omega) (by omega)
  rw [z2] at e
  rw [w,cond_true,e,wc1 (N:=N) (f:=fun a b=>zv1 (doS gSub gSub a b)) (by unfold wd1; rw [m0,cond_true,m1,cond_true,n0,n1,xq2 N (by omega) _ _ i0 i1,Option.bind_some,zv0]; rfl)]
  rfl
 rw [ne h14,cond_false]
 by_cases h15:op=15
 ·subst h15
  have e:=ya3 N k 2 (by omega) (by omega)
  rw [z2] at e
  rw [w,cond_true,e,wc1 (N:=N) (f:=fun a b=>zv1 (doS gMul hMul a b)) (by unfold we5; rw [m0,cond_true,m1,cond_true,n0,n1,up4 N (by omega) _ _ i0 i1,Option.bind_some,zv0]; rfl)]
  rfl
 rw [ne h15,cond_false]
 by_cases h16:op=16
 ·subst h16
  have e:=jo7 N k 2 (by omega) (by omega)
  rw [z2] at e
  rw [w,cond_true,e,wc1 (N:=N) (f:=fun a b=>zv1 (doS gQuo hQuo a b)) (by unfold w62; rw [m0,cond_true,m1,cond_true,n0,n1,us6 N (by omega) _ _ i0 i1,Option.bind_some,zv0]; rfl)]
  rfl
 rw [ne h16,cond_false]
 by_cases h17:op=17
 ·subst h17
  have e:=jt2 N k 1 (by omega) (by omega)
  rw [z1] at e
  rw [w,cond_true,e,xx9 (N:=N) (f:=fun a=>zv1 (negV a)) (by unfold w52 wl1; rw [show inR 0 [(wo0 k 0).1].length=true from rfl,cond_true,show q24 [(wo0 k 0).1] 0 q29=(wo0 k 0).1 from rfl,neg_is (by omega) _ i0,Option.bind_some,zv0]; rfl)]
  rfl
 rw [ne h17,cond_false,ne h19,cond_false,ne h20,cond_false]
 by_cases h18:op=18
 ·subst h18
  have e:=y38 N k 1 (by omega) (by omega)
  rw [z1] at e
  rw [w,cond_true,e,xx9 (N:=N) (f:=absF) (by unfold w70; rw [abs_is (by omega) _ i0]; rfl)]
  rfl
 rw [ne h18,cond_false]
 by_cases h21:op=21
 ·subst h21
  have e:=y32 N k 2 1 (by omega) (by omega)
  rw [z2] at e
  rw [w,cond_true,e,wc1 (N:=N) (f:=fun a b=>zo1 1 [a,b] (zv1 ((1,(modE a.2.1 b.2.1).1,[],()),(modE a.2.1 b.2.1).2.1,()))) (by unfold w60; rw [mod_is (by omega) _ _ i0 i1]; rfl)]
  rfl
 rw [ne h21,cond_false]
 by_cases h22:op=22
 ·subst h22
  have e:=ju3 N k 1 3 (by omega) (by omega)
  rw [z1] at e
  rw [w,cond_true,e,xx9 (N:=N) (f:=fun a=>zo1 3 [a] (zp9 (1,(a.2.2.1.length:Int),[],()))) (by unfold w96; rw [len_is (by omega)]; rfl)]
  rfl
 rw [ne h22,cond_false]
 by_cases h23:op=23
 ·subst h23
  have e:=jy5 N k 1 3 (by omega) (by omega)
  rw [z1] at e
  rw [w,cond_true,e,xx9 (N:=N) (f:=fun a=>zo1 3 [a] (zp9 (3,0,a.2.2.1.map Abs.Upper.upB,()))) (by unfold w66; rw [up_is (by omega) _ (by have:=hx.2.2.2; omega)]; rfl)]
  rfl
 rw [ne h23,cond_false]
 by_cases h26:op=26
 ·subst h26
  rw [w,cond_true]
  unfold wb6
  have t0:=xz3 N k 0
  have g1:=ki6 N k 1
  have g2:=ki6 N k 2
  rw [z0] at t0
  rw [z1] at g1
  rw [z2] at g2
  rw [t0,Option.bind_some,g1,g2]
  show _=some (ifA (wo0 k 0) (wo0 k 1) (wo0 k 2))
  unfold ifA
  generalize qw5 (wo0 k 0)=a
  by_cases q1:a.2.1=0
  ·by_cases q2:a.1.1=0
   ·simp [q1,q2]
   ·have e2:(a.1.1 == 0)=false:=by simpa using q2
    by_cases q3:a.1.2.1=1
    ·simp [q1,q2,q3,e2]
    ·have e3:(a.1.2.1 == 1)=false:=by simpa using q3
     simp [q1,q2,q3,e2,e3]
  ·have e1:(a.2.1 != 0)=true:=by simpa using q1
   simp [q1,e1]
 rw [ne h26,cond_false]
 unfold opF
 simp only [h4,h5,h6,h7,h8,h9,h10,h11,h12,h13,h14,h15,h16,h17,h18,h21,h22,h23,h24,h25,h26,if_false]
 rfl
end
end
theorem zz2 (B:Nat)(b:Bool):VOK B (z89 b):=by unfold z89; cases b <;> exact ⟨by simp,by simp,⟨by simp,by simp⟩,by simp⟩
theorem VOK_not (B:Nat)(v:q00):VOK B (k39 v):=by
 unfold k39
 split
 ·exact zz2 B _
 ·exact qh7 B
theorem kk9 {B:Nat}:∀ (l:List q00) (out:q00),VOK B out→(∀ v ∈ l,VOK B v)→VOK B (allS out l)
 | [],out,h,_=>h
 | v :: l,out,h,hl=>by
  unfold allS
  split
  ·exact hl v (by simp)
  ·refine kk9 l _ ?_ fun v hv=>hl v (by simp [hv])
   split
   ·exact h
   ·exact qh7 B
theorem VOK_true (B:Nat):VOK B xs9:=⟨by simp [xs9],by simp [xs9],⟨by simp [xs9],by simp [xs9]⟩,by simp [xs9]⟩
section
variable {B:Nat}
theorem VOK_V {v:q00}(h:VOK B v):VOK B (zp9 v).1:=h
theorem vn4 (e:Int):VOK B (ky7 e).1:=qh7 B
theorem jd5 {r:q00×Int×Unit}(h:VOK B r.1):VOK B (zv1 r).1:=by
 unfold zv1
 split
 ·exact vn4 _
 ·exact h
theorem zg3 {a:q03}(h:VOK B a.1):VOK B (qw5 a).1:=by
 unfold qw5
 split
 ·exact vn4 _
 ·exact h
theorem yv3 {k:Int}{l:List q00}{G:q03}(h:VOK B G.1):VOK B (zo1 k l G).1:=by
 unfold zo1
 split
 ·exact vn4 _
 ·split
  ·exact qh7 B
  ·exact h
theorem VOK_fin {k:Int}(hk:0≤k∧k≤255){r:Int×Int×Unit}(h:I64 r.1):VOK B (finV k r).1:=by
 unfold finV
 split
 ·exact qh7 B
 ·exact ⟨hk.1,hk.2,h,by simp⟩
theorem vg9 {g h:Int→Int→Int×Int×Unit}(hg:∀ a b,I64 (g a b).1)(hh:∀ a b,I64 (h a b).1)(a b:q00):VOK B (doS g h a b).1:=by
 unfold doS
 split
 ·exact qh7 B
 split
 ·exact qh7 B
 split
 ·exact VOK_fin (by omega) (hg _ _)
 split
 ·exact qh7 B
 ·exact VOK_fin (by omega) (hh _ _)
theorem gQuo_I64 (a b:Int):I64 (gQuo a b).1:=by unfold gQuo; split; exact ⟨by simp,by simp⟩; exact ze8 _
theorem hQuo_I64 (a b:Int):I64 (hQuo a b).1:=by unfold hQuo; split; exact ⟨by simp,by simp⟩; exact ze8 _
theorem modE_I64 (a b:Int):I64 (modE a b).1:=by unfold modE; split; exact ⟨by simp,by simp⟩; exact ze8 _
theorem VOK_neg (v:q00):VOK B (negV v).1:=vg9 (fun _ _=>ze8 _) (fun _ _=>ze8 _) _ _
theorem qs5 {x y:q03}{F:q00→q00→q03}(hx:VOK B x.1)(hy:VOK B y.1)(hF:VOK B (F x.1 y.1).1):VOK B (jo3 x y F).1:=by
 unfold jo3
 split
 ·exact hx
 split
 ·exact hy
 ·exact hF
theorem x02 {x:q03}{F:q00→q03}(hx:VOK B x.1)(hF:VOK B (F x.1).1):VOK B (um4 x F).1:=by
 unfold um4
 split
 ·exact hx
 ·exact hF
theorem kn9 {e:Int}{f:q00→q00→q00}{x y:q03}(hx:VOK B x.1)(hy:VOK B y.1)(hf:∀ a b,VOK B a→VOK B b→VOK B (f a b)):VOK B (ku1 e f x y).1:=by
 unfold ku1
 split
 ·exact zg3 hx
 split
 ·exact zg3 hy
 ·exact hf _ _ (zg3 hx) (zg3 hy)
theorem u41 {p:Int→Bool}(x y:q00):VOK B (k24 p x y).1:=by
 unfold k24
 split
 ·exact vn4 _
 split
 ·exact qh7 B
 ·exact zz2 B _
theorem VOK_eq {l:List Bool}{t:Bool}(x y:q00):VOK B (eqF l t x y).1:=by
 unfold eqF
 split
 ·exact zz2 B _
 split
 ·exact qh7 B
 split
 ·exact vn4 _
 ·exact zz2 B _
theorem qk7 {c:Prop} [Decidable c] {x y:q03} (hx:VOK B x.1) (hy:VOK B y.1):VOK B (if c then x else y).1:=by
 by_cases h:c
 ·rw [if_pos h]; exact hx
 ·rw [if_neg h]; exact hy
theorem VOK_op (op:Int){k:q34}(hk:KOK B k)(hB:B≤4294967280):VOK B (opF op k).1:=by
 have hx:=hk.get 0
 have hy:=hk.get 1
 have hz:=hk.get 2
 have hi:∀ a b:Int,I64 (gAdd a b).1:=fun _ _=>ze8 _
 have hj:∀ a b:Int,I64 (gSub a b).1:=fun _ _=>ze8 _
 unfold opF
 dsimp only
 refine qk7 ?_ ?_
 ·exact kn9 hx hy fun a b ha hb=>kk9 _ _ (VOK_true B) (by intro v hv; simp at hv; rcases hv with rfl | rfl <;> assumption)
 refine qk7 ?_ ?_
 ·exact kn9 hx hy fun a b ha hb=>VOK_not B _
 refine qk7 ?_ ?_
 ·unfold notA
  split
  ·exact VOK_not B _
  ·exact zg3 hx
 refine qk7 ?_ ?_
 ·exact qs5 hx hy (VOK_eq _ _)
 refine qk7 ?_ ?_
 ·exact qs5 hx hy (VOK_eq _ _)
 refine qk7 ?_ ?_
 ·exact qs5 hx hy (u41 _ _)
 refine qk7 ?_ ?_
 ·exact qs5 hx hy (u41 _ _)
 refine qk7 ?_ ?_
 ·exact qs5 hx hy (u41 _ _)
 refine qk7 ?_ ?_
 ·exact qs5 hx hy (u41 _ _)
 refine qk7 ?_ ?_
 ·exact qs5 hx hy (yv3 (zz2 B _))
 refine qk7 ?_ ?_
 ·exact qs5 hx hy (yv3 (zz2 B _))
 refine qk7 ?_ ?_
 ·exact qs5 hx hy (jd5 (vg9 hi hi _ _))
 refine qk7 ?_ ?_
 ·exact qs5 hx hy (jd5 (vg9 hj hj _ _))
 refine qk7 ?_ ?_
 ·exact qs5 hx hy (jd5 (vg9 (fun _ _=>ze8 _) (fun _ _=>ze8 _) _ _))
 refine qk7 ?_ ?_
 ·exact qs5 hx hy (jd5 (vg9 gQuo_I64 hQuo_I64 _ _))
 refine qk7 ?_ ?_
 ·exact x02 hx (jd5 (VOK_neg _))
 refine qk7 ?_ ?_
 ·refine x02 hx ?_
  unfold absF
  split
  ·exact vn4 _
  split
  ·exact jd5 (VOK_neg _)
  ·exact hx
 refine qk7 ?_ ?_
 ·exact qs5 hx hy (yv3 (jd5 ⟨by simp,by simp,modE_I64 _ _,by simp⟩))
 refine qk7 ?_ ?_
 ·exact x02 hx (yv3 ⟨by simp [zp9],by simp [zp9],⟨by dsimp only [zp9]; omega,by have:=hx.2.2.2; dsimp only [zp9]; omega⟩,by simp [zp9]⟩)
 refine qk7 ?_ ?_
 ·exact x02 hx (yv3 ⟨by simp [zp9],by simp [zp9],⟨by simp [zp9],by simp [zp9]⟩,by have:=hx.2.2.2; simpa [zp9] using this⟩)
 refine qk7 ?_ ?_
 ·unfold ifA
  split
  ·exact zg3 hx
  split
  ·exact hy
  ·exact hz
 ·exact vn4 _
theorem vm9 {F:List q00→Option q03}:∀ (l:List q03) (acc:List q00),(∃ a ∈ l,a.2.1≠0∧w99 F l acc=some a)∨((∀ a ∈ l,a.2.1=0)∧w99 F l acc=F (acc ++ l.map (·.1)))
 | [],acc=>.inr ⟨by simp,by simp [w99]⟩
 | a :: l,acc=>by
  unfold w99
  by_cases h:a.2.1=0
  ·rw [if_neg (by simp [h])]
   rcases vm9 l (acc ++ [a.1]) with ⟨b,h1,h2,h3⟩ | ⟨h1,h2⟩
   ·exact .inl ⟨b,by simp [h1],h2,h3⟩
   ·refine .inr ⟨?_,by rw [h2]; simp⟩
    intro b hb
    simp only [List.mem_cons] at hb
    rcases hb with rfl | hb
    ·exact h
    ·exact h1 b hb
  ·rw [if_pos h]
   exact .inl ⟨a,by simp,h,rfl⟩
theorem ur9 (k:q34):z49 k k.1.length=k.1:=by
 unfold z49
 apply List.ext_getElem
 ·simp
 ·intro i h1 h2
  simp only [List.getElem_map,List.getElem_range',Nat.zero_add,Nat.one_mul]
  unfold wo0
  rw [List.getD_eq_getElem?_getD,List.getElem?_eq_getElem h2]
  rfl
structure up7 (k:q34) (a:q03):Prop where
 ok:(a ∈ k.1∧a.2.1≠0)∨((∀ a ∈ k.1,a.2.1=0)∧∃ r,k77 (k.1.map (·.1)) r∧a=zv1 r)
theorem ky2 {N:Nat}(hN:1000000 < N){k:q34}(hk:KOK B k)(op:Int)(hop:op=19∨op=20):Tells (opO N op k) (up7 k):=by
 have hlen:=hk.len
 have hl:(k.1.map (·.1)).length=k.1.length:=by simp
 have hi:∀ v ∈ k.1.map (·.1),I64 v.2.1:=fun v hv=>by
  obtain ⟨a,h1,rfl⟩:=List.mem_map.1 hv
  exact (hk.ans a h1).2.2.1
 have main:∀ c:Int,Tells (w99 (fun l=>(qg2 N c l).bind fun r=>qc7 N r.1 r.2.1) k.1 []) (up7 k):=fun c=>by
  rcases vm9 (F:=fun l=>(qg2 N c l).bind fun r=>qc7 N r.1 r.2.1) k.1 [] with ⟨b,h1,h2,h3⟩ | ⟨h1,h2⟩
  ·rw [h3]
   exact Tells.some ⟨.inl ⟨h1,h2⟩⟩
  ·rw [h2,List.nil_append]
   refine Tells.bind (k51 (by omega) (by omega) (by omega) hi c) fun r hr=>?_
   rw [zv0]
   exact Tells.some ⟨.inr ⟨h1,r,hr,rfl⟩⟩
 unfold opO
 rcases hop with rfl | rfl
 ·show Tells (qu1 N 19 k) _
  have e:=js7 N k k.1.length (by omega) (by omega)
  rw [ur9] at e
  show Tells ((qh5 N k (k.1.length:Int)).bind fun r=>some r) _
  rw [e]
  refine Tells.bind (Q:=up7 k) ?_ fun r hr=>Tells.some hr
  have e2:qq3 N=fun l=>(qg2 N (-1) l).bind fun r=>qc7 N r.1 r.2.1:=by
   funext l
   unfold qq3 wl4 j92
   cases qg2 N (-1) l with
   | none=>rfl
   | some r=>simp only [Option.bind_some,zv0]
  rw [e2]
  exact main (-1)
 ·show Tells (qu1 N 20 k) _
  have e:=jx2 N k k.1.length (by omega) (by omega)
  rw [ur9] at e
  show Tells ((qh2 N k (k.1.length:Int)).bind fun r=>some r) _
  rw [e]
  refine Tells.bind (Q:=up7 k) ?_ fun r hr=>Tells.some hr
  have e2:qp8 N=fun l=>(qg2 N 1 l).bind fun r=>qc7 N r.1 r.2.1:=by
   funext l
   unfold qp8 wh4 y62
   cases qg2 N 1 l with
   | none=>rfl
   | some r=>simp only [Option.bind_some,zv0]
  rw [e2]
  exact main 1
theorem vg4 (l:List q00)(h:∀ v ∈ l,v.1=1∨v.1=2):xu5 l=1∨xu5 l=2:=by
 have:∀ (l:List q00) (k:Int),(∀ v ∈ l,v.1=1∨v.1=2)→(k=1∨k=2)→(l.foldl (fun k v=>vn1 k v.1) k=1∨l.foldl (fun k v=>vn1 k v.1) k=2):=by
  intro l
  induction l with
  | nil=>intro k _ h; exact h
  | cons v l ih =>
   intro k h1 h2
   rw [List.foldl_cons]
   refine ih _ (fun v hv=>h1 v (by simp [hv])) ?_
   have:=h1 v (by simp)
   unfold vn1
   split <;> omega
 exact this l 1 h (.inl rfl)
theorem VOK_most {k:q34}(hk:KOK B k){a:q03}(h:up7 k a):VOK B a.1:=by
 rcases h.ok with ⟨h1,_⟩ | ⟨h1,r,hr,rfl⟩
 ·exact hk.ans a h1
 ·unfold zv1
  by_cases e:r.2.1=0
  ·rw [if_neg (by simp [e])]
   rcases hr.ok e with ⟨h2,_⟩ | ⟨h2,h3,h4,h5⟩
   ·rw [h2]; exact qh7 B
   ·refine ⟨?_,?_,h4,by dsimp only [zp9]; rw [h5]; simp⟩
    ·have:=vg4 _ h2; dsimp only [zp9]; omega
    ·have:=vg4 _ h2; dsimp only [zp9]; omega
  ·rw [if_pos e]; exact vn4 _
theorem opO_tells {N:Nat}(hN:1000000 < N)(op:Int){k:q34}(hk:KOK B k)(hB:B≤4294967280):Tells (opO N op k) fun a=>VOK B a.1:=by
 by_cases h:op=19∨op=20
 ·exact (ky2 hN hk op h).mono fun a ha=>VOK_most hk ha
 ·rw [opO_is hN hk hB op (fun e=>h (.inl e)) (fun e=>h (.inr e))]
  exact Tells.some (VOK_op op hk hB)
end
def mayF (v:q00):Bool:=(w08 0 v).getD false
theorem uo5 (N:Nat)(v:q00):w08 N v=some (mayF v):=by
 have e:w08 N v=w08 0 v:=rfl
 have:∃ b,w08 0 v=some b:=by
  unfold w08 wt5 wu2
  repeat' first | exact ⟨_,rfl⟩ | (refine (fun {g:Bool} {x y:Option Bool} (h1:∃ z,x=some z) (h2:∃ z,y=some z)=>show ∃ z,(bif g then x else y)=some z by cases g <;> assumption) ?_ ?_)
 obtain ⟨b,hb⟩:=this
 unfold mayF
 rw [e,hb]; rfl
def wk4 (v:q00):q03:=if mayF v=true then zp9 v else ky7 2
theorem k60 (N:Nat)(v:q00):zj1 N v=some (wk4 v):=by
 unfold zj1 wk4
 rw [uo5,Option.bind_some]
 cases mayF v <;> rfl
def uv8 (vars:List q43)(name:List UInt8):q03:=match vars.find? (fun b=>b.1 == name) with
 | some b=>wk4 b.2.1
 | none=>ky7 11
def vq4 (n:q23)(self:q00)(vars:List q43):q03 :=
 if n.1=1 then wk4 n.2.1 else if n.1=3 then wk4 self else uv8 vars n.2.2.1
def vr8 (n:q23):Bool:=decide (n.1=1∨n.1=2∨n.1=3)
theorem look_is {N:Nat}(vars:List q43)(hv:vars.length≤1000000)(hN:vars.length < N)(n:q23)(self:q00)(h:n.1=2):z07 N n self vars=some (uv8 vars n.2.2.1,true,()):=by
 refine Tells.get ?_
 unfold z07 j88
 rw [h]
 refine Tells.no rfl (Tells.no rfl (Tells.ok rfl ?_))
 refine Tells.iter (fun (i:Int)=>∃ k:Nat,i=k∧k≤vars.length∧(vars.take k).find? (fun b=>b.1 == n.2.2.1)=none) (fun (i:Int)=>vars.length - i.toNat) ?_ N 0 ⟨0,rfl,by omega,rfl⟩ (by simpa using hN)
 rintro K i ⟨k,rfl,h1,h2⟩ hK
 unfold y54
 dsimp only
 refine Tells.dec (fun c=>?_) (fun c=>?_)
 ·have hk:k < vars.length:=by omega
  have ht:=yt0 vars k hk
  rw [ql8 hk]
  refine Tells.ok (qv5 (by omega) (by omega)) (Tells.ite (fun c2=>?_) (fun c2=>?_))
  ·rw [k60]
   refine Tells.some ?_
   have:vars.find? (fun b=>b.1 == n.2.2.1)=some vars[k]:=by
    have e:vars=vars.take k ++ vars[k] :: vars.drop (k + 1):=by rw [← List.drop_eq_getElem_cons hk,List.take_append_drop]
    have e2:=congrArg (List.find? (fun b=>b.1 == n.2.2.1)) e
    rw [e2,List.find?_append,h2]
    simp only [Option.none_or,List.find?_cons,c2]
   unfold uv8
   rw [this]
  ·refine Tells.ok (inI (by omega) (by omega)) (hK _ ⟨k + 1,by omega,by omega,?_⟩ (by omega))
   rw [ht,List.find?_append,h2]
   simp [c2]
 ·have:k=vars.length:=by omega
  subst this
  rw [List.take_length] at h2
  refine Tells.some ?_
  unfold uv8
  rw [h2]; rfl
theorem leaf_is {N:Nat}(vars:List q43)(hv:vars.length≤1000000)(hN:vars.length < N)(n:q23)(self:q00):z07 N n self vars=some (if vr8 n=true then (vq4 n self vars,true,()) else (a0,false,())):=by
 by_cases h2:n.1=2
 ·rw [look_is vars hv hN n self h2,if_pos (by simp [vr8,h2])]
  unfold vq4
  rw [if_neg (by omega),if_neg (by omega)]
 ·unfold z07 j88 vr8 vq4
  by_cases h1:n.1=1
  ·simp [h1,k60]
  ·by_cases h3:n.1=3
   ·simp [h3,k60]
   ·have e1:(n.1 == 1)=false:=by simpa using h1
    have e2:(n.1 == 2)=false:=by simpa using h2
    have e3:(n.1 == 3)=false:=by simpa using h3
    rw [e1,e2,e3,if_neg (by simp [h1,h2,h3])]
    rfl
def xy6 (l:List q03)(i:Nat)(a:Int):q03:=if 0≤a∧a < i then q24 l a a0 else a0
def kw7 (t:List q23)(i:Nat)(a:Int):Bool:=if 0≤a∧a < i then (q24 t a qd6).1 == 1 && (q24 t a qd6).2.1.1 == 0 else false
def xi6 (t:List q23)(l:List q03)(i:Nat)(ks:List Int):q34:=(ks.map (xy6 l i),ks.map (kw7 t i),())
def v42 (N:Nat)(self:q00)(vars:List q43)(n:q23)(k:q34):Option q03:=if vr8 n=true then some (vq4 n self vars) else opO N n.1 k
def yx4 (N:Nat)(self:q00)(vars:List q43)(t:List q23):Nat→Option (List q03)
 | 0=>some []
 | i + 1=>(yx4 N self vars t i).bind fun l=>(v42 N self vars (q24 t (i:Int) qd6) (xi6 t l i (q24 t (i:Int) qd6).2.2.2.1)).map fun a=>l ++ [a]
theorem y68 {N:Nat}{self:q00}{vars:List q43}{t:List q23}:∀ {i:Nat} {l:List q03},yx4 N self vars t i=some l→l.length=i
 | 0,l,h=>by cases h; rfl
 | i + 1,l,h=>by
  simp only [yx4] at h
  cases h1:yx4 N self vars t i with
  | none=>rw [h1] at h; cases h
  | some l0 =>
   rw [h1,Option.bind_some,Option.map_eq_some_iff] at h
   obtain ⟨a,_,rfl⟩:=h
   simp [y68 h1]
theorem nthD_app {α:Type}{l m:List α}{a:Int}{d:α}(h1:0≤a)(h2:a < l.length):q24 (l ++ m) a d=q24 l a d:=by
 obtain ⟨k,rfl⟩:∃ k:Nat,a=k:=⟨a.toNat,by omega⟩
 have hk:k < l.length:=by omega
 rw [ql8 (by simp; omega),ql8 hk,List.getElem_append_left hk]
theorem xt0 {N:Nat}{t:List q23}{self:q00}{vars:List q43}(hN:1000000 < N)(ht:t.length≤100000)(hv:vars.length≤100000)(hk:∀ n ∈ t,n.2.2.2.1.length≤100000)
  (HT:∀ i l,i < t.length→yx4 N self vars t i=some l→∃ a,v42 N self vars (q24 t (i:Int) qd6) (xi6 t l i (q24 t (i:Int) qd6).2.2.2.1)=some a) :
  Tells (qh4 N t self vars) fun r=>∃ l,yx4 N self vars t t.length=some l∧r=l.getLastD a0:=by
 unfold qh4 y28
 refine Tells.ok (by rw [jd2]; omega) ?_
 dsimp only
 refine Tells.iter (fun (e:Int×List q03×Int×Int×List UInt8×Int)=>∃ (i:Nat) (l:List q03),e.1=i∧i≤t.length∧yx4 N self vars t i=some l∧e.2.1=l ++ List.replicate (t.length - i) a0∧((e.2.2.1,e.2.2.2.1,e.2.2.2.2.1,()),e.2.2.2.2.2,())=l.getLastD a0)
  (fun (e:Int×List q03×Int×Int×List UInt8×Int)=>t.length - e.1.toNat) ?_ N _ ⟨0,[],rfl,by omega,rfl,by rw [Int.toNat_natCast]; rfl,rfl⟩ (by dsimp only; omega)
 rintro K ⟨i,all,lk,ln,ls,le⟩ ⟨i,l,e1,k1,k2,k3,k4⟩ hK
 dsimp only at e1 k1 k2 k3 k4 hK
 subst e1
 subst k3
 have ll:=y68 k2
 unfold ze2 zu9
 dsimp only
 refine Tells.dec (fun c=>?_) (fun c=>?_)
 ·have hi:i < t.length:=by omega
  obtain ⟨a,ha⟩:=HT i l hi k2
  have hmem:q24 t (i:Int) qd6 ∈ t:=wj2 (by omega) c
  have hks:=hk _ hmem
  refine Tells.ok (qv5 (by omega) (by omega)) ?_
  generalize hn:q24 t (i:Int) qd6=n at ha hks hmem ⊢
  obtain ⟨op,⟨vk,vn,vs,_⟩,nm,ks,⟨pl,pc,_⟩,_⟩:=n
  dsimp only at ha hks ⊢
  have lall:(l ++ List.replicate (t.length - i) a0).length=t.length:=by simp; omega
  refine Tells.iter (fun (e:Int×List q03×List Bool)=>∃ j:Nat,e.1=j∧j≤ks.length∧e.2.1=(ks.take j).map (xy6 l i)∧e.2.2=(ks.take j).map (kw7 t i)) (fun (e:Int×List q03×List Bool)=>ks.length - e.1.toNat) ?_ N _ ⟨0,rfl,by omega,rfl,rfl⟩ (by dsimp only; omega)
  rintro K1 ⟨j,kl,kn⟩ ⟨j,e1,g1,g2,g3⟩ hK1
  dsimp only at e1 g1 g2 g3 hK1
  subst e1 g2 g3
  unfold j96
  dsimp only
  refine Tells.dec (fun cj=>?_) (fun cj=>?_)
  ·have hj:j < ks.length:=by omega
   have ht':=yt0 ks j hj
   rw [ql8 hj]
   refine Tells.ok (qv5 (by omega) (by omega)) ?_
   generalize ks[j]=x at ht'
   have next:∀ (u:q03) (b:Bool),u=xy6 l i x→b=kw7 t i x→Tells (K1 ((j:Int) + 1,((ks.take j).map (xy6 l i) ++ ([u]:List q03)),((ks.take j).map (kw7 t i) ++ [b]))) fun r=>∃ l,yx4 N self vars t t.length=some l∧r=l.getLastD a0:=fun u b hu hb=>by
    subst hu hb
    exact hK1 _ ⟨j + 1,by dsimp only; omega,by omega,by rw [ht']; simp,by rw [ht']; simp⟩ (by dsimp only; omega)
   have f1:∀ u:q03,w23 (((ks.take j).map (xy6 l i)).length + ([u]:List q03).length) 3518437208883=true:=fun u=>yt2 (by simp; omega)
   have f2:∀ b:Bool,w23 (((ks.take j).map (kw7 t i)).length + [b].length) 140737488355328=true:=fun u=>yt2 (by simp; omega)
   have f3:q26 ((j:Int) + 1)=true:=inI (by omega) (by omega)
   refine Tells.dec (fun c1=>?_) (fun c1=>Tells.dec (fun c2=>?_) (fun c2=>?_))
   ·exact Tells.ok (f1 _) (Tells.ok (f2 _) (Tells.ok f3 (next _ _ (by unfold xy6; rw [if_neg (by omega)]; rfl) (by unfold kw7; rw [if_neg (by omega)]))))
   ·exact Tells.ok (f1 _) (Tells.ok (f2 _) (Tells.ok f3 (next _ _ (by unfold xy6; rw [if_neg (by omega)]; rfl) (by unfold kw7; rw [if_neg (by omega)]))))
   ·have h0:0≤x:=by omega
    have ea:q24 (l ++ List.replicate (t.length - i) a0) x ws5=xy6 l i x:=by
     unfold xy6
     rw [if_pos (by omega),nthD_app h0 (by omega)]
     rfl
    have en:kw7 t i x=((q24 t x qd6).1 == 1 && (q24 t x qd6).2.1.1 == 0):=by unfold kw7; rw [if_pos (by omega)]
    refine Tells.ok (qv5 h0 (by omega)) (Tells.ok (qv5 h0 (by omega)) (Tells.ok (f1 _) (Tells.ok (qv5 h0 (by omega)) (Tells.ite (fun c3=>?_) (fun c3=>?_)))))
    ·exact Tells.ok (qv5 h0 (by omega)) (Tells.ok (f2 _) (Tells.ok f3 (next _ _ ea (by rw [en,c3]; rfl))))
    ·exact Tells.ok (f2 _) (Tells.ok f3 (next _ _ ea (by rw [en,c3]; rfl)))
  ·have hj:j=ks.length:=by omega
   subst hj
   rw [List.take_length,leaf_is vars (by omega) (by omega),Option.bind_some]
   have fin:∀ u:q03,u=a→Tells (bif inR (i:Int) ((t.length:Int).toNat) then
     bif inR (i:Int) (l ++ List.replicate (t.length - i) a0).length then
     bif q26 ((i:Int) + 1) then
     K ((i:Int) + 1,(setD (l ++ List.replicate (t.length - i) a0) (i:Int) u),u.1.1,u.1.2.1,u.1.2.2.1,u.2.1)
     else none
     else none
     else none) fun r=>∃ l,yx4 N self vars t t.length=some l∧r=l.getLastD a0:=fun u hu=>by
    subst hu
    refine Tells.ok (qv5 (by omega) (by omega)) (Tells.ok (qv5 (by omega) (by omega)) (Tells.ok (inI (by omega) (by omega)) (hK _ ⟨i + 1,l ++ [u],by dsimp only; omega,by omega,?_,?_,?_⟩ (by dsimp only; omega))))
    ·simp only [yx4,k2,Option.bind_some]
     rw [hn]
     dsimp only
     rw [ha]
     rfl
    ·dsimp only
     unfold setD
     have e:List.replicate (t.length - i) a0=a0 :: List.replicate (t.length - (i + 1)) a0:=by
      rw [← List.replicate_succ]
      congr 1
      omega
     have e3:∀ r:List q03,(l ++ r).set i u=l ++ r.set (i - l.length) u:=fun r=>by rw [List.set_append,if_neg (by omega)]
     rw [Int.toNat_natCast,e,e3,show i - l.length=0 by omega,List.set_cons_zero]
     simp
    ·simp
   unfold v42 at ha
   have kk:((ks.map (xy6 l i)),(ks.map (kw7 t i)),())=xi6 t l i ks:=rfl
   rw [kk]
   by_cases hb:vr8 (op,(vk,vn,vs,()),nm,ks,(pl,pc,()),())=true
   ·rw [if_pos hb] at ha ⊢
    refine Tells.no rfl (Tells.no rfl (fin _ ?_))
    cases ha; rfl
   ·rw [if_neg hb] at ha ⊢
    refine Tells.ok rfl ?_
    unfold opO at ha
    dsimp only at ha
    cases h1:wd9 N op (xi6 t l i ks) with
    | none=>rw [h1] at ha; cases ha
    | some r1 =>
     rw [h1,Option.bind_some] at ha
     rw [Option.bind_some]
     cases h2:r1.2.1 with
     | false =>
      rw [h2,Bool.not_false,cond_true] at ha
      rw [Bool.not_false,cond_true,ha,Option.bind_some]
      exact fin _ rfl
     | true =>
      rw [h2,Bool.not_true,cond_false] at ha
      rw [Bool.not_true,cond_false]
      cases ha
      exact fin _ rfl
 ·have:i=t.length:=by omega
  subst this
  exact Tells.some ⟨l,k2,k4⟩
theorem xz1 {B:Nat}{v:q00}(h:VOK B v):VOK B (wk4 v).1:=by
 unfold wk4
 split
 ·exact h
 ·exact vn4 _
theorem VOK_leaf {B:Nat}{n:q23}{self:q00}{vars:List q43}(h1:VOK B n.2.1)(h2:VOK B self)(h3:∀ b ∈ vars,VOK B b.2.1):VOK B (vq4 n self vars).1:=by
 unfold vq4
 refine qk7 (xz1 h1) (qk7 (xz1 h2) ?_)
 unfold uv8
 split
 ·rename_i b hb
  exact xz1 (h3 b (List.mem_of_find?_eq_some hb))
 ·exact vn4 _
structure EvOK (N B:Nat) (t:List q23) (sf:q00) (vars:List q43):Prop where
 fuel:1000000 < N
 bound:B≤4294967280
 nodes:∀ n ∈ t,VOK B n.2.1∧n.2.2.2.1.length≤100000
 slf:VOK B sf
 vrs:∀ b ∈ vars,VOK B b.2.1
section
variable {N B:Nat} {t:List q23} {self:q00} {vars:List q43} (h:EvOK N B t self vars)
include h
theorem kk5 {l:List q03}(hl:∀ a ∈ l,VOK B a.1){i:Nat}(hi:i≤l.length){ks:List Int}(hk:ks.length≤100000):KOK B (xi6 t l i ks):=by
 refine ⟨fun a ha=>?_,by simpa [xi6] using hk⟩
 obtain ⟨x,_,rfl⟩:=List.mem_map.1 ha
 unfold xy6
 split
 ·exact hl _ (wj2 (by omega) (by omega))
 ·exact qh7 B
theorem vv5 {n:q23}(hn:VOK B n.2.1){k:q34}(hk:KOK B k):Tells (v42 N self vars n k) fun a=>VOK B a.1:=by
 unfold v42
 by_cases hb:vr8 n=true
 ·rw [if_pos hb]; exact Tells.some (VOK_leaf hn h.slf h.vrs)
 ·rw [if_neg hb]; exact opO_tells h.fuel _ hk h.bound
theorem xi1 :∀ i,i≤t.length→Tells (yx4 N self vars t i) fun l=>l.length=i∧∀ a ∈ l,VOK B a.1
 | 0,_=>Tells.some ⟨rfl,by simp⟩
 | i + 1,hi=>by
  obtain ⟨l,h1,h2,h3⟩:=xi1 i (by omega)
  have hm:q24 t (i:Int) qd6 ∈ t:=wj2 (by omega) (by omega)
  obtain ⟨g1,g2⟩:=h.nodes _ hm
  obtain ⟨a,h4,h5⟩:=vv5 h g1 (kk5 h h3 (i:=i) (by omega) g2)
  refine ⟨l ++ [a],?_,by simp [h2],fun b hb=>?_⟩
  ·simp only [yx4,h1,Option.bind_some,h4,Option.map_some]
  ·rcases List.mem_append.1 hb with hb | hb
   ·exact h3 b hb
   ·simp at hb; subst hb; exact h5
theorem j26 (ht:t.length≤100000)(hv:vars.length≤100000):Tells (qh4 N t self vars) fun r=>∃ l,yx4 N self vars t t.length=some l∧(∀ a ∈ l,VOK B a.1)∧r=l.getLastD a0:=by
 obtain ⟨r,h1,l,h2,h3⟩:=xt0 h.fuel ht hv (fun n hn=>(h.nodes n hn).2) (fun i l hi hl=>by
  obtain ⟨l',g1,g2,g3⟩:=xi1 h i (by omega)
  rw [hl] at g1
  cases g1
  have hm:q24 t (i:Int) qd6 ∈ t:=wj2 (by omega) (by omega)
  obtain ⟨q1,q2⟩:=h.nodes _ hm
  obtain ⟨a,h4,h5⟩:=vv5 h q1 (kk5 h g3 (i:=i) (by omega) q2)
  exact ⟨a,h4⟩)
 obtain ⟨l',g1,g2,g3⟩:=xi1 h t.length (by omega)
 rw [h2] at g1
 cases g1
 exact ⟨r,h1,l,h2,g3,h3⟩
end
theorem ks8 {N:Nat}{t:List q23}{self:q00}{vars more:List q43}(h:∀ n ∈ t,vq4 n self vars=vq4 n self more∨vr8 n=false):∀ i,i≤t.length→yx4 N self vars t i=yx4 N self more t i
 | 0,_=>rfl
 | i + 1,hi=>by
  simp only [yx4]
  rw [ks8 h i (by omega)]
  congr 1
  funext l
  have hm:q24 t (i:Int) qd6 ∈ t:=wj2 (by omega) (by omega)
  unfold v42
  rcases h _ hm with h1 | h1
  ·rw [h1]
  ·rw [h1]; rfl
theorem look_more (vars:List q43)(other:q43)(name:List UInt8)(h:other.1≠name):uv8 (([other] ++ vars) ++ vars.map fun b=>(b.1,other.2.1,())) name=uv8 vars name:=by
 have e:(([other] ++ vars) ++ vars.map fun b=>((b.1,other.2.1,()):q43)).find? (fun b=>b.1 == name)=vars.find? (fun b=>b.1 == name):=by
  have e1:(other.1 == name)=false:=by simpa using h
  simp only [List.singleton_append,List.cons_append,List.find?_cons,e1,List.find?_append]
  cases hf:vars.find? (fun b=>b.1 == name) with
  | some b=>rfl
  | none =>
   rw [List.find?_nil,Option.none_or,Option.none_or,List.find?_eq_none]
   intro x hx
   obtain ⟨b,hb,rfl⟩:=List.mem_map.1 hx
   exact List.find?_eq_none.1 hf b hb
 unfold uv8
 rw [e]
end Go.Proofs.YtgicljncknbgcaaGreat.Abs
