/- Expressions' answers: a node's answer. -/
import Derived.Test.YtgicljncknbgcaaGreatE1
set_option linter.unusedVariables false
set_option linter.unusedSimpArgs false
set_option linter.unusedSectionVars false
namespace Go.Proofs.YtgicljncknbgcaaGreat.Abs
open Go
def q99 (a:q03):q03:=if a.2.1=0∧a.1.1≠4∧a.1.1≠0 then kc1 8 else a
def jo7 (ends:Int)(f:q00→q00→q00)(x y:q03):q03 :=
 if (q99 x).2.1≠0∨((q99 x).1.1=4∧(q99 x).1.2.1=ends) then q99 x
 else if (q99 y).2.1≠0 then q99 y else w60 (f (q99 x).1 (q99 y).1)
def allV (a b:q00):q00:=allS xd7 [a,b]
def anyV (a b:q00):q00:=ul7 (allS xd7 [ul7 a,ul7 b])
def v30 (x:q03):q03:=if (q99 x).2.1=0 then w60 (ul7 (q99 x).1) else q99 x
def ub3 (x:q03)(F:q00→q03):q03:=if x.2.1≠0 then x else F x.1
def zf6 (x y:q03)(F:q00→q00→q03):q03:=if x.2.1≠0 then x else if y.2.1≠0 then y else F x.1 y.1
def ifA (x y z:q03):q03 :=
 if (q99 x).2.1≠0∨(q99 x).1.1=0 then q99 x else if (q99 x).1.2.1=1 then y else z
def opF (op:Int)(k:q34):q03 :=
 let x:=wo0 k 0
 let y:=wo0 k 1
 if op=5 then jo7 0 allV x y
 else if op=4 then jo7 1 anyV x y
 else if op=6 then v30 x
 else if op=7 then zf6 x y (eqF k.2.1 true)
 else if op=8 then zf6 x y (eqF k.2.1 false)
 else if op=9 then zf6 x y (vq3 fun c=>decide (c < 0))
 else if op=10 then zf6 x y (vq3 fun c=>decide (c≤0))
 else if op=11 then zf6 x y (vq3 fun c=>decide (c > 0))
 else if op=12 then zf6 x y (vq3 fun c=>decide (c ≥ 0))
 else if op=24 then zf6 x y fun a b=>zn5 3 [a,b] (w60 (w14 (Lib.contains a.2.2.1 b.2.2.1)))
 else if op=25 then zf6 x y fun a b=>zn5 3 [a,b] (w60 (w14 (headF a.2.2.1 b.2.2.1)))
 else if op=13 then zf6 x y fun a b=>zo1 (doS gAdd gAdd a b)
 else if op=14 then zf6 x y fun a b=>zo1 (doS gSub gSub a b)
 else if op=15 then zf6 x y fun a b=>zo1 (doS gMul hMul a b)
 else if op=16 then zf6 x y fun a b=>zo1 (doS gQuo hQuo a b)
 else if op=17 then ub3 x fun a=>zo1 (negV a)
 else if op=18 then ub3 x absF
 else if op=21 then zf6 x y fun a b=>zn5 1 [a,b] (zo1 ((1,(modE a.2.1 b.2.1).1,[],()),(modE a.2.1 b.2.1).2.1,()))
 else if op=22 then ub3 x fun a=>zn5 3 [a] (w60 (1,(a.2.2.1.length:Int),[],()))
 else if op=23 then ub3 x fun a=>zn5 3 [a] (w60 (3,0,a.2.2.1.map Abs.Upper.upB,()))
 else if op=26 then ifA x y (wo0 k 2)
 else kc1 2
def opO (N:Nat)(op:Int)(k:q34):Option q03:=(we1 N op k).bind fun r=>bif (!r.2.1) then qu9 N op k else some r.1
structure KOK (B:Nat) (k:q34):Prop where
 ans:∀ a ∈ k.1,VOK B a.1
 len:k.1.length≤100000
section
variable {B:Nat}
theorem KOK.get {k:q34}(h:KOK B k)(i:Nat):VOK B (wo0 k i).1:=by
 unfold wo0
 rw [List.getD_eq_getElem?_getD]
 cases h1:k.1[i]? with
 | none=>exact qh8 B
 | some a=>exact h.ans a (List.mem_of_getElem? h1)
theorem wb9 {N:Nat}{k:q34}{F:List q00→Option q03}{f:q00→q00→q03}(hF:(F [(wo0 k 0).1,(wo0 k 1).1])=some (f (wo0 k 0).1 (wo0 k 1).1)):wb0 F (z54 k 2) []=some (zf6 (wo0 k 0) (wo0 k 1) f):=by
 have e:z54 k 2=[wo0 k 0,wo0 k 1]:=rfl
 rw [e]
 unfold zf6
 simp only [wb0,List.nil_append,List.singleton_append]
 by_cases h1:(wo0 k 0).2.1=0
 ·by_cases h2:(wo0 k 1).2.1=0
  ·simp only [h1,h2,ne_eq,not_true,if_false]; exact hF
  ·simp [h1,h2]
 ·simp [h1]
theorem v36 {N:Nat}{k:q34}{F:List q00→Option q03}{f:q00→q03}(hF:(F [(wo0 k 0).1])=some (f (wo0 k 0).1)):wb0 F (z54 k 1) []=some (ub3 (wo0 k 0) f):=by
 have e:z54 k 1=[wo0 k 0]:=rfl
 rw [e]
 unfold ub3
 simp only [wb0,List.nil_append]
 by_cases h1:(wo0 k 0).2.1=0
 ·simp only [h1,ne_eq,not_true,if_false]; exact hF
 ·simp [h1]
theorem v28 (N:Nat)(k:q34)(i:Nat):q84 N k (i:Int)=some (q99 (wo0 k i)):=by
 unfold q84 q99
 rw [kk1,Option.bind_some]
 by_cases h1:(wo0 k i).2.1=0
 ·by_cases h2:(wo0 k i).1.1=4
  ·simp [h1,h2]
  ·by_cases h3:(wo0 k i).1.1=0
   ·simp [h1,h3]
   ·have e2:((wo0 k i).1.1 != 4)=true:=by simpa using h2
    have e3:((wo0 k i).1.1 != 0)=true:=by simpa using h3
    have e1:((wo0 k i).2.1 == 0)=true:=by simpa using h1
    rw [e1,e2,e3,if_pos ⟨h1,h2,h3⟩]
    rfl
 ·have e1:((wo0 k i).2.1 == 0)=false:=by simpa using h1
  rw [e1,if_neg (fun h=>h1 h.1)]; rfl
section
variable {N:Nat} (hN:1000000 < N) {k:q34} (hk:KOK B k) (hB:B≤4294967280)
include hN hk hB
theorem both_is (ends:Int)(q:List q00→Option q00)(f:q00→q00→q00)(hq:∀ a b,q [a,b]=some (f a b)):((q84 N k 0).bind fun (r:q03) =>
 bif (r.2.1 != 0) then
  some r
 else
  bif (r.1.1 == 4) then
   bif (r.1.2.1 == ends) then
    some r
   else
    (q84 N k 1).bind fun (r1:q03) =>
    bif (r1.2.1 != 0) then
     some r1
    else
     (q ([r.1,r1.1]:List q00)).bind fun (r2:q00) =>
     some (r2,0,())
  else
   (q84 N k 1).bind fun (r3:q03) =>
   bif (r3.2.1 != 0) then
    some r3
   else
    (q ([r.1,r3.1]:List q00)).bind fun (r4:q00) =>
    some (r4,0,()))=some (jo7 ends f (wo0 k 0) (wo0 k 1)):=by
 have t0:=v28 N k 0
 have t1:=v28 N k 1
 have z0:((0:Nat):Int)=0:=rfl
 have z1:((1:Nat):Int)=1:=rfl
 rw [z0] at t0
 rw [z1] at t1
 simp only [t0,t1,Option.bind_some,hq]
 unfold jo7
 generalize q99 (wo0 k 0)=a
 generalize q99 (wo0 k 1)=b
 by_cases h1:a.2.1=0
 ·by_cases h2:a.1.1=4
  ·by_cases h3:a.1.2.1=ends
   ·simp [h1,h2,h3]
   ·by_cases h4:b.2.1=0
    ·have e3:(a.1.2.1 == ends)=false:=by simpa using h3
     simp [h1,h2,h3,h4,e3,w60]
    ·have e3:(a.1.2.1 == ends)=false:=by simpa using h3
     have e4:(b.2.1 != 0)=true:=by simpa using h4
     simp [h1,h2,h3,h4,e3,e4]
  ·have e2:(a.1.1 == 4)=false:=by simpa using h2
   by_cases h4:b.2.1=0
   ·simp [h1,h2,e2,h4,w60]
   ·have e4:(b.2.1 != 0)=true:=by simpa using h4
    simp [h1,h2,e2,h4,e4]
 ·have e1:(a.2.1 != 0)=true:=by simpa using h1
  simp [h1,e1]
theorem opO_is (op:Int)(h19:op≠19)(h20:op≠20):opO N op k=some (opF op k):=by
 have z0:((0:Nat):Int)=0:=rfl
 have z1:((1:Nat):Int)=1:=rfl
 have z2:((2:Nat):Int)=2:=rfl
 have hx:=hk.get 0
 have hy:=hk.get 1
 have i0:=hx.2.2.1
 have i1:=hy.2.2.1
 have w:∀ n:Int,(n == n)=true:=fun n=>by simp
 unfold opO we1 j97
 have ne:∀ {n:Int},op≠n→(op == n)=false:=fun h=>by simpa using h
 by_cases h5:op=5
 ·subst h5
  have:=both_is hN hk hB 0 (wl5 N) allV (fun a b=>by rw [xv5 N _ (by simp) (by simp; omega)]; rfl)
  show (((wb3 N k 0).bind fun (r:q03)=>some (r,true,())).bind _)=_
  unfold wb3
  rw [this]
  rfl
 rw [ne h5,cond_false]
 by_cases h4:op=4
 ·subst h4
  have:=both_is hN hk hB 1 (z10 N) anyV (fun a b=>by rw [k43 N _ (by simp) (by simp; omega)]; rfl)
  show (((qs1 N k 1).bind fun (r:q03)=>some (r,true,())).bind _)=_
  unfold qs1
  rw [this]
  rfl
 rw [ne h4,cond_false]
 by_cases h6:op=6
 ·subst h6
  have t0:=v28 N k 0
  rw [z0] at t0
  rw [w,cond_true,t0,Option.bind_some]
  show _=some (v30 (wo0 k 0))
  unfold v30
  by_cases e:(q99 (wo0 k 0)).2.1=0
  ·have e':((q99 (wo0 k 0)).2.1 == 0)=true:=by simpa using e
   rw [e',cond_true,y60,if_pos e,e]
   rfl
  ·have e':((q99 (wo0 k 0)).2.1 == 0)=false:=by simpa using e
   rw [e',cond_false,if_neg e]
   rfl
 rw [ne h6,cond_false]
 have equal:∀ t:Bool,w21 N k t=some (zf6 (wo0 k 0) (wo0 k 1) (eqF k.2.1 t)):=fun t=>by
  unfold w21
  have e:=xe0 N k 2 k.1 k.2.1 t (by omega) (by omega)
  rw [z2] at e
  rw [e,wb9 (N:=N) (f:=eqF k.2.1 t) (by unfold z47; rw [q0b (by omega) _ _ _ _ _ i0 i1]; rfl)]
  rfl
 by_cases h7:op=7
 ·subst h7
  rw [w,cond_true]
  dsimp only
  rw [qb8 (by omega)]
  unfold wt3
  have e:(k.1,k.2.1,())=k:=rfl
  rw [e,w,equal]
  rfl
 rw [ne h7,cond_false]
 by_cases h8:op=8
 ·subst h8
  rw [w,cond_true]
  dsimp only
  rw [qb8 (by omega)]
  unfold wt3
  have e:(k.1,k.2.1,())=k:=rfl
  have e2:((8:Int) == 7)=false:=rfl
  rw [e,e2,equal]
  rfl
 rw [ne h8,cond_false]
 by_cases h9:op=9
 ·subst h9
  have e:=yb1 N k 2 (by omega) (by omega)
  rw [z2] at e
  rw [w,cond_true,e,wb9 (N:=N) (f:=vq3 fun c=>decide (c < 0)) (by unfold wf3; rw [order_lt (by omega) _ _ i0 i1]; rfl)]
  rfl
 rw [ne h9,cond_false]
 by_cases h10:op=10
 ·subst h10
  have e:=ya6 N k 2 (by omega) (by omega)
  rw [z2] at e
  rw [w,cond_true,e,wb9 (N:=N) (f:=vq3 fun c=>decide (c≤0)) (by unfold we8; rw [order_le (by omega) _ _ i0 i1]; rfl)]
  rfl
 rw [ne h10,cond_false]
 by_cases h11:op=11
 ·subst h11
  have e:=yd0 N k 2 (by omega) (by omega)
  rw [z2] at e
  rw [w,cond_true,e,wb9 (N:=N) (f:=vq3 fun c=>decide (c > 0)) (by unfold wf4; rw [order_gt (by omega) _ _ i0 i1]; rfl)]
  rfl
 rw [ne h11,cond_false]
 by_cases h12:op=12
 ·subst h12
  have e:=ye1 N k 2 (by omega) (by omega)
  rw [z2] at e
  rw [w,cond_true,e,wb9 (N:=N) (f:=vq3 fun c=>decide (c ≥ 0)) (by unfold we9; rw [order_ge (by omega) _ _ i0 i1]; rfl)]
  rfl
 rw [ne h12,cond_false]
 by_cases h24:op=24
 ·subst h24
  have e:=yg1 N k 2 3 (by omega) (by omega)
  rw [z2] at e
  rw [w,cond_true,e,wb9 (N:=N) (f:=fun a b=>zn5 3 [a,b] (w60 (w14 (Lib.contains a.2.2.1 b.2.2.1)))) (by unfold wf7; rw [has_is (by omega) _ _ (by have:=hx.2.2.2; omega)]; rfl)]
  rfl
 rw [ne h24,cond_false]
 by_cases h25:op=25
 ·subst h25
  have e:=yf2 N k 2 3 (by omega) (by omega)
  rw [z2] at e
  rw [w,cond_true,e,wb9 (N:=N) (f:=fun a b=>zn5 3 [a,b] (w60 (w14 (headF a.2.2.1 b.2.2.1)))) (by unfold wg0; rw [starts_is (by omega)]; rfl)]
  rfl
 rw [ne h25,cond_false,Option.bind_some]
 show qu9 N op k=_
 unfold qu9
 have n0:∀ a b:q00,q25 [a,b] 0 q30=a:=fun _ _=>rfl
 have n1:∀ a b:q00,q25 [a,b] 1 q30=b:=fun _ _=>rfl
 have m0:∀ a b:q00,inR 0 [a,b].length=true:=fun _ _=>rfl
 have m1:∀ a b:q00,inR 1 [a,b].length=true:=fun _ _=>rfl
 by_cases h13:op=13
 ·subst h13
  have e:=ye6 N k 2 (by omega) (by omega)
  rw [z2] at e
  rw [w,cond_true,e,wb9 (N:=N) (f:=fun a b=>zo1 (doS gAdd gAdd a b)) (by unfold wf9; rw [m0,cond_true,m1,cond_true,n0,n1,un5 N (by omega) _ _ i0 i1,Option.bind_some,zw9]; rfl)]
  rfl
 rw [ne h13,cond_false]
 by_cases h14:op=14
 ·subst h14
  have e:=yg4 N k 2 (by omega) (by omega)
  rw [z2] at e
  rw [w,cond_true,e,wb9 (N:=N) (f:=fun a b=>zo1 (doS gSub gSub a b)) (by unfold wd6; rw [m0,cond_true,m1,cond_true,n0,n1,xu4 N (by omega) _ _ i0 i1,Option.bind_some,zw9]; rfl)]
  rfl
 rw [ne h14,cond_false]
 by_cases h15:op=15
 ·subst h15
  have e:=yc9 N k 2 (by omega) (by omega)
  rw [z2] at e
  rw [w,cond_true,e,wb9 (N:=N) (f:=fun a b=>zo1 (doS gMul hMul a b)) (by unfold we7; rw [m0,cond_true,m1,cond_true,n0,n1,k03 N (by omega) _ _ i0 i1,Option.bind_some,zw9]; rfl)]
  rfl
 rw [ne h15,cond_false]
 by_cases h16:op=16
 ·subst h16
  have e:=jq4 N k 2 (by omega) (by omega)
  rw [z2] at e
  rw [w,cond_true,e,wb9 (N:=N) (f:=fun a b=>zo1 (doS gQuo hQuo a b)) (by unfold w72; rw [m0,cond_true,m1,cond_true,n0,n1,ux5 N (by omega) _ _ i0 i1,Option.bind_some,zw9]; rfl)]
  rfl
 rw [ne h16,cond_false]
 by_cases h17:op=17
 ·subst h17
  have e:=jy9 N k 1 (by omega) (by omega)
  rw [z1] at e
  rw [w,cond_true,e,v36 (N:=N) (f:=fun a=>zo1 (negV a)) (by unfold w63 wj7; rw [show inR 0 [(wo0 k 0).1].length=true from rfl,cond_true,show q25 [(wo0 k 0).1] 0 q30=(wo0 k 0).1 from rfl,neg_is (by omega) _ i0,Option.bind_some,zw9]; rfl)]
  rfl
 rw [ne h17,cond_false,ne h19,cond_false,ne h20,cond_false]
 by_cases h18:op=18
 ·subst h18
  have e:=y46 N k 1 (by omega) (by omega)
  rw [z1] at e
  rw [w,cond_true,e,v36 (N:=N) (f:=absF) (by unfold w69; rw [abs_is (by omega) _ i0]; rfl)]
  rfl
 rw [ne h18,cond_false]
 by_cases h21:op=21
 ·subst h21
  have e:=jw8 N k 2 1 (by omega) (by omega)
  rw [z2] at e
  rw [w,cond_true,e,wb9 (N:=N) (f:=fun a b=>zn5 1 [a,b] (zo1 ((1,(modE a.2.1 b.2.1).1,[],()),(modE a.2.1 b.2.1).2.1,()))) (by unfold wa4; rw [mod_is (by omega) _ _ i0 i1]; rfl)]
  rfl
 rw [ne h21,cond_false]
 by_cases h22:op=22
 ·subst h22
  have e:=y05 N k 1 3 (by omega) (by omega)
  rw [z1] at e
  rw [w,cond_true,e,v36 (N:=N) (f:=fun a=>zn5 3 [a] (w60 (1,(a.2.2.1.length:Int),[],()))) (by unfold w86; rw [len_is (by omega)]; rfl)]
  rfl
 rw [ne h22,cond_false]
 by_cases h23:op=23
 ·subst h23
  have e:=jz3 N k 1 3 (by omega) (by omega)
  rw [z1] at e
  rw [w,cond_true,e,v36 (N:=N) (f:=fun a=>zn5 3 [a] (w60 (3,0,a.2.2.1.map Abs.Upper.upB,()))) (by unfold w68; rw [up_is (by omega) _ (by have:=hx.2.2.2; omega)]; rfl)]
  rfl
 rw [ne h23,cond_false]
 by_cases h26:op=26
 ·subst h26
  rw [w,cond_true]
  unfold wc0
  have t0:=v28 N k 0
  have g1:=kk1 N k 1
  have g2:=kk1 N k 2
  rw [z0] at t0
  rw [z1] at g1
  rw [z2] at g2
  rw [t0,Option.bind_some,g1,g2]
  show _=some (ifA (wo0 k 0) (wo0 k 1) (wo0 k 2))
  unfold ifA
  generalize q99 (wo0 k 0)=a
  by_cases q1:a.2.1=0
  ·by_cases q2:a.1.1=0
   ·simp [q1,q2]
   ·have e2:(a.1.1 == 0)=false:=by simpa using q2
    by_cases q3:a.1.2.1=1
    ·simp [q1,q2,q3,e2]
    ·have e3:(a.1.2.1 == 1)=false:=by simpa using q3
     simp [q1,q2,q3,e2,e3]
  ·have e1:(a.2.1 != 0)=true:=by simpa using q1
   simp [q1,e1]
 rw [ne h26,cond_false]
 unfold opF
 simp only [h4,h5,h6,h7,h8,h9,h10,h11,h12,h13,h14,h15,h16,h17,h18,h21,h22,h23,h24,h25,h26,if_false]
 rfl
end
end
theorem j06 (B:Nat)(b:Bool):VOK B (w14 b):=by unfold w14; cases b <;> exact ⟨by simp,by simp,⟨by simp,by simp⟩,by simp⟩
theorem VOK_not (B:Nat)(v:q00):VOK B (ul7 v):=by
 unfold ul7
 split
 ·exact j06 B _
 ·exact qh8 B
theorem ko9 {B:Nat}:∀ (l:List q00) (out:q00),VOK B out→(∀ v ∈ l,VOK B v)→VOK B (allS out l)
 | [],out,h,_=>h
 | v :: l,out,h,hl=>by
  unfold allS
  split
  ·exact hl v (by simp)
  ·refine ko9 l _ ?_ fun v hv=>hl v (by simp [hv])
   split
   ·exact h
   ·exact qh8 B
theorem VOK_true (B:Nat):VOK B xd7:=⟨by simp [xd7],by simp [xd7],⟨by simp [xd7],by simp [xd7]⟩,by simp [xd7]⟩
section
variable {B:Nat}
theorem VOK_V {v:q00}(h:VOK B v):VOK B (w60 v).1:=h
theorem vs9 (e:Int):VOK B (kc1 e).1:=qh8 B
theorem jd3 {r:q00×Int×Unit}(h:VOK B r.1):VOK B (zo1 r).1:=by
 unfold zo1
 split
 ·exact vs9 _
 ·exact h
theorem zh6 {a:q03}(h:VOK B a.1):VOK B (q99 a).1:=by
 unfold q99
 split
 ·exact vs9 _
 ·exact h
theorem x70 {k:Int}{l:List q00}{G:q03}(h:VOK B G.1):VOK B (zn5 k l G).1:=by
 unfold zn5
 split
 ·exact vs9 _
 ·split
  ·exact qh8 B
  ·exact h
theorem VOK_fin {k:Int}(hk:0≤k∧k≤255){r:Int×Int×Unit}(h:I64 r.1):VOK B (finV k r).1:=by
 unfold finV
 split
 ·exact qh8 B
 ·exact ⟨hk.1,hk.2,h,by simp⟩
theorem vg8 {g h:Int→Int→Int×Int×Unit}(hg:∀ a b,I64 (g a b).1)(hh:∀ a b,I64 (h a b).1)(a b:q00):VOK B (doS g h a b).1:=by
 unfold doS
 split
 ·exact qh8 B
 split
 ·exact qh8 B
 split
 ·exact VOK_fin (by omega) (hg _ _)
 split
 ·exact qh8 B
 ·exact VOK_fin (by omega) (hh _ _)
theorem gQuo_I64 (a b:Int):I64 (gQuo a b).1:=by unfold gQuo; split; exact ⟨by simp,by simp⟩; exact zg1 _
theorem hQuo_I64 (a b:Int):I64 (hQuo a b).1:=by unfold hQuo; split; exact ⟨by simp,by simp⟩; exact zg1 _
theorem modE_I64 (a b:Int):I64 (modE a b).1:=by unfold modE; split; exact ⟨by simp,by simp⟩; exact zg1 _
theorem VOK_neg (v:q00):VOK B (negV v).1:=vg8 (fun _ _=>zg1 _) (fun _ _=>zg1 _) _ _
theorem qt0 {x y:q03}{F:q00→q00→q03}(hx:VOK B x.1)(hy:VOK B y.1)(hF:VOK B (F x.1 y.1).1):VOK B (zf6 x y F).1:=by
 unfold zf6
 split
 ·exact hx
 split
 ·exact hy
 ·exact hF
theorem yy1 {x:q03}{F:q00→q03}(hx:VOK B x.1)(hF:VOK B (F x.1).1):VOK B (ub3 x F).1:=by
 unfold ub3
 split
 ·exact hx
 ·exact hF
theorem ko1 {e:Int}{f:q00→q00→q00}{x y:q03}(hx:VOK B x.1)(hy:VOK B y.1)(hf:∀ a b,VOK B a→VOK B b→VOK B (f a b)):VOK B (jo7 e f x y).1:=by
 unfold jo7
 split
 ·exact zh6 hx
 split
 ·exact zh6 hy
 ·exact hf _ _ (zh6 hx) (zh6 hy)
theorem uj4 {p:Int→Bool}(x y:q00):VOK B (vq3 p x y).1:=by
 unfold vq3
 split
 ·exact vs9 _
 split
 ·exact qh8 B
 ·exact j06 B _
theorem VOK_eq {l:List Bool}{t:Bool}(x y:q00):VOK B (eqF l t x y).1:=by
 unfold eqF
 split
 ·exact j06 B _
 split
 ·exact qh8 B
 split
 ·exact vs9 _
 ·exact j06 B _
theorem ql2 {c:Prop} [Decidable c] {x y:q03} (hx:VOK B x.1) (hy:VOK B y.1):VOK B (if c then x else y).1:=by
 by_cases h:c
 ·rw [if_pos h]; exact hx
 ·rw [if_neg h]; exact hy
theorem VOK_op (op:Int){k:q34}(hk:KOK B k)(hB:B≤4294967280):VOK B (opF op k).1:=by
 have hx:=hk.get 0
 have hy:=hk.get 1
 have hz:=hk.get 2
 have hi:∀ a b:Int,I64 (gAdd a b).1:=fun _ _=>zg1 _
 have hj:∀ a b:Int,I64 (gSub a b).1:=fun _ _=>zg1 _
 unfold opF
 dsimp only
 refine ql2 ?_ ?_
 ·exact ko1 hx hy fun a b ha hb=>ko9 _ _ (VOK_true B) (by intro v hv; simp at hv; rcases hv with rfl | rfl <;> assumption)
 refine ql2 ?_ ?_
 ·exact ko1 hx hy fun a b ha hb=>VOK_not B _
 refine ql2 ?_ ?_
 ·unfold v30
  split
  ·exact VOK_not B _
  ·exact zh6 hx
 refine ql2 ?_ ?_
 ·exact qt0 hx hy (VOK_eq _ _)
 refine ql2 ?_ ?_
 ·exact qt0 hx hy (VOK_eq _ _)
 refine ql2 ?_ ?_
 ·exact qt0 hx hy (uj4 _ _)
 refine ql2 ?_ ?_
 ·exact qt0 hx hy (uj4 _ _)
 refine ql2 ?_ ?_
 ·exact qt0 hx hy (uj4 _ _)
 refine ql2 ?_ ?_
 ·exact qt0 hx hy (uj4 _ _)
 refine ql2 ?_ ?_
 ·exact qt0 hx hy (x70 (j06 B _))
 refine ql2 ?_ ?_
 ·exact qt0 hx hy (x70 (j06 B _))
 refine ql2 ?_ ?_
 ·exact qt0 hx hy (jd3 (vg8 hi hi _ _))
 refine ql2 ?_ ?_
 ·exact qt0 hx hy (jd3 (vg8 hj hj _ _))
 refine ql2 ?_ ?_
 ·exact qt0 hx hy (jd3 (vg8 (fun _ _=>zg1 _) (fun _ _=>zg1 _) _ _))
 refine ql2 ?_ ?_
 ·exact qt0 hx hy (jd3 (vg8 gQuo_I64 hQuo_I64 _ _))
 refine ql2 ?_ ?_
 ·exact yy1 hx (jd3 (VOK_neg _))
 refine ql2 ?_ ?_
 ·refine yy1 hx ?_
  unfold absF
  split
  ·exact vs9 _
  split
  ·exact jd3 (VOK_neg _)
  ·exact hx
 refine ql2 ?_ ?_
 ·exact qt0 hx hy (x70 (jd3 ⟨by simp,by simp,modE_I64 _ _,by simp⟩))
 refine ql2 ?_ ?_
 ·exact yy1 hx (x70 ⟨by simp [w60],by simp [w60],⟨by dsimp only [w60]; omega,by have:=hx.2.2.2; dsimp only [w60]; omega⟩,by simp [w60]⟩)
 refine ql2 ?_ ?_
 ·exact yy1 hx (x70 ⟨by simp [w60],by simp [w60],⟨by simp [w60],by simp [w60]⟩,by have:=hx.2.2.2; simpa [w60] using this⟩)
 refine ql2 ?_ ?_
 ·unfold ifA
  split
  ·exact zh6 hx
  split
  ·exact hy
  ·exact hz
 ·exact vs9 _
theorem v58 {F:List q00→Option q03}:∀ (l:List q03) (acc:List q00),(∃ a ∈ l,a.2.1≠0∧wb0 F l acc=some a)∨((∀ a ∈ l,a.2.1=0)∧wb0 F l acc=F (acc ++ l.map (·.1)))
 | [],acc=>.inr ⟨by simp,by simp [wb0]⟩
 | a :: l,acc=>by
  unfold wb0
  by_cases h:a.2.1=0
  ·rw [if_neg (by simp [h])]
   rcases v58 l (acc ++ [a.1]) with ⟨b,h1,h2,h3⟩ | ⟨h1,h2⟩
   ·exact .inl ⟨b,by simp [h1],h2,h3⟩
   ·refine .inr ⟨?_,by rw [h2]; simp⟩
    intro b hb
    simp only [List.mem_cons] at hb
    rcases hb with rfl | hb
    ·exact h
    ·exact h1 b hb
  ·rw [if_pos h]
   exact .inl ⟨a,by simp,h,rfl⟩
theorem uu7 (k:q34):z54 k k.1.length=k.1:=by
 unfold z54
 apply List.ext_getElem
 ·simp
 ·intro i h1 h2
  simp only [List.getElem_map,List.getElem_range',Nat.zero_add,Nat.one_mul]
  unfold wo0
  rw [List.getD_eq_getElem?_getD,List.getElem?_eq_getElem h2]
  rfl
structure u44 (k:q34) (a:q03):Prop where
 ok:(a ∈ k.1∧a.2.1≠0)∨((∀ a ∈ k.1,a.2.1=0)∧∃ r,kd0 (k.1.map (·.1)) r∧a=zo1 r)
theorem u21 {N:Nat}(hN:1000000 < N){k:q34}(hk:KOK B k)(op:Int)(hop:op=19∨op=20):Tells (opO N op k) (u44 k):=by
 have hlen:=hk.len
 have hl:(k.1.map (·.1)).length=k.1.length:=by simp
 have hi:∀ v ∈ k.1.map (·.1),I64 v.2.1:=fun v hv=>by
  obtain ⟨a,h1,rfl⟩:=List.mem_map.1 hv
  exact (hk.ans a h1).2.2.1
 have main:∀ c:Int,Tells (wb0 (fun l=>(qf8 N c l).bind fun r=>qd1 N r.1 r.2.1) k.1 []) (u44 k):=fun c=>by
  rcases v58 (F:=fun l=>(qf8 N c l).bind fun r=>qd1 N r.1 r.2.1) k.1 [] with ⟨b,h1,h2,h3⟩ | ⟨h1,h2⟩
  ·rw [h3]
   exact Tells.some ⟨.inl ⟨h1,h2⟩⟩
  ·rw [h2,List.nil_append]
   refine Tells.bind (kb5 (by omega) (by omega) (by omega) hi c) fun r hr=>?_
   rw [zw9]
   exact Tells.some ⟨.inr ⟨h1,r,hr,rfl⟩⟩
 unfold opO
 rcases hop with rfl | rfl
 ·show Tells (qu9 N 19 k) _
  have e:=jw4 N k k.1.length (by omega) (by omega)
  rw [uu7] at e
  show Tells ((qh5 N k (k.1.length:Int)).bind fun r=>some r) _
  rw [e]
  refine Tells.bind (Q:=u44 k) ?_ fun r hr=>Tells.some hr
  have e2:qq6 N=fun l=>(qf8 N (-1) l).bind fun r=>qd1 N r.1 r.2.1:=by
   funext l
   unfold qq6 wm3 j96
   cases qf8 N (-1) l with
   | none=>rfl
   | some r=>simp only [Option.bind_some,zw9]
  rw [e2]
  exact main (-1)
 ·show Tells (qu9 N 20 k) _
  have e:=y41 N k k.1.length (by omega) (by omega)
  rw [uu7] at e
  show Tells ((qi0 N k (k.1.length:Int)).bind fun r=>some r) _
  rw [e]
  refine Tells.bind (Q:=u44 k) ?_ fun r hr=>Tells.some hr
  have e2:qp7 N=fun l=>(qf8 N 1 l).bind fun r=>qd1 N r.1 r.2.1:=by
   funext l
   unfold qp7 wh9 y80
   cases qf8 N 1 l with
   | none=>rfl
   | some r=>simp only [Option.bind_some,zw9]
  rw [e2]
  exact main 1
theorem ym8 (l:List q00)(h:∀ v ∈ l,v.1=1∨v.1=2):xw6 l=1∨xw6 l=2:=by
 have:∀ (l:List q00) (k:Int),(∀ v ∈ l,v.1=1∨v.1=2)→(k=1∨k=2)→(l.foldl (fun k v=>vq2 k v.1) k=1∨l.foldl (fun k v=>vq2 k v.1) k=2):=by
  intro l
  induction l with
  | nil=>intro k _ h; exact h
  | cons v l ih =>
   intro k h1 h2
   rw [List.foldl_cons]
   refine ih _ (fun v hv=>h1 v (by simp [hv])) ?_
   have:=h1 v (by simp)
   unfold vq2
   split <;> omega
 exact this l 1 h (.inl rfl)
theorem VOK_most {k:q34}(hk:KOK B k){a:q03}(h:u44 k a):VOK B a.1:=by
 rcases h.ok with ⟨h1,_⟩ | ⟨h1,r,hr,rfl⟩
 ·exact hk.ans a h1
 ·unfold zo1
  by_cases e:r.2.1=0
  ·rw [if_neg (by simp [e])]
   rcases hr.ok e with ⟨h2,_⟩ | ⟨h2,h3,h4,h5⟩
   ·rw [h2]; exact qh8 B
   ·refine ⟨?_,?_,h4,by dsimp only [w60]; rw [h5]; simp⟩
    ·have:=ym8 _ h2; dsimp only [w60]; omega
    ·have:=ym8 _ h2; dsimp only [w60]; omega
  ·rw [if_pos e]; exact vs9 _
theorem opO_tells {N:Nat}(hN:1000000 < N)(op:Int){k:q34}(hk:KOK B k)(hB:B≤4294967280):Tells (opO N op k) fun a=>VOK B a.1:=by
 by_cases h:op=19∨op=20
 ·exact (u21 hN hk op h).mono fun a ha=>VOK_most hk ha
 ·rw [opO_is hN hk hB op (fun e=>h (.inl e)) (fun e=>h (.inr e))]
  exact Tells.some (VOK_op op hk hB)
end
def mayF (v:q00):Bool:=(qx7 0 v).getD false
theorem up3 (N:Nat)(v:q00):qx7 N v=some (mayF v):=by
 have e:qx7 N v=qx7 0 v:=rfl
 have:∃ b,qx7 0 v=some b:=by
  unfold qx7 wx4 wy0
  repeat' first | exact ⟨_,rfl⟩ | (refine (fun {g:Bool} {x y:Option Bool} (h1:∃ z,x=some z) (h2:∃ z,y=some z)=>show ∃ z,(bif g then x else y)=some z by cases g <;> assumption) ?_ ?_)
 obtain ⟨b,hb⟩:=this
 unfold mayF
 rw [e,hb]; rfl
def uh5 (v:q00):q03:=if mayF v=true then w60 v else kc1 2
theorem kf7 (N:Nat)(v:q00):zp2 N v=some (uh5 v):=by
 unfold zp2 uh5
 rw [up3,Option.bind_some]
 cases mayF v <;> rfl
def ub7 (vars:List q40)(name:List UInt8):q03:=match vars.find? (fun b=>b.1 == name) with
 | some b=>uh5 b.2.1
 | none=>kc1 11
def vc9 (n:q20)(self:q00)(vars:List q40):q03 :=
 if n.1=1 then uh5 n.2.1 else if n.1=3 then uh5 self else ub7 vars n.2.2.1
def vf9 (n:q20):Bool:=decide (n.1=1∨n.1=2∨n.1=3)
theorem look_is {N:Nat}(vars:List q40)(hv:vars.length≤1000000)(hN:vars.length < N)(n:q20)(self:q00)(h:n.1=2):wz0 N n self vars=some (ub7 vars n.2.2.1,true,()):=by
 refine Tells.get ?_
 unfold wz0 j77
 rw [h]
 refine Tells.no rfl (Tells.no rfl (Tells.ok rfl ?_))
 refine Tells.iter (fun (i:Int)=>∃ k:Nat,i=k∧k≤vars.length∧(vars.take k).find? (fun b=>b.1 == n.2.2.1)=none) (fun (i:Int)=>vars.length - i.toNat) ?_ N 0 ⟨0,rfl,by omega,rfl⟩ (by simpa using hN)
 rintro K i ⟨k,rfl,h1,h2⟩ hK
 unfold y30
 dsimp only
 refine Tells.dec (fun c=>?_) (fun c=>?_)
 ·have hk:k < vars.length:=by omega
  have ht:=x50 vars k hk
  rw [qj2 hk]
  refine Tells.ok (qu4 (by omega) (by omega)) (Tells.ite (fun c2=>?_) (fun c2=>?_))
  ·rw [kf7]
   refine Tells.some ?_
   have:vars.find? (fun b=>b.1 == n.2.2.1)=some vars[k]:=by
    have e:vars=vars.take k ++ vars[k] :: vars.drop (k + 1):=by rw [← List.drop_eq_getElem_cons hk,List.take_append_drop]
    have e2:=congrArg (List.find? (fun b=>b.1 == n.2.2.1)) e
    rw [e2,List.find?_append,h2]
    simp only [Option.none_or,List.find?_cons,c2]
   unfold ub7
   rw [this]
  ·refine Tells.ok (inI (by omega) (by omega)) (hK _ ⟨k + 1,by omega,by omega,?_⟩ (by omega))
   rw [ht,List.find?_append,h2]
   simp [c2]
 ·have:k=vars.length:=by omega
  subst this
  rw [List.take_length] at h2
  refine Tells.some ?_
  unfold ub7
  rw [h2]; rfl
theorem leaf_is {N:Nat}(vars:List q40)(hv:vars.length≤1000000)(hN:vars.length < N)(n:q20)(self:q00):wz0 N n self vars=some (if vf9 n=true then (vc9 n self vars,true,()) else (a0,false,())):=by
 by_cases h2:n.1=2
 ·rw [look_is vars hv hN n self h2,if_pos (by simp [vf9,h2])]
  unfold vc9
  rw [if_neg (by omega),if_neg (by omega)]
 ·unfold wz0 j77 vf9 vc9
  by_cases h1:n.1=1
  ·simp [h1,kf7]
  ·by_cases h3:n.1=3
   ·simp [h3,kf7]
   ·have e1:(n.1 == 1)=false:=by simpa using h1
    have e2:(n.1 == 2)=false:=by simpa using h2
    have e3:(n.1 == 3)=false:=by simpa using h3
    rw [e1,e2,e3,if_neg (by simp [h1,h2,h3])]
    rfl
def um7 (l:List q03)(i:Nat)(a:Int):q03:=if 0≤a∧a < i then q25 l a a0 else a0
def ke9 (t:List q20)(i:Nat)(a:Int):Bool:=if 0≤a∧a < i then (q25 t a qb7).1 == 1 && (q25 t a qb7).2.1.1 == 0 else false
def yb7 (t:List q20)(l:List q03)(i:Nat)(ks:List Int):q34:=(ks.map (um7 l i),ks.map (ke9 t i),())
def xv7 (N:Nat)(self:q00)(vars:List q40)(n:q20)(k:q34):Option q03:=if vf9 n=true then some (vc9 n self vars) else opO N n.1 k
def yz0 (N:Nat)(self:q00)(vars:List q40)(t:List q20):Nat→Option (List q03)
 | 0=>some []
 | i + 1=>(yz0 N self vars t i).bind fun l=>(xv7 N self vars (q25 t (i:Int) qb7) (yb7 t l i (q25 t (i:Int) qb7).2.2.2.1)).map fun a=>l ++ [a]
theorem y99 {N:Nat}{self:q00}{vars:List q40}{t:List q20}:∀ {i:Nat} {l:List q03},yz0 N self vars t i=some l→l.length=i
 | 0,l,h=>by cases h; rfl
 | i + 1,l,h=>by
  simp only [yz0] at h
  cases h1:yz0 N self vars t i with
  | none=>rw [h1] at h; cases h
  | some l0 =>
   rw [h1,Option.bind_some,Option.map_eq_some_iff] at h
   obtain ⟨a,_,rfl⟩:=h
   simp [y99 h1]
theorem nthD_app {α:Type}{l m:List α}{a:Int}{d:α}(h1:0≤a)(h2:a < l.length):q25 (l ++ m) a d=q25 l a d:=by
 obtain ⟨k,rfl⟩:∃ k:Nat,a=k:=⟨a.toNat,by omega⟩
 have hk:k < l.length:=by omega
 rw [qj2 (by simp; omega),qj2 hk,List.getElem_append_left hk]
theorem xy2 {N:Nat}{t:List q20}{self:q00}{vars:List q40}(hN:1000000 < N)(ht:t.length≤100000)(hv:vars.length≤100000)(hk:∀ n ∈ t,n.2.2.2.1.length≤100000)
  (HT:∀ i l,i < t.length→yz0 N self vars t i=some l→∃ a,xv7 N self vars (q25 t (i:Int) qb7) (yb7 t l i (q25 t (i:Int) qb7).2.2.2.1)=some a) :
  Tells (qs7 N t self vars) fun r=>∃ l,yz0 N self vars t t.length=some l∧r=l.getLastD a0:=by
 unfold qs7 y10
 refine Tells.ok (by rw [jf2]; omega) ?_
 dsimp only
 refine Tells.iter (fun (e:Int×List q03×Int×Int×List UInt8×Int)=>∃ (i:Nat) (l:List q03),e.1=i∧i≤t.length∧yz0 N self vars t i=some l∧e.2.1=l ++ List.replicate (t.length - i) a0∧((e.2.2.1,e.2.2.2.1,e.2.2.2.2.1,()),e.2.2.2.2.2,())=l.getLastD a0)
  (fun (e:Int×List q03×Int×Int×List UInt8×Int)=>t.length - e.1.toNat) ?_ N _ ⟨0,[],rfl,by omega,rfl,by rw [Int.toNat_natCast]; rfl,rfl⟩ (by dsimp only; omega)
 rintro K ⟨i,all,lk,ln,ls,le⟩ ⟨i,l,e1,k1,k2,k3,k4⟩ hK
 dsimp only at e1 k1 k2 k3 k4 hK
 subst e1
 subst k3
 have ll:=y99 k2
 unfold zf7 zx2
 dsimp only
 refine Tells.dec (fun c=>?_) (fun c=>?_)
 ·have hi:i < t.length:=by omega
  obtain ⟨a,ha⟩:=HT i l hi k2
  have hmem:q25 t (i:Int) qb7 ∈ t:=qu8 (by omega) c
  have hks:=hk _ hmem
  refine Tells.ok (qu4 (by omega) (by omega)) ?_
  generalize hn:q25 t (i:Int) qb7=n at ha hks hmem ⊢
  obtain ⟨op,⟨vk,vn,vs,_⟩,nm,ks,⟨pl,pc,_⟩,_⟩:=n
  dsimp only at ha hks ⊢
  have lall:(l ++ List.replicate (t.length - i) a0).length=t.length:=by simp; omega
  refine Tells.iter (fun (e:Int×List q03×List Bool)=>∃ j:Nat,e.1=j∧j≤ks.length∧e.2.1=(ks.take j).map (um7 l i)∧e.2.2=(ks.take j).map (ke9 t i)) (fun (e:Int×List q03×List Bool)=>ks.length - e.1.toNat) ?_ N _ ⟨0,rfl,by omega,rfl,rfl⟩ (by dsimp only; omega)
  rintro K1 ⟨j,kl,kn⟩ ⟨j,e1,g1,g2,g3⟩ hK1
  dsimp only at e1 g1 g2 g3 hK1
  subst e1 g2 g3
  unfold jb2
  dsimp only
  refine Tells.dec (fun cj=>?_) (fun cj=>?_)
  ·have hj:j < ks.length:=by omega
   have ht':=x50 ks j hj
   rw [qj2 hj]
   refine Tells.ok (qu4 (by omega) (by omega)) ?_
   generalize ks[j]=x at ht'
   have next:∀ (u:q03) (b:Bool),u=um7 l i x→b=ke9 t i x→Tells (K1 ((j:Int) + 1,((ks.take j).map (um7 l i) ++ ([u]:List q03)),((ks.take j).map (ke9 t i) ++ [b]))) fun r=>∃ l,yz0 N self vars t t.length=some l∧r=l.getLastD a0:=fun u b hu hb=>by
    subst hu hb
    exact hK1 _ ⟨j + 1,by dsimp only; omega,by omega,by rw [ht']; simp,by rw [ht']; simp⟩ (by dsimp only; omega)
   have f1:∀ u:q03,w33 (((ks.take j).map (um7 l i)).length + ([u]:List q03).length) 3518437208883=true:=fun u=>yy7 (by simp; omega)
   have f2:∀ b:Bool,w33 (((ks.take j).map (ke9 t i)).length + [b].length) 140737488355328=true:=fun u=>yy7 (by simp; omega)
   have f3:q27 ((j:Int) + 1)=true:=inI (by omega) (by omega)
   refine Tells.dec (fun c1=>?_) (fun c1=>Tells.dec (fun c2=>?_) (fun c2=>?_))
   ·exact Tells.ok (f1 _) (Tells.ok (f2 _) (Tells.ok f3 (next _ _ (by unfold um7; rw [if_neg (by omega)]; rfl) (by unfold ke9; rw [if_neg (by omega)]))))
   ·exact Tells.ok (f1 _) (Tells.ok (f2 _) (Tells.ok f3 (next _ _ (by unfold um7; rw [if_neg (by omega)]; rfl) (by unfold ke9; rw [if_neg (by omega)]))))
   ·have h0:0≤x:=by omega
    have ea:q25 (l ++ List.replicate (t.length - i) a0) x wt6=um7 l i x:=by
     unfold um7
     rw [if_pos (by omega),nthD_app h0 (by omega)]
     rfl
    have en:ke9 t i x=((q25 t x qb7).1 == 1 && (q25 t x qb7).2.1.1 == 0):=by unfold ke9; rw [if_pos (by omega)]
    refine Tells.ok (qu4 h0 (by omega)) (Tells.ok (qu4 h0 (by omega)) (Tells.ok (f1 _) (Tells.ok (qu4 h0 (by omega)) (Tells.ite (fun c3=>?_) (fun c3=>?_)))))
    ·exact Tells.ok (qu4 h0 (by omega)) (Tells.ok (f2 _) (Tells.ok f3 (next _ _ ea (by rw [en,c3]; rfl))))
    ·exact Tells.ok (f2 _) (Tells.ok f3 (next _ _ ea (by rw [en,c3]; rfl)))
  ·have hj:j=ks.length:=by omega
   subst hj
   rw [List.take_length,leaf_is vars (by omega) (by omega),Option.bind_some]
   have fin:∀ u:q03,u=a→Tells (bif inR (i:Int) ((t.length:Int).toNat) then
     bif inR (i:Int) (l ++ List.replicate (t.length - i) a0).length then
     bif q27 ((i:Int) + 1) then
     K ((i:Int) + 1,(setD (l ++ List.replicate (t.length - i) a0) (i:Int) u),u.1.1,u.1.2.1,u.1.2.2.1,u.2.1)
     else none
     else none
     else none) fun r=>∃ l,yz0 N self vars t t.length=some l∧r=l.getLastD a0:=fun u hu=>by
    subst hu
    refine Tells.ok (qu4 (by omega) (by omega)) (Tells.ok (qu4 (by omega) (by omega)) (Tells.ok (inI (by omega) (by omega)) (hK _ ⟨i + 1,l ++ [u],by dsimp only; omega,by omega,?_,?_,?_⟩ (by dsimp only; omega))))
    ·simp only [yz0,k2,Option.bind_some]
     rw [hn]
     dsimp only
     rw [ha]
     rfl
    ·dsimp only
     unfold setD
     have e:List.replicate (t.length - i) a0=a0 :: List.replicate (t.length - (i + 1)) a0:=by
      rw [← List.replicate_succ]
      congr 1
      omega
     have e3:∀ r:List q03,(l ++ r).set i u=l ++ r.set (i - l.length) u:=fun r=>by rw [List.set_append,if_neg (by omega)]
     rw [Int.toNat_natCast,e,e3,show i - l.length=0 by omega,List.set_cons_zero]
     simp
    ·simp
   unfold xv7 at ha
   have kk:((ks.map (um7 l i)),(ks.map (ke9 t i)),())=yb7 t l i ks:=rfl
   rw [kk]
   by_cases hb:vf9 (op,(vk,vn,vs,()),nm,ks,(pl,pc,()),())=true
   ·rw [if_pos hb] at ha ⊢
    refine Tells.no rfl (Tells.no rfl (fin _ ?_))
    cases ha; rfl
   ·rw [if_neg hb] at ha ⊢
    refine Tells.ok rfl ?_
    unfold opO at ha
    dsimp only at ha
    cases h1:we1 N op (yb7 t l i ks) with
    | none=>rw [h1] at ha; cases ha
    | some r1 =>
     rw [h1,Option.bind_some] at ha
     rw [Option.bind_some]
     cases h2:r1.2.1 with
     | false =>
      rw [h2,Bool.not_false,cond_true] at ha
      rw [Bool.not_false,cond_true,ha,Option.bind_some]
      exact fin _ rfl
     | true =>
      rw [h2,Bool.not_true,cond_false] at ha
      rw [Bool.not_true,cond_false]
      cases ha
      exact fin _ rfl
 ·have:i=t.length:=by omega
  subst this
  exact Tells.some ⟨l,k2,k4⟩
theorem u99 {B:Nat}{v:q00}(h:VOK B v):VOK B (uh5 v).1:=by
 unfold uh5
 split
 ·exact h
 ·exact vs9 _
theorem VOK_leaf {B:Nat}{n:q20}{self:q00}{vars:List q40}(h1:VOK B n.2.1)(h2:VOK B self)(h3:∀ b ∈ vars,VOK B b.2.1):VOK B (vc9 n self vars).1:=by
 unfold vc9
 refine ql2 (u99 h1) (ql2 (u99 h2) ?_)
 unfold ub7
 split
 ·rename_i b hb
  exact u99 (h3 b (List.mem_of_find?_eq_some hb))
 ·exact vs9 _
structure EvOK (N B:Nat) (t:List q20) (sf:q00) (vars:List q40):Prop where
 fuel:1000000 < N
 bound:B≤4294967280
 nodes:∀ n ∈ t,VOK B n.2.1∧n.2.2.2.1.length≤100000
 slf:VOK B sf
 vrs:∀ b ∈ vars,VOK B b.2.1
section
variable {N B:Nat} {t:List q20} {self:q00} {vars:List q40} (h:EvOK N B t self vars)
include h
theorem ue4 {l:List q03}(hl:∀ a ∈ l,VOK B a.1){i:Nat}(hi:i≤l.length){ks:List Int}(hk:ks.length≤100000):KOK B (yb7 t l i ks):=by
 refine ⟨fun a ha=>?_,by simpa [yb7] using hk⟩
 obtain ⟨x,_,rfl⟩:=List.mem_map.1 ha
 unfold um7
 split
 ·exact hl _ (qu8 (by omega) (by omega))
 ·exact qh8 B
theorem u33 {n:q20}(hn:VOK B n.2.1){k:q34}(hk:KOK B k):Tells (xv7 N self vars n k) fun a=>VOK B a.1:=by
 unfold xv7
 by_cases hb:vf9 n=true
 ·rw [if_pos hb]; exact Tells.some (VOK_leaf hn h.slf h.vrs)
 ·rw [if_neg hb]; exact opO_tells h.fuel _ hk h.bound
theorem zh4 :∀ i,i≤t.length→Tells (yz0 N self vars t i) fun l=>l.length=i∧∀ a ∈ l,VOK B a.1
 | 0,_=>Tells.some ⟨rfl,by simp⟩
 | i + 1,hi=>by
  obtain ⟨l,h1,h2,h3⟩:=zh4 i (by omega)
  have hm:q25 t (i:Int) qb7 ∈ t:=qu8 (by omega) (by omega)
  obtain ⟨g1,g2⟩:=h.nodes _ hm
  obtain ⟨a,h4,h5⟩:=u33 h g1 (ue4 h h3 (i:=i) (by omega) g2)
  refine ⟨l ++ [a],?_,by simp [h2],fun b hb=>?_⟩
  ·simp only [yz0,h1,Option.bind_some,h4,Option.map_some]
  ·rcases List.mem_append.1 hb with hb | hb
   ·exact h3 b hb
   ·simp at hb; subst hb; exact h5
theorem u53 (ht:t.length≤100000)(hv:vars.length≤100000):Tells (qs7 N t self vars) fun r=>∃ l,yz0 N self vars t t.length=some l∧(∀ a ∈ l,VOK B a.1)∧r=l.getLastD a0:=by
 obtain ⟨r,h1,l,h2,h3⟩:=xy2 h.fuel ht hv (fun n hn=>(h.nodes n hn).2) (fun i l hi hl=>by
  obtain ⟨l',g1,g2,g3⟩:=zh4 h i (by omega)
  rw [hl] at g1
  cases g1
  have hm:q25 t (i:Int) qb7 ∈ t:=qu8 (by omega) (by omega)
  obtain ⟨q1,q2⟩:=h.nodes _ hm
  obtain ⟨a,h4,h5⟩:=u33 h q1 (ue4 h g3 (i:=i) (by omega) q2)
  exact ⟨a,h4⟩)
 obtain ⟨l',g1,g2,g3⟩:=zh4 h t.length (by omega)
 rw [h2] at g1
 cases g1
 exact ⟨r,h1,l,h2,g3,h3⟩
end
theorem kw0 {N:Nat}{t:List q20}{self:q00}{vars more:List q40}(h:∀ n ∈ t,vc9 n self vars=vc9 n self more∨vf9 n=false):∀ i,i≤t.length→yz0 N self vars t i=yz0 N self more t i
 | 0,_=>rfl
 | i + 1,hi=>by
  simp only [yz0]
  rw [kw0 h i (by omega)]
  congr 1
  funext l
  have hm:q25 t (i:Int) qb7 ∈ t:=qu8 (by omega) (by omega)
  unfold xv7
  rcases h _ hm with h1 | h1
  ·rw [h1]
  ·rw [h1]; rfl
theorem look_more (vars:List q40)(other:q40)(name:List UInt8)(h:other.1≠name):ub7 (([other] ++ vars) ++ vars.map fun b=>(b.1,other.2.1,())) name=ub7 vars name:=by
 have e:(([other] ++ vars) ++ vars.map fun b=>((b.1,other.2.1,()):q40)).find? (fun b=>b.1 == name)=vars.find? (fun b=>b.1 == name):=by
  have e1:(other.1 == name)=false:=by simpa using h
  simp only [List.singleton_append,List.cons_append,List.find?_cons,e1,List.find?_append]
  cases hf:vars.find? (fun b=>b.1 == name) with
  | some b=>rfl
  | none =>
   rw [List.find?_nil,Option.none_or,Option.none_or,List.find?_eq_none]
   intro x hx
   obtain ⟨b,hb,rfl⟩:=List.mem_map.1 hx
   exact List.find?_eq_none.1 hf b hb
 unfold ub7
 rw [e]
end Go.Proofs.YtgicljncknbgcaaGreat.Abs
