/- Expressions' answers: a node's answer. -/
import Derived.Test.YtgicljncknbgcaaGreatE1
set_option linter.unusedVariables false
set_option linter.unusedSimpArgs false
set_option linter.unusedSectionVars false
namespace Go.Proofs.YtgicljncknbgcaaGreat.Abs
open Go
def qv7 (a:q03):q03:=if a.2.1=0∧a.1.1≠4∧a.1.1≠0 then w2m 8 else a
def kb0 (ends:Int)(f:q00→q00→q00)(x y:q03):q03 :=
 if (qv7 x).2.1≠0∨((qv7 x).1.1=4∧(qv7 x).1.2.1=ends) then qv7 x
 else if (qv7 y).2.1≠0 then qv7 y else za0 (f (qv7 x).1 (qv7 y).1)
def allV (a b:q00):q00:=allS vd1 [a,b]
def anyV (a b:q00):q00:=kf0 (allS vd1 [kf0 a,kf0 b])
def notA (x:q03):q03:=if (qv7 x).2.1=0 then za0 (kf0 (qv7 x).1) else qv7 x
def uv9 (x:q03)(F:q00→q03):q03:=if x.2.1≠0 then x else F x.1
def j99 (x y:q03)(F:q00→q00→q03):q03:=if x.2.1≠0 then x else if y.2.1≠0 then y else F x.1 y.1
def ifA (x y z:q03):q03 :=
 if (qv7 x).2.1≠0∨(qv7 x).1.1=0 then qv7 x else if (qv7 x).1.2.1=1 then y else z
def opF (op:Int)(k:q35):q03 :=
 let x:=w24 k 0
 let y:=w24 k 1
 if op=5 then kb0 0 allV x y
 else if op=4 then kb0 1 anyV x y
 else if op=6 then notA x
 else if op=7 then j99 x y (eqF k.2.1 true)
 else if op=8 then j99 x y (eqF k.2.1 false)
 else if op=9 then j99 x y (u74 fun c=>decide (c<0))
 else if op=10 then j99 x y (u74 fun c=>decide (c≤0))
 else if op=11 then j99 x y (u74 fun c=>decide (c>0))
 else if op=12 then j99 x y (u74 fun c=>decide (c≥0))
 else if op=24 then j99 x y fun a b=>wl2 3 [a,b] (za0 (we6 (Lib.contains a.2.2.1 b.2.2.1)))
 else if op=25 then j99 x y fun a b=>wl2 3 [a,b] (za0 (we6 (headF a.2.2.1 b.2.2.1)))
 else if op=13 then j99 x y fun a b=>z93 (doS gAdd gAdd a b)
 else if op=14 then j99 x y fun a b=>z93 (doS gSub gSub a b)
 else if op=15 then j99 x y fun a b=>z93 (doS gMul hMul a b)
 else if op=16 then j99 x y fun a b=>z93 (doS gQuo hQuo a b)
 else if op=17 then uv9 x fun a=>z93 (negV a)
 else if op=18 then uv9 x absF
 else if op=21 then j99 x y fun a b=>wl2 1 [a,b] (z93 ((1,(q8q a.2.1 b.2.1).1,[],()),(q8q a.2.1 b.2.1).2.1,()))
 else if op=22 then uv9 x fun a=>wl2 3 [a] (za0 (1,(a.2.2.1.length:Int),[],()))
 else if op=23 then uv9 x fun a=>wl2 3 [a] (za0 (3,0,a.2.2.1.map Abs.Upper.upB,()))
 else if op=26 then ifA x y (w24 k 2)
 else w2m 2
def opO (N:Nat)(op:Int)(k:q35):Option q03:=(wi2 N op k).bind fun r=>bif (!r.2.1) then qx6 N op k else some r.1
structure KOK (B:Nat) (k:q35):Prop where
 ans:∀ a∈k.1,VOK B a.1
 len:k.1.length≤100000
section
variable {B:Nat}
theorem KOK.get {k:q35}(h:KOK B k)(i:Nat):VOK B (w24 k i).1:=by
 unfold w24
 rw[List.getD_eq_getElem?_getD]
 cases h1:k.1[i]? with
 |none=>exact qf4 B
 |some a=>exact h.ans a (List.mem_of_getElem? h1)
theorem wf2 {N:Nat}{k:q35}{F:List q00→Option q03}{f:q00→q00→q03}(hF:(F [(w24 k 0).1,(w24 k 1).1])=some (f (w24 k 0).1 (w24 k 1).1)):we0 F (za1 k 2) []=some (j99 (w24 k 0) (w24 k 1) f):=by
 have e:za1 k 2=[w24 k 0,w24 k 1]:=rfl
 rw[e]
 unfold j99
 simp only[we0,List.nil_append,List.singleton_append]
 by_cases h1:(w24 k 0).2.1=0
 ·by_cases h2:(w24 k 1).2.1=0
  ·simp only[h1,h2,ne_eq,not_true,if_false];exact hF
  ·simp[h1,h2]
 ·simp[h1]
theorem vg9 {N:Nat}{k:q35}{F:List q00→Option q03}{f:q00→q03}(hF:(F [(w24 k 0).1])=some (f (w24 k 0).1)):we0 F (za1 k 1) []=some (uv9 (w24 k 0) f):=by
 have e:za1 k 1=[w24 k 0]:=rfl
 rw[e]
 unfold uv9
 simp only[we0,List.nil_append]
 by_cases h1:(w24 k 0).2.1=0
 ·simp only[h1,ne_eq,not_true,if_false];exact hF
 ·simp[h1]
theorem vi2 (N:Nat)(k:q35)(i:Nat):q83 N k (i:Int)=some (qv7 (w24 k i)):=by
 unfold q83 qv7
 rw[q5f,Option.bind_some]
 by_cases h1:(w24 k i).2.1=0
 ·by_cases h2:(w24 k i).1.1=4
  ·simp[h1,h2]
  ·by_cases h3:(w24 k i).1.1=0
   ·simp[h1,h3]
   ·have e2:((w24 k i).1.1 != 4)=true:=by simpa using h2
    have e3:((w24 k i).1.1 != 0)=true:=by simpa using h3
    have e1:((w24 k i).2.1==0)=true:=by simpa using h1
    rw[e1,e2,e3,if_pos ⟨h1,h2,h3⟩]
    rfl
 ·have e1:((w24 k i).2.1==0)=false:=by simpa using h1
  rw[e1,if_neg (fun h=>h1 h.1)];rfl
section
variable {N:Nat} (hN:1000000<N) {k:q35} (hk:KOK B k) (hB:B≤4294967280)
include hN hk hB
theorem both_is (ends:Int)(q:List q00→Option q00)(f:q00→q00→q00)(hq:∀ a b,q [a,b]=some (f a b)):((q83 N k 0).bind fun (r:q03) =>
 bif (r.2.1 != 0) then
  some r
 else
  bif (r.1.1==4) then
   bif (r.1.2.1==ends) then
    some r
   else
    (q83 N k 1).bind fun (r1:q03) =>
    bif (r1.2.1 != 0) then
     some r1
    else
     (q ([r.1,r1.1]:List q00)).bind fun (r2:q00) =>
     some (r2,0,())
  else
   (q83 N k 1).bind fun (r3:q03) =>
   bif (r3.2.1 != 0) then
    some r3
   else
    (q ([r.1,r3.1]:List q00)).bind fun (r4:q00) =>
    some (r4,0,()))=some (kb0 ends f (w24 k 0) (w24 k 1)):=by
 have t0:=vi2 N k 0
 have t1:=vi2 N k 1
 have z0:((0:Nat):Int)=0:=rfl
 have z1:((1:Nat):Int)=1:=rfl
 rw[z0] at t0
 rw[z1] at t1
 simp only[t0,t1,Option.bind_some,hq]
 unfold kb0
 generalize qv7 (w24 k 0)=a
 generalize qv7 (w24 k 1)=b
 by_cases h1:a.2.1=0
 ·by_cases h2:a.1.1=4
  ·by_cases h3:a.1.2.1=ends
   ·simp[h1,h2,h3]
   ·by_cases h4:b.2.1=0
    ·have e3:(a.1.2.1==ends)=false:=by simpa using h3
     simp[h1,h2,h3,h4,e3,za0]
    ·have e3:(a.1.2.1==ends)=false:=by simpa using h3
     have e4:(b.2.1 != 0)=true:=by simpa using h4
     simp[h1,h2,h3,h4,e3,e4]
  ·have e2:(a.1.1==4)=false:=by simpa using h2
   by_cases h4:b.2.1=0
   ·simp[h1,h2,e2,h4,za0]
   ·have e4:(b.2.1 != 0)=true:=by simpa using h4
    simp[h1,h2,e2,h4,e4]
 ·have e1:(a.2.1 != 0)=true:=by simpa using h1
  simp[h1,e1]
theorem opO_is (op:Int)(h19:op≠19)(h20:op≠20):opO N op k=some (opF op k):=by
 have z0:((0:Nat):Int)=0:=rfl
 have z1:((1:Nat):Int)=1:=rfl
 have z2:((2:Nat):Int)=2:=rfl
 have hx:=hk.get 0
 have hy:=hk.get 1
 have i0:=hx.2.2.1
 have i1:=hy.2.2.1
 have w:∀ n:Int,(n==n)=true:=fun n=>by simp
 unfold opO wi2 jl6
 have ne:∀ {n:Int},op≠n→(op==n)=false:=fun h=>by simpa using h
 by_cases h5:op=5
 ·subst h5
  have:=both_is hN hk hB 0 (wq9 N) allV (fun a b=>by rw[v94 N _ (by simp) (by simp;omega)];rfl)
  show (((wd6 N k 0).bind fun (r:q03)=>some (r,true,())).bind _)=_
  unfold wd6
  rw[this]
  rfl
 rw[ne h5,cond_false]
 by_cases h4:op=4
 ·subst h4
  have:=both_is hN hk hB 1 (z95 N) anyV (fun a b=>by rw[ks7 N _ (by simp) (by simp;omega)];rfl)
  show (((qt5 N k 1).bind fun (r:q03)=>some (r,true,())).bind _)=_
  unfold qt5
  rw[this]
  rfl
 rw[ne h4,cond_false]
 by_cases h6:op=6
 ·subst h6
  have t0:=vi2 N k 0
  rw[z0] at t0
  rw[w,cond_true,t0,Option.bind_some]
  show _=some (notA (w24 k 0))
  unfold notA
  by_cases e:(qv7 (w24 k 0)).2.1=0
  ·have e':((qv7 (w24 k 0)).2.1==0)=true:=by simpa using e
   rw[e',cond_true,yg1,if_pos e,e]
   rfl
  ·have e':((qv7 (w24 k 0)).2.1==0)=false:=by simpa using e
   rw[e',cond_false,if_neg e]
   rfl
 rw[ne h6,cond_false]
 have equal:∀ t:Bool,w30 N k t=some (j99 (w24 k 0) (w24 k 1) (eqF k.2.1 t)):=fun t=>by
  unfold w30
  have e:=xn6 N k 2 k.1 k.2.1 t (by omega) (by omega)
  rw[z2] at e
  rw[e,wf2 (N:=N) (f:=eqF k.2.1 t) (by unfold za4;rw[q8a (by omega) _ _ _ _ _ i0 i1];rfl)]
  rfl
 by_cases h7:op=7
 ·subst h7
  rw[w,cond_true]
  dsimp only
  rw[q95 (by omega)]
  unfold wz7
  have e:(k.1,k.2.1,())=k:=rfl
  rw[e,w,equal]
  rfl
 rw[ne h7,cond_false]
 by_cases h8:op=8
 ·subst h8
  rw[w,cond_true]
  dsimp only
  rw[q95 (by omega)]
  unfold wz7
  have e:(k.1,k.2.1,())=k:=rfl
  have e2:((8:Int)==7)=false:=rfl
  rw[e,e2,equal]
  rfl
 rw[ne h8,cond_false]
 by_cases h9:op=9
 ·subst h9
  have e:=yn2 N k 2 (by omega) (by omega)
  rw[z2] at e
  rw[w,cond_true,e,wf2 (N:=N) (f:=u74 fun c=>decide (c<0)) (by unfold wg4;rw[order_lt (by omega) _ _ i0 i1];rfl)]
  rfl
 rw[ne h9,cond_false]
 by_cases h10:op=10
 ·subst h10
  have e:=yn5 N k 2 (by omega) (by omega)
  rw[z2] at e
  rw[w,cond_true,e,wf2 (N:=N) (f:=u74 fun c=>decide (c≤0)) (by unfold wg6;rw[order_le (by omega) _ _ i0 i1];rfl)]
  rfl
 rw[ne h10,cond_false]
 by_cases h11:op=11
 ·subst h11
  have e:=yn8 N k 2 (by omega) (by omega)
  rw[z2] at e
  rw[w,cond_true,e,wf2 (N:=N) (f:=u74 fun c=>decide (c>0)) (by unfold wg8;rw[order_gt (by omega) _ _ i0 i1];rfl)]
  rfl
 rw[ne h11,cond_false]
 by_cases h12:op=12
 ·subst h12
  have e:=yo1 N k 2 (by omega) (by omega)
  rw[z2] at e
  rw[w,cond_true,e,wf2 (N:=N) (f:=u74 fun c=>decide (c≥0)) (by unfold wh0;rw[order_ge (by omega) _ _ i0 i1];rfl)]
  rfl
 rw[ne h12,cond_false]
 by_cases h24:op=24
 ·subst h24
  have e:=yo4 N k 2 3 (by omega) (by omega)
  rw[z2] at e
  rw[w,cond_true,e,wf2 (N:=N) (f:=fun a b=>wl2 3 [a,b] (za0 (we6 (Lib.contains a.2.2.1 b.2.2.1)))) (by unfold wh2;rw[has_is (by omega) _ _ (by have:=hx.2.2.2;omega)];rfl)]
  rfl
 rw[ne h24,cond_false]
 by_cases h25:op=25
 ·subst h25
  have e:=yo7 N k 2 3 (by omega) (by omega)
  rw[z2] at e
  rw[w,cond_true,e,wf2 (N:=N) (f:=fun a b=>wl2 3 [a,b] (za0 (we6 (headF a.2.2.1 b.2.2.1)))) (by unfold wh4;rw[starts_is (by omega)];rfl)]
  rfl
 rw[ne h25,cond_false,Option.bind_some]
 show qx6 N op k=_
 unfold qx6
 have n0:∀ a b:q00,q17 [a,b] 0 q26=a:=fun _ _=>rfl
 have n1:∀ a b:q00,q17 [a,b] 1 q26=b:=fun _ _=>rfl
 have m0:∀ a b:q00,inR 0 [a,b].length=true:=fun _ _=>rfl
 have m1:∀ a b:q00,inR 1 [a,b].length=true:=fun _ _=>rfl
 by_cases h13:op=13
 ·subst h13
  have e:=yp0 N k 2 (by omega) (by omega)
  rw[z2] at e
  rw[w,cond_true,e,wf2 (N:=N) (f:=fun a b=>z93 (doS gAdd gAdd a b)) (by unfold wh6;rw[m0,cond_true,m1,cond_true,n0,n1,ks3 N (by omega) _ _ i0 i1,Option.bind_some,j37];rfl)]
  rfl
 rw[ne h13,cond_false]
 by_cases h14:op=14
 ·subst h14
  have e:=yp3 N k 2 (by omega) (by omega)
  rw[z2] at e
  rw[w,cond_true,e,wf2 (N:=N) (f:=fun a b=>z93 (doS gSub gSub a b)) (by unfold wh8;rw[m0,cond_true,m1,cond_true,n0,n1,va1 N (by omega) _ _ i0 i1,Option.bind_some,j37];rfl)]
  rfl
 rw[ne h14,cond_false]
 by_cases h15:op=15
 ·subst h15
  have e:=yp6 N k 2 (by omega) (by omega)
  rw[z2] at e
  rw[w,cond_true,e,wf2 (N:=N) (f:=fun a b=>z93 (doS gMul hMul a b)) (by unfold wi0;rw[m0,cond_true,m1,cond_true,n0,n1,kt5 N (by omega) _ _ i0 i1,Option.bind_some,j37];rfl)]
  rfl
 rw[ne h15,cond_false]
 by_cases h16:op=16
 ·subst h16
  have e:=y27 N k 2 (by omega) (by omega)
  rw[z2] at e
  rw[w,cond_true,e,wf2 (N:=N) (f:=fun a b=>z93 (doS gQuo hQuo a b)) (by unfold w90;rw[m0,cond_true,m1,cond_true,n0,n1,kt0 N (by omega) _ _ i0 i1,Option.bind_some,j37];rfl)]
  rfl
 rw[ne h16,cond_false]
 by_cases h17:op=17
 ·subst h17
  have e:=y30 N k 1 (by omega) (by omega)
  rw[z1] at e
  rw[w,cond_true,e,vg9 (N:=N) (f:=fun a=>z93 (negV a)) (by unfold w92 wm9;rw[show inR 0 [(w24 k 0).1].length=true from rfl,cond_true,show q17 [(w24 k 0).1] 0 q26=(w24 k 0).1 from rfl,neg_is (by omega) _ i0,Option.bind_some,j37];rfl)]
  rfl
 rw[ne h17,cond_false,ne h19,cond_false,ne h20,cond_false]
 by_cases h18:op=18
 ·subst h18
  have e:=y39 N k 1 (by omega) (by omega)
  rw[z1] at e
  rw[w,cond_true,e,vg9 (N:=N) (f:=absF) (by unfold w96;rw[abs_is (by omega) _ i0];rfl)]
  rfl
 rw[ne h18,cond_false]
 by_cases h21:op=21
 ·subst h21
  have e:=y42 N k 2 1 (by omega) (by omega)
  rw[z2] at e
  rw[w,cond_true,e,wf2 (N:=N) (f:=fun a b=>wl2 1 [a,b] (z93 ((1,(q8q a.2.1 b.2.1).1,[],()),(q8q a.2.1 b.2.1).2.1,()))) (by unfold w98;rw[mod_is (by omega) _ _ i0 i1];rfl)]
  rfl
 rw[ne h21,cond_false]
 by_cases h22:op=22
 ·subst h22
  have e:=y45 N k 1 3 (by omega) (by omega)
  rw[z1] at e
  rw[w,cond_true,e,vg9 (N:=N) (f:=fun a=>wl2 3 [a] (za0 (1,(a.2.2.1.length:Int),[],()))) (by unfold wa0;rw[len_is (by omega)];rfl)]
  rfl
 rw[ne h22,cond_false]
 by_cases h23:op=23
 ·subst h23
  have e:=y48 N k 1 3 (by omega) (by omega)
  rw[z1] at e
  rw[w,cond_true,e,vg9 (N:=N) (f:=fun a=>wl2 3 [a] (za0 (3,0,a.2.2.1.map Abs.Upper.upB,()))) (by unfold wa2;rw[up_is (by omega) _ (by have:=hx.2.2.2;omega)];rfl)]
  rfl
 rw[ne h23,cond_false]
 by_cases h26:op=26
 ·subst h26
  rw[w,cond_true]
  unfold wf0
  have t0:=vi2 N k 0
  have g1:=q5f N k 1
  have g2:=q5f N k 2
  rw[z0] at t0
  rw[z1] at g1
  rw[z2] at g2
  rw[t0,Option.bind_some,g1,g2]
  show _=some (ifA (w24 k 0) (w24 k 1) (w24 k 2))
  unfold ifA
  generalize qv7 (w24 k 0)=a
  by_cases q1:a.2.1=0
  ·by_cases q2:a.1.1=0
   ·simp[q1,q2]
   ·have e2:(a.1.1==0)=false:=by simpa using q2
    by_cases q3:a.1.2.1=1
    ·simp[q1,q2,q3,e2]
    ·have e3:(a.1.2.1==1)=false:=by simpa using q3
     simp[q1,q2,q3,e2,e3]
  ·have e1:(a.2.1 != 0)=true:=by simpa using q1
   simp[q1,e1]
 rw[ne h26,cond_false]
 unfold opF
 simp only[h4,h5,h6,h7,h8,h9,h10,h11,h12,h13,h14,h15,h16,h17,h18,h21,h22,h23,h24,h25,h26,if_false]
 rfl
end
end
theorem j48 (B:Nat)(b:Bool):VOK B (we6 b):=by unfold we6;cases b<;>exact⟨by simp,by simp,⟨by simp,by simp⟩,by simp⟩
theorem VOK_not (B:Nat)(v:q00):VOK B (kf0 v):=by
 unfold kf0
 split
 ·exact j48 B _
 ·exact qf4 B
theorem q4j {B:Nat}:∀ (l:List q00) (out:q00),VOK B out→(∀ v∈l,VOK B v)→VOK B (allS out l)
 |[],out,h,_=>h
 |v::l,out,h,hl=>by
  unfold allS
  split
  ·exact hl v (by simp)
  ·refine q4j l _ ?_ fun v hv=>hl v (by simp[hv])
   split
   ·exact h
   ·exact qf4 B
theorem VOK_true (B:Nat):VOK B vd1:=⟨by simp[vd1],by simp[vd1],⟨by simp[vd1],by simp[vd1]⟩,by simp[vd1]⟩
section
variable {B:Nat}
theorem VOK_V {v:q00}(h:VOK B v):VOK B (za0 v).1:=h
theorem u80 (e:Int):VOK B (w2m e).1:=qf4 B
theorem jf4 {r:q00×Int×Unit}(h:VOK B r.1):VOK B (z93 r).1:=by
 unfold z93
 split
 ·exact u80 _
 ·exact h
theorem zn7 {a:q03}(h:VOK B a.1):VOK B (qv7 a).1:=by
 unfold qv7
 split
 ·exact u80 _
 ·exact h
theorem x70 {k:Int}{l:List q00}{G:q03}(h:VOK B G.1):VOK B (wl2 k l G).1:=by
 unfold wl2
 split
 ·exact u80 _
 ·split
  ·exact qf4 B
  ·exact h
theorem VOK_fin {k:Int}(hk:0≤k∧k≤255){r:Int×Int×Unit}(h:I64 r.1):VOK B (finV k r).1:=by
 unfold finV
 split
 ·exact qf4 B
 ·exact⟨hk.1,hk.2,h,by simp⟩
theorem vj2 {g h:Int→Int→Int×Int×Unit}(hg:∀ a b,I64 (g a b).1)(hh:∀ a b,I64 (h a b).1)(a b:q00):VOK B (doS g h a b).1:=by
 unfold doS
 split
 ·exact qf4 B
 split
 ·exact qf4 B
 split
 ·exact VOK_fin (by omega) (hg _ _)
 split
 ·exact qf4 B
 ·exact VOK_fin (by omega) (hh _ _)
theorem gQuo_I64 (a b:Int):I64 (gQuo a b).1:=by unfold gQuo;split;exact⟨by simp,by simp⟩;exact zm9 _
theorem hQuo_I64 (a b:Int):I64 (hQuo a b).1:=by unfold hQuo;split;exact⟨by simp,by simp⟩;exact zm9 _
theorem modE_I64 (a b:Int):I64 (q8q a b).1:=by unfold q8q;split;exact⟨by simp,by simp⟩;exact zm9 _
theorem VOK_neg (v:q00):VOK B (negV v).1:=vj2 (fun _ _=>zm9 _) (fun _ _=>zm9 _) _ _
theorem qs8 {x y:q03}{F:q00→q00→q03}(hx:VOK B x.1)(hy:VOK B y.1)(hF:VOK B (F x.1 y.1).1):VOK B (j99 x y F).1:=by
 unfold j99
 split
 ·exact hx
 split
 ·exact hy
 ·exact hF
theorem x69 {x:q03}{F:q00→q03}(hx:VOK B x.1)(hF:VOK B (F x.1).1):VOK B (uv9 x F).1:=by
 unfold uv9
 split
 ·exact hx
 ·exact hF
theorem q4k {e:Int}{f:q00→q00→q00}{x y:q03}(hx:VOK B x.1)(hy:VOK B y.1)(hf:∀ a b,VOK B a→VOK B b→VOK B (f a b)):VOK B (kb0 e f x y).1:=by
 unfold kb0
 split
 ·exact zn7 hx
 split
 ·exact zn7 hy
 ·exact hf _ _ (zn7 hx) (zn7 hy)
theorem ur0 {p:Int→Bool}(x y:q00):VOK B (u74 p x y).1:=by
 unfold u74
 split
 ·exact u80 _
 split
 ·exact qf4 B
 ·exact j48 B _
theorem VOK_eq {l:List Bool}{t:Bool}(x y:q00):VOK B (eqF l t x y).1:=by
 unfold eqF
 split
 ·exact j48 B _
 split
 ·exact qf4 B
 split
 ·exact u80 _
 ·exact j48 B _
theorem ql6 {c:Prop} [Decidable c] {x y:q03} (hx:VOK B x.1) (hy:VOK B y.1):VOK B (if c then x else y).1:=by
 by_cases h:c
 ·rw[if_pos h];exact hx
 ·rw[if_neg h];exact hy
theorem VOK_op (op:Int){k:q35}(hk:KOK B k)(hB:B≤4294967280):VOK B (opF op k).1:=by
 have hx:=hk.get 0
 have hy:=hk.get 1
 have hz:=hk.get 2
 have hi:∀ a b:Int,I64 (gAdd a b).1:=fun _ _=>zm9 _
 have hj:∀ a b:Int,I64 (gSub a b).1:=fun _ _=>zm9 _
 unfold opF
 dsimp only
 refine ql6 ?_ ?_
 ·exact q4k hx hy fun a b ha hb=>q4j _ _ (VOK_true B) (by intro v hv;simp at hv;rcases hv with rfl|rfl<;>assumption)
 refine ql6 ?_ ?_
 ·exact q4k hx hy fun a b ha hb=>VOK_not B _
 refine ql6 ?_ ?_
 ·unfold notA
  split
  ·exact VOK_not B _
  ·exact zn7 hx
 refine ql6 ?_ ?_
 ·exact qs8 hx hy (VOK_eq _ _)
 refine ql6 ?_ ?_
 ·exact qs8 hx hy (VOK_eq _ _)
 refine ql6 ?_ ?_
 ·exact qs8 hx hy (ur0 _ _)
 refine ql6 ?_ ?_
 ·exact qs8 hx hy (ur0 _ _)
 refine ql6 ?_ ?_
 ·exact qs8 hx hy (ur0 _ _)
 refine ql6 ?_ ?_
 ·exact qs8 hx hy (ur0 _ _)
 refine ql6 ?_ ?_
 ·exact qs8 hx hy (x70 (j48 B _))
 refine ql6 ?_ ?_
 ·exact qs8 hx hy (x70 (j48 B _))
 refine ql6 ?_ ?_
 ·exact qs8 hx hy (jf4 (vj2 hi hi _ _))
 refine ql6 ?_ ?_
 ·exact qs8 hx hy (jf4 (vj2 hj hj _ _))
 refine ql6 ?_ ?_
 ·exact qs8 hx hy (jf4 (vj2 (fun _ _=>zm9 _) (fun _ _=>zm9 _) _ _))
 refine ql6 ?_ ?_
 ·exact qs8 hx hy (jf4 (vj2 gQuo_I64 hQuo_I64 _ _))
 refine ql6 ?_ ?_
 ·exact x69 hx (jf4 (VOK_neg _))
 refine ql6 ?_ ?_
 ·refine x69 hx ?_
  unfold absF
  split
  ·exact u80 _
  split
  ·exact jf4 (VOK_neg _)
  ·exact hx
 refine ql6 ?_ ?_
 ·exact qs8 hx hy (x70 (jf4 ⟨by simp,by simp,modE_I64 _ _,by simp⟩))
 refine ql6 ?_ ?_
 ·exact x69 hx (x70 ⟨by simp[za0],by simp[za0],⟨by dsimp only[za0];omega,by have:=hx.2.2.2;dsimp only[za0];omega⟩,by simp[za0]⟩)
 refine ql6 ?_ ?_
 ·exact x69 hx (x70 ⟨by simp[za0],by simp[za0],⟨by simp[za0],by simp[za0]⟩,by have:=hx.2.2.2;simpa[za0] using this⟩)
 refine ql6 ?_ ?_
 ·unfold ifA
  split
  ·exact zn7 hx
  split
  ·exact hy
  ·exact hz
 ·exact u80 _
theorem vp5 {F:List q00→Option q03}:∀ (l:List q03) (acc:List q00),(∃ a∈l,a.2.1≠0∧we0 F l acc=some a)∨((∀ a∈l,a.2.1=0)∧we0 F l acc=F (acc++l.map (·.1)))
 |[],acc=>.inr ⟨by simp,by simp[we0]⟩
 |a::l,acc=>by
  unfold we0
  by_cases h:a.2.1=0
  ·rw[if_neg (by simp[h])]
   rcases vp5 l (acc++[a.1]) with⟨b,h1,h2,h3⟩|⟨h1,h2⟩
   ·exact .inl ⟨b,by simp[h1],h2,h3⟩
   ·refine .inr ⟨?_,by rw[h2];simp⟩
    intro b hb
    simp only[List.mem_cons] at hb
    rcases hb with rfl|hb
    ·exact h
    ·exact h1 b hb
  ·rw[if_pos h]
   exact .inl ⟨a,by simp,h,rfl⟩
theorem ka4 (k:q35):za1 k k.1.length=k.1:=by
 unfold za1
 apply List.ext_getElem
 ·simp
 ·intro i h1 h2
  simp only[List.getElem_map,List.getElem_range',Nat.zero_add,Nat.one_mul]
  unfold w24
  rw[List.getD_eq_getElem?_getD,List.getElem?_eq_getElem h2]
  rfl
structure uf6 (k:q35) (a:q03):Prop where
 ok:(a∈k.1∧a.2.1≠0)∨((∀ a∈k.1,a.2.1=0)∧∃ r,ku8 (k.1.map (·.1)) r∧a=z93 r)
theorem uh1 {N:Nat}(hN:1000000<N){k:q35}(hk:KOK B k)(op:Int)(hop:op=19∨op=20):Tells (opO N op k) (uf6 k):=by
 have hlen:=hk.len
 have hl:(k.1.map (·.1)).length=k.1.length:=by simp
 have hi:∀ v∈k.1.map (·.1),I64 v.2.1:=fun v hv=>by
  obtain⟨a,h1,rfl⟩:=List.mem_map.1 hv
  exact(hk.ans a h1).2.2.1
 have main:∀ c:Int,Tells (we0 (fun l=>(qh4 N c l).bind fun r=>qc7 N r.1 r.2.1) k.1 []) (uf6 k):=fun c=>by
  rcases vp5 (F:=fun l=>(qh4 N c l).bind fun r=>qc7 N r.1 r.2.1) k.1 [] with⟨b,h1,h2,h3⟩|⟨h1,h2⟩
  ·rw[h3]
   exact Tells.some ⟨.inl ⟨h1,h2⟩⟩
  ·rw[h2,List.nil_append]
   refine Tells.bind (kx6 (by omega) (by omega) (by omega) hi c) fun r hr=>?_
   rw[j37]
   exact Tells.some ⟨.inr ⟨h1,r,hr,rfl⟩⟩
 unfold opO
 rcases hop with rfl|rfl
 ·show Tells (qx6 N 19 k) _
  have e:=y33 N k k.1.length (by omega) (by omega)
  rw[ka4] at e
  show Tells ((qi3 N k (k.1.length:Int)).bind fun r=>some r) _
  rw[e]
  refine Tells.bind (Q:=uf6 k) ?_ fun r hr=>Tells.some hr
  have e2:qs0 N=fun l=>(qh4 N (-1) l).bind fun r=>qc7 N r.1 r.2.1:=by
   funext l
   unfold qs0 wn0 jp5
   cases qh4 N (-1) l with
   |none=>rfl
   |some r=>simp only[Option.bind_some,j37]
  rw[e2]
  exact main (-1)
 ·show Tells (qx6 N 20 k) _
  have e:=y36 N k k.1.length (by omega) (by omega)
  rw[ka4] at e
  show Tells ((qi4 N k (k.1.length:Int)).bind fun r=>some r) _
  rw[e]
  refine Tells.bind (Q:=uf6 k) ?_ fun r hr=>Tells.some hr
  have e2:qs2 N=fun l=>(qh4 N 1 l).bind fun r=>qc7 N r.1 r.2.1:=by
   funext l
   unfold qs2 wn1 yk7
   cases qh4 N 1 l with
   |none=>rfl
   |some r=>simp only[Option.bind_some,j37]
  rw[e2]
  exact main 1
theorem vp4 (l:List q00)(h:∀ v∈l,v.1=1∨v.1=2):xd5 l=1∨xd5 l=2:=by
 have:∀ (l:List q00) (k:Int),(∀ v∈l,v.1=1∨v.1=2)→(k=1∨k=2)→(l.foldl (fun k v=>jl7 k v.1) k=1∨l.foldl (fun k v=>jl7 k v.1) k=2):=by
  intro l
  induction l with
  |nil=>intro k _ h;exact h
  |cons v l ih =>
   intro k h1 h2
   rw[List.foldl_cons]
   refine ih _ (fun v hv=>h1 v (by simp[hv])) ?_
   have:=h1 v (by simp)
   unfold jl7
   split<;>omega
 exact this l 1 h (.inl rfl)
theorem VOK_most {k:q35}(hk:KOK B k){a:q03}(h:uf6 k a):VOK B a.1:=by
 rcases h.ok with⟨h1,_⟩|⟨h1,r,hr,rfl⟩
 ·exact hk.ans a h1
 ·unfold z93
  by_cases e:r.2.1=0
  ·rw[if_neg (by simp[e])]
   rcases hr.ok e with⟨h2,_⟩|⟨h2,h3,h4,h5⟩
   ·rw[h2];exact qf4 B
   ·refine⟨?_,?_,h4,by dsimp only[za0];rw[h5];simp⟩
    ·have:=vp4 _ h2;dsimp only[za0];omega
    ·have:=vp4 _ h2;dsimp only[za0];omega
  ·rw[if_pos e];exact u80 _
theorem opO_tells {N:Nat}(hN:1000000<N)(op:Int){k:q35}(hk:KOK B k)(hB:B≤4294967280):Tells (opO N op k) fun a=>VOK B a.1:=by
 by_cases h:op=19∨op=20
 ·exact(uh1 hN hk op h).mono fun a ha=>VOK_most hk ha
 ·rw[opO_is hN hk hB op (fun e=>h (.inl e)) (fun e=>h (.inr e))]
  exact Tells.some (VOK_op op hk hB)
end
def vh2 (v:q00):Bool:=(qz3 0 v).getD false
theorem yf9 (N:Nat)(v:q00):qz3 N v=some (vh2 v):=by
 have e:qz3 N v=qz3 0 v:=rfl
 have:∃ b,qz3 0 v=some b:=by
  unfold qz3 wl0 wk9
  repeat' first|exact⟨_,rfl⟩|(refine(fun {g:Bool} {x y:Option Bool} (h1:∃ z,x=some z) (h2:∃ z,y=some z)=>show ∃ z,(bif g then x else y)=some z by cases g<;>assumption) ?_ ?_)
 obtain⟨b,hb⟩:=this
 unfold vh2
 rw[e,hb];rfl
def uv4 (v:q00):q03:=if vh2 v=true then za0 v else w2m 2
theorem kx9 (N:Nat)(v:q00):zq1 N v=some (uv4 v):=by
 unfold zq1 uv4
 rw[yf9,Option.bind_some]
 cases vh2 v<;>rfl
def uw0 (vars:List q30)(name:List UInt8):q03:=match vars.find? (fun b=>b.1==name) with
 |some b=>uv4 b.2.1
 |none=>w2m 11
def uv8 (n:q15)(self:q00)(vars:List q30):q03 :=
 if n.1=1 then uv4 n.2.1 else if n.1=3 then uv4 self else uw0 vars n.2.2.1
def ke2 (n:q15):Bool:=decide (n.1=1∨n.1=2∨n.1=3)
theorem look_is {N:Nat}(vars:List q30)(hv:vars.length≤1000000)(hN:vars.length<N)(n:q15)(self:q00)(h:n.1=2):z68 N n self vars=some (uw0 vars n.2.2.1,true,()):=by
 refine Tells.get ?_
 unfold z68 jl3
 rw[h]
 refine Tells.no rfl (Tells.no rfl (Tells.ok rfl ?_))
 refine Tells.iter (fun (i:Int)=>∃ k:Nat,i=k∧k≤vars.length∧(vars.take k).find? (fun b=>b.1==n.2.2.1)=none) (fun (i:Int)=>vars.length-i.toNat) ?_ N 0 ⟨0,rfl,by omega,rfl⟩ (by simpa using hN)
 rintro K i ⟨k,rfl,h1,h2⟩ hK
 unfold y82
 dsimp only
 refine Tells.dec (fun c=>?_) (fun c=>?_)
 ·have hk:k<vars.length:=by omega
  have ht:=we5 vars k hk
  rw[qc8 hk]
  refine Tells.ok (qi0 (by omega) (by omega)) (Tells.ite (fun c2=>?_) (fun c2=>?_))
  ·rw[kx9]
   refine Tells.some ?_
   have:vars.find? (fun b=>b.1==n.2.2.1)=some vars[k]:=by
    have e:vars=vars.take k++vars[k]::vars.drop (k+1):=by rw[← List.drop_eq_getElem_cons hk,List.take_append_drop]
    have e2:=congrArg (List.find? (fun b=>b.1==n.2.2.1)) e
    rw[e2,List.find?_append,h2]
    simp only[Option.none_or,List.find?_cons,c2]
   unfold uw0
   rw[this]
  ·refine Tells.ok (inI (by omega) (by omega)) (hK _ ⟨k+1,by omega,by omega,?_⟩ (by omega))
   rw[ht,List.find?_append,h2]
   simp[c2]
 ·have:k=vars.length:=by omega
  subst this
  rw[List.take_length] at h2
  refine Tells.some ?_
  unfold uw0
  rw[h2];rfl
theorem leaf_is {N:Nat}(vars:List q30)(hv:vars.length≤1000000)(hN:vars.length<N)(n:q15)(self:q00):z68 N n self vars=some (if ke2 n=true then (uv8 n self vars,true,()) else (a0,false,())):=by
 by_cases h2:n.1=2
 ·rw[look_is vars hv hN n self h2,if_pos (by simp[ke2,h2])]
  unfold uv8
  rw[if_neg (by omega),if_neg (by omega)]
 ·unfold z68 jl3 ke2 uv8
  by_cases h1:n.1=1
  ·simp[h1,kx9]
  ·by_cases h3:n.1=3
   ·simp[h3,kx9]
   ·have e1:(n.1==1)=false:=by simpa using h1
    have e2:(n.1==2)=false:=by simpa using h2
    have e3:(n.1==3)=false:=by simpa using h3
    rw[e1,e2,e3,if_neg (by simp[h1,h2,h3])]
    rfl
def q8m (l:List q03)(i:Nat)(a:Int):q03:=if 0≤a∧a<i then q17 l a a0 else a0
def kidN (t:List q15)(i:Nat)(a:Int):Bool:=if 0≤a∧a<i then (q17 t a q43).1==1&&(q17 t a q43).2.1.1==0 else false
def ua2 (t:List q15)(l:List q03)(i:Nat)(ks:List Int):q35:=(ks.map (q8m l i),ks.map (kidN t i),())
def ky3 (N:Nat)(self:q00)(vars:List q30)(n:q15)(k:q35):Option q03:=if ke2 n=true then some (uv8 n self vars) else opO N n.1 k
def k87 (N:Nat)(self:q00)(vars:List q30)(t:List q15):Nat→Option (List q03)
 |0=>some []
 |i+1=>(k87 N self vars t i).bind fun l=>(ky3 N self vars (q17 t (i:Int) q43) (ua2 t l i (q17 t (i:Int) q43).2.2.2.1)).map fun a=>l++[a]
theorem ur4 {N:Nat}{self:q00}{vars:List q30}{t:List q15}:∀ {i:Nat} {l:List q03},k87 N self vars t i=some l→l.length=i
 |0,l,h=>by cases h;rfl
 |i+1,l,h=>by
  simp only[k87] at h
  cases h1:k87 N self vars t i with
  |none=>rw[h1] at h;cases h
  |some l0 =>
   rw[h1,Option.bind_some,Option.map_eq_some_iff] at h
   obtain⟨a,_,rfl⟩:=h
   simp[ur4 h1]
theorem nthD_app {α:Type}{l m:List α}{a:Int}{d:α}(h1:0≤a)(h2:a<l.length):q17 (l++m) a d=q17 l a d:=by
 obtain⟨k,rfl⟩:∃ k:Nat,a=k:=⟨a.toNat,by omega⟩
 have hk:k<l.length:=by omega
 rw[qc8 (by simp;omega),qc8 hk,List.getElem_append_left hk]
theorem vb1 {N:Nat}{t:List q15}{self:q00}{vars:List q30}(hN:1000000<N)(ht:t.length≤100000)(hv:vars.length≤100000)(hk:∀ n∈t,n.2.2.2.1.length≤100000)
  (HT:∀ i l,i<t.length→k87 N self vars t i=some l→∃ a,ky3 N self vars (q17 t (i:Int) q43) (ua2 t l i (q17 t (i:Int) q43).2.2.2.1)=some a) :
  Tells (qt4 N t self vars) fun r=>∃ l,k87 N self vars t t.length=some l∧r=l.getLastD a0:=by
 unfold qt4 y17
 refine Tells.ok (by rw[jg3];omega) ?_
 dsimp only
 refine Tells.iter (fun (e:Int×List q03×Int×Int×List UInt8×Int)=>∃ (i:Nat) (l:List q03),e.1=i∧i≤t.length∧k87 N self vars t i=some l∧e.2.1=l++List.replicate (t.length-i) a0∧((e.2.2.1,e.2.2.2.1,e.2.2.2.2.1,()),e.2.2.2.2.2,())=l.getLastD a0)
  (fun (e:Int×List q03×Int×Int×List UInt8×Int)=>t.length-e.1.toNat) ?_ N _ ⟨0,[],rfl,by omega,rfl,by rw[Int.toNat_natCast];rfl,rfl⟩ (by dsimp only;omega)
 rintro K ⟨i,all,lk,ln,ls,le⟩ ⟨i,l,e1,k1,k2,k3,k4⟩ hK
 dsimp only at e1 k1 k2 k3 k4 hK
 subst e1
 subst k3
 have ll:=ur4 k2
 unfold zm4 j20
 dsimp only
 refine Tells.dec (fun c=>?_) (fun c=>?_)
 ·have hi:i<t.length:=by omega
  obtain⟨a,ha⟩:=HT i l hi k2
  have hmem:q17 t (i:Int) q43∈t:=wz9 (by omega) c
  have hks:=hk _ hmem
  refine Tells.ok (qi0 (by omega) (by omega)) ?_
  generalize hn:q17 t (i:Int) q43=n at ha hks hmem ⊢
  obtain⟨op,⟨vk,vn,vs,_⟩,nm,ks,⟨pl,pc,_⟩,_⟩:=n
  dsimp only at ha hks ⊢
  have lall:(l++List.replicate (t.length-i) a0).length=t.length:=by simp;omega
  refine Tells.iter (fun (e:Int×List q03×List Bool)=>∃ j:Nat,e.1=j∧j≤ks.length∧e.2.1=(ks.take j).map (q8m l i)∧e.2.2=(ks.take j).map (kidN t i)) (fun (e:Int×List q03×List Bool)=>ks.length-e.1.toNat) ?_ N _ ⟨0,rfl,by omega,rfl,rfl⟩ (by dsimp only;omega)
  rintro K1 ⟨j,kl,kn⟩ ⟨j,e1,g1,g2,g3⟩ hK1
  dsimp only at e1 g1 g2 g3 hK1
  subst e1 g2 g3
  unfold jh5
  dsimp only
  refine Tells.dec (fun cj=>?_) (fun cj=>?_)
  ·have hj:j<ks.length:=by omega
   have ht':=we5 ks j hj
   rw[qc8 hj]
   refine Tells.ok (qi0 (by omega) (by omega)) ?_
   generalize ks[j]=x at ht'
   have next:∀ (u:q03) (b:Bool),u=q8m l i x→b=kidN t i x→Tells (K1 ((j:Int)+1,((ks.take j).map (q8m l i)++([u]:List q03)),((ks.take j).map (kidN t i)++[b]))) fun r=>∃ l,k87 N self vars t t.length=some l∧r=l.getLastD a0:=fun u b hu hb=>by
    subst hu hb
    exact hK1 _ ⟨j+1,by dsimp only;omega,by omega,by rw[ht'];simp,by rw[ht'];simp⟩ (by dsimp only;omega)
   have f1:∀ u:q03,qr1 (((ks.take j).map (q8m l i)).length+([u]:List q03).length) 3518437208883=true:=fun u=>jy4 (by simp;omega)
   have f2:∀ b:Bool,qr1 (((ks.take j).map (kidN t i)).length+[b].length) 140737488355328=true:=fun u=>jy4 (by simp;omega)
   have f3:q24 ((j:Int)+1)=true:=inI (by omega) (by omega)
   refine Tells.dec (fun c1=>?_) (fun c1=>Tells.dec (fun c2=>?_) (fun c2=>?_))
   ·exact Tells.ok (f1 _) (Tells.ok (f2 _) (Tells.ok f3 (next _ _ (by unfold q8m;rw[if_neg (by omega)];rfl) (by unfold kidN;rw[if_neg (by omega)]))))
   ·exact Tells.ok (f1 _) (Tells.ok (f2 _) (Tells.ok f3 (next _ _ (by unfold q8m;rw[if_neg (by omega)];rfl) (by unfold kidN;rw[if_neg (by omega)]))))
   ·have h0:0≤x:=by omega
    have ea:q17 (l++List.replicate (t.length-i) a0) x wz5=q8m l i x:=by
     unfold q8m
     rw[if_pos (by omega),nthD_app h0 (by omega)]
     rfl
    have en:kidN t i x=((q17 t x q43).1==1&&(q17 t x q43).2.1.1==0):=by unfold kidN;rw[if_pos (by omega)]
    refine Tells.ok (qi0 h0 (by omega)) (Tells.ok (qi0 h0 (by omega)) (Tells.ok (f1 _) (Tells.ok (qi0 h0 (by omega)) (Tells.ite (fun c3=>?_) (fun c3=>?_)))))
    ·exact Tells.ok (qi0 h0 (by omega)) (Tells.ok (f2 _) (Tells.ok f3 (next _ _ ea (by rw[en,c3];rfl))))
    ·exact Tells.ok (f2 _) (Tells.ok f3 (next _ _ ea (by rw[en,c3];rfl)))
  ·have hj:j=ks.length:=by omega
   subst hj
   rw[List.take_length,leaf_is vars (by omega) (by omega),Option.bind_some]
   have fin:∀ u:q03,u=a→Tells (bif inR (i:Int) ((t.length:Int).toNat) then
     bif inR (i:Int) (l++List.replicate (t.length-i) a0).length then
     bif q24 ((i:Int)+1) then
     K ((i:Int)+1,(setD (l++List.replicate (t.length-i) a0) (i:Int) u),u.1.1,u.1.2.1,u.1.2.2.1,u.2.1)
     else none
     else none
     else none) fun r=>∃ l,k87 N self vars t t.length=some l∧r=l.getLastD a0:=fun u hu=>by
    subst hu
    refine Tells.ok (qi0 (by omega) (by omega)) (Tells.ok (qi0 (by omega) (by omega)) (Tells.ok (inI (by omega) (by omega)) (hK _ ⟨i+1,l++[u],by dsimp only;omega,by omega,?_,?_,?_⟩ (by dsimp only;omega))))
    ·simp only[k87,k2,Option.bind_some]
     rw[hn]
     dsimp only
     rw[ha]
     rfl
    ·dsimp only
     unfold setD
     have e:List.replicate (t.length-i) a0=a0::List.replicate (t.length-(i+1)) a0:=by
      rw[← List.replicate_succ]
      congr 1
      omega
     have e3:∀ r:List q03,(l++r).set i u=l++r.set (i-l.length) u:=fun r=>by rw[List.set_append,if_neg (by omega)]
     rw[Int.toNat_natCast,e,e3,show i-l.length=0 by omega,List.set_cons_zero]
     simp
    ·simp
   unfold ky3 at ha
   have kk:((ks.map (q8m l i)),(ks.map (kidN t i)),())=ua2 t l i ks:=rfl
   rw[kk]
   by_cases hb:ke2 (op,(vk,vn,vs,()),nm,ks,(pl,pc,()),())=true
   ·rw[if_pos hb] at ha ⊢
    refine Tells.no rfl (Tells.no rfl (fin _ ?_))
    cases ha;rfl
   ·rw[if_neg hb] at ha ⊢
    refine Tells.ok rfl ?_
    unfold opO at ha
    dsimp only at ha
    cases h1:wi2 N op (ua2 t l i ks) with
    |none=>rw[h1] at ha;cases ha
    |some r1 =>
     rw[h1,Option.bind_some] at ha
     rw[Option.bind_some]
     cases h2:r1.2.1 with
     |false =>
      rw[h2,Bool.not_false,cond_true] at ha
      rw[Bool.not_false,cond_true,ha,Option.bind_some]
      exact fin _ rfl
     |true =>
      rw[h2,Bool.not_true,cond_false] at ha
      rw[Bool.not_true,cond_false]
      cases ha
      exact fin _ rfl
 ·have:i=t.length:=by omega
  subst this
  exact Tells.some ⟨l,k2,k4⟩
theorem uq9 {B:Nat}{v:q00}(h:VOK B v):VOK B (uv4 v).1:=by
 unfold uv4
 split
 ·exact h
 ·exact u80 _
theorem VOK_leaf {B:Nat}{n:q15}{self:q00}{vars:List q30}(h1:VOK B n.2.1)(h2:VOK B self)(h3:∀ b∈vars,VOK B b.2.1):VOK B (uv8 n self vars).1:=by
 unfold uv8
 refine ql6 (uq9 h1) (ql6 (uq9 h2) ?_)
 unfold uw0
 split
 ·rename_i b hb
  exact uq9 (h3 b (List.mem_of_find?_eq_some hb))
 ·exact u80 _
structure EvOK (N B:Nat) (t:List q15) (sf:q00) (vars:List q30):Prop where
 fuel:1000000<N
 bound:B≤4294967280
 nodes:∀ n∈t,VOK B n.2.1∧n.2.2.2.1.length≤100000
 slf:VOK B sf
 vrs:∀ b∈vars,VOK B b.2.1
section
variable {N B:Nat} {t:List q15} {self:q00} {vars:List q30} (h:EvOK N B t self vars)
include h
theorem vg2 {l:List q03}(hl:∀ a∈l,VOK B a.1){i:Nat}(hi:i≤l.length){ks:List Int}(hk:ks.length≤100000):KOK B (ua2 t l i ks):=by
 refine⟨fun a ha=>?_,by simpa[ua2] using hk⟩
 obtain⟨x,_,rfl⟩:=List.mem_map.1 ha
 unfold q8m
 split
 ·exact hl _ (wz9 (by omega) (by omega))
 ·exact qf4 B
theorem uh2 {n:q15}(hn:VOK B n.2.1){k:q35}(hk:KOK B k):Tells (ky3 N self vars n k) fun a=>VOK B a.1:=by
 unfold ky3
 by_cases hb:ke2 n=true
 ·rw[if_pos hb];exact Tells.some (VOK_leaf hn h.slf h.vrs)
 ·rw[if_neg hb];exact opO_tells h.fuel _ hk h.bound
theorem yh1 :∀ i,i≤t.length→Tells (k87 N self vars t i) fun l=>l.length=i∧∀ a∈l,VOK B a.1
 |0,_=>Tells.some ⟨rfl,by simp⟩
 |i+1,hi=>by
  obtain⟨l,h1,h2,h3⟩:=yh1 i (by omega)
  have hm:q17 t (i:Int) q43∈t:=wz9 (by omega) (by omega)
  obtain⟨g1,g2⟩:=h.nodes _ hm
  obtain⟨a,h4,h5⟩:=uh2 h g1 (vg2 h h3 (i:=i) (by omega) g2)
  refine⟨l++[a],?_,by simp[h2],fun b hb=>?_⟩
  ·simp only[k87,h1,Option.bind_some,h4,Option.map_some]
  ·rcases List.mem_append.1 hb with hb|hb
   ·exact h3 b hb
   ·simp at hb;subst hb;exact h5
theorem q8g (ht:t.length≤100000)(hv:vars.length≤100000):Tells (qt4 N t self vars) fun r=>∃ l,k87 N self vars t t.length=some l∧(∀ a∈l,VOK B a.1)∧r=l.getLastD a0:=by
 obtain⟨r,h1,l,h2,h3⟩:=vb1 h.fuel ht hv (fun n hn=>(h.nodes n hn).2) (fun i l hi hl=>by
  obtain⟨l',g1,g2,g3⟩:=yh1 h i (by omega)
  rw[hl] at g1
  cases g1
  have hm:q17 t (i:Int) q43∈t:=wz9 (by omega) (by omega)
  obtain⟨q1,q2⟩:=h.nodes _ hm
  obtain⟨a,h4,h5⟩:=uh2 h q1 (vg2 h g3 (i:=i) (by omega) q2)
  exact⟨a,h4⟩)
 obtain⟨l',g1,g2,g3⟩:=yh1 h t.length (by omega)
 rw[h2] at g1
 cases g1
 exact⟨r,h1,l,h2,g3,h3⟩
end
theorem q7u {N:Nat}{t:List q15}{self:q00}{vars more:List q30}(h:∀ n∈t,uv8 n self vars=uv8 n self more∨ke2 n=false):∀ i,i≤t.length→k87 N self vars t i=k87 N self more t i
 |0,_=>rfl
 |i+1,hi=>by
  simp only[k87]
  rw[q7u h i (by omega)]
  congr 1
  funext l
  have hm:q17 t (i:Int) q43∈t:=wz9 (by omega) (by omega)
  unfold ky3
  rcases h _ hm with h1|h1
  ·rw[h1]
  ·rw[h1];rfl
theorem look_more (vars:List q30)(other:q30)(name:List UInt8)(h:other.1≠name):uw0 (([other]++vars)++vars.map fun b=>(b.1,other.2.1,())) name=uw0 vars name:=by
 have e:(([other]++vars)++vars.map fun b=>((b.1,other.2.1,()):q30)).find? (fun b=>b.1==name)=vars.find? (fun b=>b.1==name):=by
  have e1:(other.1==name)=false:=by simpa using h
  simp only[List.singleton_append,List.cons_append,List.find?_cons,e1,List.find?_append]
  cases hf:vars.find? (fun b=>b.1==name) with
  |some b=>rfl
  |none =>
   rw[List.find?_nil,Option.none_or,Option.none_or,List.find?_eq_none]
   intro x hx
   obtain⟨b,hb,rfl⟩:=List.mem_map.1 hx
   exact List.find?_eq_none.1 hf b hb
 unfold uw0
 rw[e]
end Go.Proofs.YtgicljncknbgcaaGreat.Abs
