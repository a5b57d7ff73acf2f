/- Expressions' answers: those that ask expressions from the left. -/
import Derived.Test.YtgicljncknbgcaaGreatN1
import Derived.Test.YtgicljncknbgcaaGreatL7
import Derived.Test.YtgicljncknbgcaaGreatV1
import Derived.Test.YtgicljncknbgcaaGreatN2
import Derived.Test.YtgicljncknbgcaaGreatR1
import Derived.Test.YtgicljncknbgcaaGreatR2
set_option linter.unusedVariables false
set_option linter.unusedSimpArgs false
set_option linter.unusedSectionVars false
namespace Go.Proofs.YtgicljncknbgcaaGreat.Abs
open Go
def a0 :q03:=((0,0,[],()),0,())
def w24 (k:q35)(i:Nat):q03:=k.1.getD i a0
def za1 (k:q35)(n:Nat):List q03:=(List.range' 0 n).map (w24 k)
theorem q5f (N:Nat)(k:q35)(i:Nat):q65 N k (i:Int)=some (w24 k i):=by
 unfold q65 w24
 by_cases h:(i:Int)≥(k.1.length:Int)
 ·have:k.1.length≤i:=by omega
  simp only[h,decide_true,cond_true]
  rw[List.getD_eq_getElem?_getD,List.getElem?_eq_none this]
  rfl
 ·have h2:i<k.1.length:=by omega
  have h3:inR (i:Int) k.1.length=true:=qi0 (by omega) (by omega)
  simp only[h,decide_false,cond_false,h3,cond_true]
  rw[qc8 h2,List.getD_eq_getElem?_getD,List.getElem?_eq_getElem h2]
  rfl
def we0 (F:List q00→Option q03):List q03→List q00→Option q03
 |[],acc=>F acc
 |a::l,acc=>if a.2.1≠0 then some a else we0 F l (acc++[a.1])
theorem qm4 {N:Nat}(body:((List q00×Int)→Option q03)→(List q00×Int)→Option q03)(k:q35)(n:Nat)(F:List q00→Option q03)(hN:n<N)(hn:n≤1000000)
  (hb:∀ K l t,body K (l,t)=bif decide (t<(n:Int)) then
   (q65 N (k.1,k.2.1,()) t).bind fun (r:q03) =>
   bif (r.2.1 != 0) then
    some r
   else
    bif qr1 (l.length+([r.1]:List q00).length) 4398046511104 then
    bif q24 (t+1) then
    K ((l++([r.1]:List q00)),t+1)
    else none
    else none
  else F l):q80 body N ([],0)=we0 F (za1 k n) []:=by
 have main:∀ (m i:Nat) (acc:List q00) (M:Nat),i+m=n→acc.length=i→m<M→q80 body M (acc,(i:Int))=we0 F ((List.range' i m).map (w24 k)) acc:=by
  intro m
  induction m with
  |zero =>
   intro i acc M h1 h2 h3
   cases M with
   |zero=>omega
   |succ M =>
    simp only[q80,hb]
    have:¬ (i:Int)<(n:Int):=by omega
    simp[this,we0]
  |succ m ih =>
   intro i acc M h1 h2 h3
   cases M with
   |zero=>omega
   |succ M =>
    simp only[q80,hb]
    have c:(i:Int)<(n:Int):=by omega
    have e:q65 N (k.1,k.2.1,()) (i:Int)=some (w24 k i):=q5f N k i
    rw[decide_eq_true c,cond_true,e,Option.bind_some,List.range'_succ,List.map_cons,we0]
    by_cases h:(w24 k i).2.1=0
    ·have h':((w24 k i).2.1 != 0)=false:=by simpa using h
     rw[h',cond_false,jy4 (by simp;omega),cond_true,inI (by omega) (by omega),cond_true,if_neg (by simp[h])]
     exact ih (i+1) (acc++[(w24 k i).1]) M (by omega) (by simp;omega) (by omega)
    ·have h':((w24 k i).2.1 != 0)=true:=by simpa using h
     rw[h',cond_true,if_pos h]
 exact main n 0 [] N (by omega) rfl hN
def za4 (N:Nat)(yr2:List q03)(q92:List Bool)(t2:Bool)(l:List q00):Option q03 :=
 (qf7 N l yr2 q92 t2).bind fun (r1:q03) =>
 some r1
theorem xn6 (N:Nat)(k:q35)(n:Nat)(yr2:List q03)(q92:List Bool)(t2:Bool)(hN:n<N)(hn:n≤1000000):wd8 N k (n:Int) yr2 q92 t2=we0 (za4 N yr2 q92 t2) (za1 k n) [] :=
 qm4 (wu1 N (n:Int) k.1 k.2.1 0 0 [] 0 yr2 q92 t2) k n (za4 N yr2 q92 t2) hN hn fun K l t=>rfl
def wg4 (N:Nat)(l:List q00):Option q03 :=
 (qu5 N l).bind fun (r1:q03) =>
 some r1
theorem yn2 (N:Nat)(k:q35)(n:Nat)(hN:n<N)(hn:n≤1000000):qt6 N k (n:Int)=we0 (wg4 N) (za1 k n) [] :=
 qm4 (wa4 N (n:Int) k.1 k.2.1 0 0 [] 0) k n (wg4 N) hN hn fun K l t=>rfl
def wg6 (N:Nat)(l:List q00):Option q03 :=
 (qj2 N l).bind fun (r1:q03) =>
 some r1
theorem yn5 (N:Nat)(k:q35)(n:Nat)(hN:n<N)(hn:n≤1000000):qt7 N k (n:Int)=we0 (wg6 N) (za1 k n) [] :=
 qm4 (wa7 N (n:Int) k.1 k.2.1 0 0 [] 0) k n (wg6 N) hN hn fun K l t=>rfl
def wg8 (N:Nat)(l:List q00):Option q03 :=
 (qj3 N l).bind fun (r1:q03) =>
 some r1
theorem yn8 (N:Nat)(k:q35)(n:Nat)(hN:n<N)(hn:n≤1000000):qt8 N k (n:Int)=we0 (wg8 N) (za1 k n) [] :=
 qm4 (wb0 N (n:Int) k.1 k.2.1 0 0 [] 0) k n (wg8 N) hN hn fun K l t=>rfl
def wh0 (N:Nat)(l:List q00):Option q03 :=
 (qj4 N l).bind fun (r1:q03) =>
 some r1
theorem yo1 (N:Nat)(k:q35)(n:Nat)(hN:n<N)(hn:n≤1000000):qt9 N k (n:Int)=we0 (wh0 N) (za1 k n) [] :=
 qm4 (wb3 N (n:Int) k.1 k.2.1 0 0 [] 0) k n (wh0 N) hN hn fun K l t=>rfl
def wh2 (N:Nat)(t1:Int)(l:List q00):Option q03 :=
 (qn2 N l t1).bind fun (r1:q03) =>
 some r1
theorem yo4 (N:Nat)(k:q35)(n:Nat)(t1:Int)(hN:n<N)(hn:n≤1000000):qu0 N k (n:Int) t1=we0 (wh2 N t1) (za1 k n) [] :=
 qm4 (wb6 N (n:Int) k.1 k.2.1 0 0 [] 0 t1) k n (wh2 N t1) hN hn fun K l t=>rfl
def wh4 (N:Nat)(t1:Int)(l:List q00):Option q03 :=
 (qf9 N l t1).bind fun (r1:q03) =>
 some r1
theorem yo7 (N:Nat)(k:q35)(n:Nat)(t1:Int)(hN:n<N)(hn:n≤1000000):qu1 N k (n:Int) t1=we0 (wh4 N t1) (za1 k n) [] :=
 qm4 (wb9 N (n:Int) k.1 k.2.1 0 0 [] 0 t1) k n (wh4 N t1) hN hn fun K l t=>rfl
def wh6 (N:Nat)(l:List q00):Option q03 :=
 bif inR 0 l.length then
 bif inR 1 l.length then
 (je5 N (q17 l 0 q26) (q17 l 1 q26)).bind fun (r1:q00×Int×Unit) =>
 (qc7 N r1.1 r1.2.1).bind fun (r2:q03) =>
 some r2
 else none
 else none
theorem yp0 (N:Nat)(k:q35)(n:Nat)(hN:n<N)(hn:n≤1000000):qu2 N k (n:Int)=we0 (wh6 N) (za1 k n) [] :=
 qm4 (wc2 N (n:Int) k.1 k.2.1 0 0 [] 0) k n (wh6 N) hN hn fun K l t=>rfl
def wh8 (N:Nat)(l:List q00):Option q03 :=
 bif inR 0 l.length then
 bif inR 1 l.length then
 (zw1 N (q17 l 0 q26) (q17 l 1 q26)).bind fun (r1:q00×Int×Unit) =>
 (qc7 N r1.1 r1.2.1).bind fun (r2:q03) =>
 some r2
 else none
 else none
theorem yp3 (N:Nat)(k:q35)(n:Nat)(hN:n<N)(hn:n≤1000000):qu3 N k (n:Int)=we0 (wh8 N) (za1 k n) [] :=
 qm4 (wc5 N (n:Int) k.1 k.2.1 0 0 [] 0) k n (wh8 N) hN hn fun K l t=>rfl
def wi0 (N:Nat)(l:List q00):Option q03 :=
 bif inR 0 l.length then
 bif inR 1 l.length then
 (je7 N (q17 l 0 q26) (q17 l 1 q26)).bind fun (r1:q00×Int×Unit) =>
 (qc7 N r1.1 r1.2.1).bind fun (r2:q03) =>
 some r2
 else none
 else none
theorem yp6 (N:Nat)(k:q35)(n:Nat)(hN:n<N)(hn:n≤1000000):qu4 N k (n:Int)=we0 (wi0 N) (za1 k n) [] :=
 qm4 (wc8 N (n:Int) k.1 k.2.1 0 0 [] 0) k n (wi0 N) hN hn fun K l t=>rfl
def w90 (N:Nat)(l:List q00):Option q03 :=
 bif inR 0 l.length then
 bif inR 1 l.length then
 (je6 N (q17 l 0 q26) (q17 l 1 q26)).bind fun (r1:q00×Int×Unit) =>
 (qc7 N r1.1 r1.2.1).bind fun (r2:q03) =>
 some r2
 else none
 else none
theorem y27 (N:Nat)(k:q35)(n:Nat)(hN:n<N)(hn:n≤1000000):qp0 N k (n:Int)=we0 (w90 N) (za1 k n) [] :=
 qm4 (w31 N (n:Int) k.1 k.2.1 0 0 [] 0) k n (w90 N) hN hn fun K l t=>rfl
def w92 (N:Nat)(l:List q00):Option q03 :=
 (wm9 N l).bind fun (r1:q03) =>
 some r1
theorem y30 (N:Nat)(k:q35)(n:Nat)(hN:n<N)(hn:n≤1000000):qp1 N k (n:Int)=we0 (w92 N) (za1 k n) [] :=
 qm4 (w34 N (n:Int) k.1 k.2.1 0 0 [] 0) k n (w92 N) hN hn fun K l t=>rfl
def qs0 (N:Nat)(l:List q00):Option q03 :=
 (wn0 N l).bind fun (r1:q03) =>
 some r1
theorem y33 (N:Nat)(k:q35)(n:Nat)(hN:n<N)(hn:n≤1000000):qi3 N k (n:Int)=we0 (qs0 N) (za1 k n) [] :=
 qm4 (w37 N (n:Int) k.1 k.2.1 0 0 [] 0) k n (qs0 N) hN hn fun K l t=>rfl
def qs2 (N:Nat)(l:List q00):Option q03 :=
 (wn1 N l).bind fun (r1:q03) =>
 some r1
theorem y36 (N:Nat)(k:q35)(n:Nat)(hN:n<N)(hn:n≤1000000):qi4 N k (n:Int)=we0 (qs2 N) (za1 k n) [] :=
 qm4 (w40 N (n:Int) k.1 k.2.1 0 0 [] 0) k n (qs2 N) hN hn fun K l t=>rfl
def w96 (N:Nat)(l:List q00):Option q03 :=
 (yh3 N l).bind fun (r1:q03) =>
 some r1
theorem y39 (N:Nat)(k:q35)(n:Nat)(hN:n<N)(hn:n≤1000000):qp2 N k (n:Int)=we0 (w96 N) (za1 k n) [] :=
 qm4 (w43 N (n:Int) k.1 k.2.1 0 0 [] 0) k n (w96 N) hN hn fun K l t=>rfl
def w98 (N:Nat)(t1:Int)(l:List q00):Option q03 :=
 (qg0 N l t1).bind fun (r1:q03) =>
 some r1
theorem y42 (N:Nat)(k:q35)(n:Nat)(t1:Int)(hN:n<N)(hn:n≤1000000):qp3 N k (n:Int) t1=we0 (w98 N t1) (za1 k n) [] :=
 qm4 (w46 N (n:Int) k.1 k.2.1 0 0 [] 0 t1) k n (w98 N t1) hN hn fun K l t=>rfl
def wa0 (N:Nat)(t1:Int)(l:List q00):Option q03 :=
 (qg1 N l t1).bind fun (r1:q03) =>
 some r1
theorem y45 (N:Nat)(k:q35)(n:Nat)(t1:Int)(hN:n<N)(hn:n≤1000000):qp4 N k (n:Int) t1=we0 (wa0 N t1) (za1 k n) [] :=
 qm4 (w49 N (n:Int) k.1 k.2.1 0 0 [] 0 t1) k n (wa0 N t1) hN hn fun K l t=>rfl
def wa2 (N:Nat)(t1:Int)(l:List q00):Option q03 :=
 (qg2 N l t1).bind fun (r1:q03) =>
 some r1
theorem y48 (N:Nat)(k:q35)(n:Nat)(t1:Int)(hN:n<N)(hn:n≤1000000):qp5 N k (n:Int) t1=we0 (wa2 N t1) (za1 k n) [] :=
 qm4 (w52 N (n:Int) k.1 k.2.1 0 0 [] 0 t1) k n (wa2 N t1) hN hn fun K l t=>rfl
def za0 (v:q00):q03:=(v,0,())
def w2m (e:Int):q03:=((0,0,[],()),e,())
def jy5 (l:List q00):Bool:=l.any fun v=>v.1==0
def z69 (least most:Int)(l:List q00):Bool:=l.all fun v=>v.1==0||(decide (least≤v.1)&&decide (v.1≤most))
theorem fail_is (N:Nat)(e:Int):qd8 N e=some (w2m e):=rfl
theorem kd9 (N:Nat)(l:List q00)(hl:l.length≤1000000)(hN:l.length<N):q82 N l=some (jy5 l):=by
 refine Tells.get ?_
 unfold q82 ji2
 refine Tells.iter (fun (i:Int)=>∃ k:Nat,i=k∧k≤l.length∧(l.take k).any (fun v=>v.1==0)=false) (fun (i:Int)=>l.length-i.toNat) ?_ N 0 ⟨0,rfl,by omega,by simp⟩ (by simpa using hN)
 rintro K i ⟨k,rfl,h1,h2⟩ hK
 unfold j22
 dsimp only
 refine Tells.dec (fun c=>?_) (fun c=>?_)
 ·have hk:k<l.length:=by omega
  have ht:l.take (k+1)=l.take k++[l[k]]:=by rw[List.take_add_one];simp[hk]
  rw[qc8 hk]
  refine Tells.ok (qi0 (by omega) (by omega)) (Tells.ite (fun c2=>Tells.some ?_) (fun c2=>?_))
  ·unfold jy5
   exact(List.any_eq_true.2 ⟨_,List.getElem_mem hk,c2⟩).symm
  ·refine Tells.ok (inI (by omega) (by omega)) (hK _ ⟨k+1,by omega,by omega,?_⟩ (by omega))
   rw[ht,List.any_append,h2]
   simpa using c2
 ·have:k=l.length:=by omega
  subst this
  rw[List.take_length] at h2
  exact Tells.some h2.symm
theorem kx8 (N:Nat)(least most:Int)(l:List q00)(hl:l.length≤1000000)(hN:l.length<N):qb2 N least most l=some (z69 least most l):=by
 refine Tells.get ?_
 unfold qb2 yw4
 refine Tells.iter (fun (i:Int)=>∃ k:Nat,i=k∧k≤l.length∧z69 least most (l.take k)=true) (fun (i:Int)=>l.length-i.toNat) ?_ N 0 ⟨0,rfl,by omega,by simp[z69]⟩ (by simpa using hN)
 rintro K i ⟨k,rfl,h1,h2⟩ hK
 unfold y18
 dsimp only
 refine Tells.dec (fun c=>?_) (fun c=>?_)
 ·have hk:k<l.length:=by omega
  have ht:l.take (k+1)=l.take k++[l[k]]:=by rw[List.take_add_one];simp[hk]
  rw[qc8 hk]
  have next:(l[k].1==0||(decide (least≤l[k].1)&&decide (l[k].1≤most)))=true→Tells (bif q24 ((k:Int)+1) then K ((k:Int)+1) else none) fun x=>x=z69 least most l:=fun h=>by
   refine Tells.ok (inI (by omega) (by omega)) (hK _ ⟨k+1,by omega,by omega,?_⟩ (by omega))
   unfold z69 at h2 ⊢
   rw[ht,List.all_append,h2]
   simpa using h
  have bad:(l[k].1==0||(decide (least≤l[k].1)&&decide (l[k].1≤most)))=false→z69 least most l=false:=fun h=>by
   unfold z69
   rw[List.all_eq_false]
   exact⟨_,List.getElem_mem hk,by simpa using h⟩
  refine Tells.ok (qi0 (by omega) (by omega)) (Tells.ite (fun c2=>?_) (fun c2=>?_))
  ·have c2:(l[k].1==0)=false:=by simpa using c2
   refine Tells.dec (fun c3=>Tells.some ?_) (fun c3=>Tells.dec (fun c4=>Tells.some ?_) (fun c4=>next ?_))
   ·rw[bad (by rw[c2,decide_eq_false (by omega)];rfl)]
   ·rw[bad (by rw[c2,decide_eq_false (show ¬ l[k].1≤most by omega)];simp)]
   ·rw[decide_eq_true (show least≤l[k].1 by omega),decide_eq_true (show l[k].1≤most by omega)];simp
  ·refine next ?_
   have c2:(l[k].1==0)=true:=by simpa using c2
   rw[c2];rfl
 ·have:k=l.length:=by omega
  subst this
  rw[List.take_length] at h2
  exact Tells.some h2.symm
def eqF (nulls:List Bool)(t:Bool)(x y:q00):q03 :=
 if nulls.getD 0 false=true∨nulls.getD 1 false=true then za0 (we6 ((x.1==y.1)==t))
 else if jy5 [x,y]=true then za0 (0,0,[],())
 else if (q4u x y).2.1=false then w2m 8
 else za0 (we6 (((q4u x y).1==0)==t))
theorem nul_is (l:List Bool)(i:Nat){β:Type}(x y:Option β):(bif decide ((i:Int)<(l.length:Int)) then bif inR (i:Int) l.length then bif q17 l (i:Int) false then x else y else none else y)=bif l.getD i false then x else y:=by
 by_cases h:i<l.length
 ·rw[decide_eq_true (by omega),cond_true,qi0 (by omega) (by omega),cond_true,qc8 h,List.getD_eq_getElem?_getD,List.getElem?_eq_getElem h]
  rfl
 ·rw[decide_eq_false (by omega),cond_false,List.getD_eq_getElem?_getD,List.getElem?_eq_none (by omega)]
  rfl
section
variable {N:Nat} (hN:100≤N)
include hN
theorem xi8 (x y:q00):q82 N [x,y]=some (jy5 [x,y]):=kd9 N _ (by simp) (by simp;omega)
theorem q8a (nulls:List Bool)(l:List q03)(t:Bool)(x y:q00)(hx:I64 x.2.1)(hy:I64 y.2.1):qf7 N [x,y] l nulls t=some (eqF nulls t x y):=by
 unfold qf7 wg3
 dsimp only
 simp only[q95 (show 0<N by omega)]
 have e0:inR 0 [x,y].length=true:=rfl
 have e1:inR 1 [x,y].length=true:=rfl
 rw[e0,cond_true,e1,cond_true]
 have n0:q17 [x,y] 0 q26=x:=rfl
 have n1:q17 [x,y] 1 q26=y:=rfl
 rw[n0,n1,js4 N (by omega) x y hx hy,Option.bind_some]
 have b1:qr5 N [x,y] t ()=some (za0 (we6 ((x.1==y.1)==t))):=by
  unfold qr5
  rw[e0,cond_true,e1,cond_true,n0,n1,qh9];rfl
 have b2:qr6 N [x,y] (q4u x y).1 (q4u x y).2.1 t ()=some (if jy5 [x,y]=true then za0 (0,0,[],()) else if (q4u x y).2.1=false then w2m 8 else za0 (we6 (((q4u x y).1==0)==t))):=by
  unfold qr6
  rw[xi8 hN,Option.bind_some]
  cases h1:jy5 [x,y]
  ·cases h2:(q4u x y).2.1
   ·rfl
   ·simp only[qh9];rfl
  ·rfl
 have q0:=nul_is nulls 0 (β:=q03)
 have q1:=nul_is nulls 1 (β:=q03)
 have z0:((0:Nat):Int)=0:=rfl
 have z1:((1:Nat):Int)=1:=rfl
 simp only[z0] at q0
 simp only[z1] at q1
 rw[b1,b2,q1,q0]
 unfold eqF
 cases nulls.getD 0 false<;>cases nulls.getD 1 false<;>simp
def u74 (p:Int→Bool)(x y:q00):q03 :=
 if z69 1 2 [x,y]=false∧z69 3 3 [x,y]=false then w2m 8
 else if jy5 [x,y]=true then za0 (0,0,[],())
 else za0 (we6 (p (q4u x y).1))
theorem jl9 (p:Int→Bool)(q:Nat→Int→Option Bool)(hq:∀ c,q N c=some (p c))(x y:q00)(hx:I64 x.2.1)(hy:I64 y.2.1):((qb2 N 1 2 [x,y]).bind fun (r:Bool) =>
 bif (!r) then
  (qb2 N 3 3 [x,y]).bind fun (r1:Bool) =>
  bif (!r1) then
   (qd8 N 8).bind fun (r2:q03) =>
   some r2
  else
   (q82 N [x,y]).bind fun (r3:Bool) =>
   bif r3 then
    some ((0,0,[],()),0,())
   else
    bif inR 0 [x,y].length then
    bif inR 1 [x,y].length then
    (q93 N (q17 [x,y] 0 q26) (q17 [x,y] 1 q26)).bind fun (r4:Int×Bool×Unit) =>
    (q N r4.1).bind fun (r5:Bool) =>
    (q97 N r5).bind fun (r6:q00) =>
    some (r6,0,())
    else none
    else none
 else
  (q82 N [x,y]).bind fun (r7:Bool) =>
  bif r7 then
   some ((0,0,[],()),0,())
  else
   bif inR 0 [x,y].length then
   bif inR 1 [x,y].length then
   (q93 N (q17 [x,y] 0 q26) (q17 [x,y] 1 q26)).bind fun (r8:Int×Bool×Unit) =>
   (q N r8.1).bind fun (r9:Bool) =>
   (q97 N r9).bind fun (r10:q00) =>
   some (r10,0,())
   else none
   else none)=some (u74 p x y):=by
 have e0:inR 0 [x,y].length=true:=rfl
 have e1:inR 1 [x,y].length=true:=rfl
 have n0:q17 [x,y] 0 q26=x:=rfl
 have n1:q17 [x,y] 1 q26=y:=rfl
 have hf:∀ a b,qb2 N a b [x,y]=some (z69 a b [x,y]):=fun a b=>kx8 N a b _ (by simp) (by simp;omega)
 simp only[hf,Option.bind_some,xi8 hN,e0,e1,cond_true,n0,n1,js4 N (by omega) x y hx hy,hq,qh9,fail_is]
 unfold u74
 cases z69 1 2 [x,y]<;>cases z69 3 3 [x,y]<;>cases jy5 [x,y]<;>rfl
theorem order_lt (x y:q00)(hx:I64 x.2.1)(hy:I64 y.2.1):qu5 N [x,y]=some (u74 (fun c=>decide (c<0)) x y):=jl9 hN _ wn2 (fun _=>rfl) x y hx hy
theorem order_le (x y:q00)(hx:I64 x.2.1)(hy:I64 y.2.1):qj2 N [x,y]=some (u74 (fun c=>decide (c≤0)) x y):=jl9 hN _ wn3 (fun _=>rfl) x y hx hy
theorem order_gt (x y:q00)(hx:I64 x.2.1)(hy:I64 y.2.1):qj3 N [x,y]=some (u74 (fun c=>decide (c>0)) x y):=jl9 hN _ wn4 (fun _=>rfl) x y hx hy
theorem order_ge (x y:q00)(hx:I64 x.2.1)(hy:I64 y.2.1):qj4 N [x,y]=some (u74 (fun c=>decide (c≥0)) x y):=jl9 hN _ wn5 (fun _=>rfl) x y hx hy
end
def z93 (r:q00×Int×Unit):q03:=if r.2.1≠0 then w2m r.2.1 else za0 r.1
theorem j37 (N:Nat)(v:q00)(e:Int):qc7 N v e=some (z93 (v,e,())):=by
 unfold qc7 z93
 by_cases h:e=0
 ·simp[h,za0]
 ·have h':(e != 0)=true:=by simpa using h
  simp only[h',cond_true]
  rw[if_pos h];rfl
def wl2 (k:Int)(l:List q00)(G:q03):q03:=if z69 k k l=false then w2m 8 else if jy5 l=true then za0 (0,0,[],()) else G
def headF (s p:List UInt8):Bool:=if s.length≥p.length then s.take p.length==p else false
def q8q (a b:Int):Int×Int×Unit:=if b=0 then (0,10,()) else xd3 (a.tmod b)
def negV (v:q00):q00×Int×Unit:=doS gSub gSub (jl7 (iMin v.1 2) 1,0,[],()) v
def absF (v:q00):q03:=if z69 1 2 [v]=false then w2m 8 else if v.2.1<0 then z93 (negV v) else za0 v
theorem zm9 (v:Int):I64 (xd3 v).1:=by
 unfold xd3
 split
 ·rename_i h;exact h
 ·exact⟨by simp,by simp⟩
section
variable {N:Nat} (hN:100≤N)
include hN
theorem q5s (x:q00):q82 N [x]=some (jy5 [x]):=kd9 N _ (by simp) (by simp;omega)
theorem fits1' (a b:Int)(x:q00):qb2 N a b [x]=some (z69 a b [x]):=kx8 N a b _ (by simp) (by simp;omega)
theorem fits2' (a b:Int)(x y:q00):qb2 N a b [x,y]=some (z69 a b [x,y]):=kx8 N a b _ (by simp) (by simp;omega)
theorem has_is (x y:q00)(hx:x.2.2.1.length≤4294967280):qn2 N [x,y] 3=some (wl2 3 [x,y] (za0 (we6 (Lib.contains x.2.2.1 y.2.2.1)))):=by
 unfold qn2 wl2
 rw[fits2' hN,Option.bind_some]
 cases z69 3 3 [x,y]
 ·rfl
 ·simp only[xi8 hN,Option.bind_some]
  cases jy5 [x,y]
  ·unfold zm6 wf8
   have e0:inR 0 [x,y].length=true:=rfl
   have e1:inR 1 [x,y].length=true:=rfl
   have n0:q17 [x,y] 0 q26=x:=rfl
   have n1:q17 [x,y] 1 q26=y:=rfl
   have hb:Nat.blt x.2.2.1.length 4294967281=true:=by rw[Nat.blt_eq];omega
   simp only[e0,e1,n0,n1,hb,cond_true,Option.bind_some,qh9]
   rfl
  ·rfl
theorem starts_is (x y:q00):qf9 N [x,y] 3=some (wl2 3 [x,y] (za0 (we6 (headF x.2.2.1 y.2.2.1)))):=by
 unfold qf9 wl2
 rw[fits2' hN,Option.bind_some]
 cases z69 3 3 [x,y]
 ·rfl
 ·simp only[xi8 hN,Option.bind_some]
  cases jy5 [x,y]
  ·unfold zm7 w87 qq1 headF
   have e0:inR 0 [x,y].length=true:=rfl
   have e1:inR 1 [x,y].length=true:=rfl
   have n0:q17 [x,y] 0 q26=x:=rfl
   have n1:q17 [x,y] 1 q26=y:=rfl
   simp only[e0,e1,n0,n1,cond_true]
   by_cases h:x.2.2.1.length≥y.2.2.1.length
   ·have h':(x.2.2.1.length:Int)≥(y.2.2.1.length:Int):=by omega
    rw[decide_eq_true h',cond_true,w2d (by omega) (by omega),cond_true,if_pos h]
    simp only[Option.bind_some,qh9,Int.toNat_natCast]
    rfl
   ·have h':¬ (x.2.2.1.length:Int)≥(y.2.2.1.length:Int):=by omega
    rw[decide_eq_false h',cond_false,if_neg h]
    simp only[Option.bind_some,qh9]
    rfl
  ·rfl
omit hN in
theorem ky6 (N:Nat){a b:Int}(ha:I64 a)(hb:I64 b):vq3 N a b=some (q8q a b):=by
 unfold vq3 q8q
 by_cases h:b=0
 ·simp[h]
 ·have h':(b==0)=false:=by simpa using h
  rw[h',cond_false,qx9 N ha,Option.bind_some,qx9 N hb,Option.bind_some,decide_eq_true (show (b.natAbs:Int)≠0 by omega),cond_true,if_neg h]
  have e:Int.tmod (a.natAbs:Int) (b.natAbs:Int)=((a.natAbs % b.natAbs:Nat):Int):=by rw[Int.tmod_eq_emod_of_nonneg (by omega)];rfl
  have h1:a.natAbs % b.natAbs≤a.natAbs:=Nat.mod_le _ _
  rw[e,wn9 N (by omega) (by omega) (by have:=ha.1;have:=ha.2;omega)]
  rw[Int.zero_mul,Int.zero_add,q7b]
  rfl
theorem mod_is (x y:q00)(hx:I64 x.2.1)(hy:I64 y.2.1):qg0 N [x,y] 1=some (wl2 1 [x,y] (z93 ((1,(q8q x.2.1 y.2.1).1,[],()),(q8q x.2.1 y.2.1).2.1,()))):=by
 unfold qg0 wl2
 rw[fits2' hN,Option.bind_some]
 cases z69 1 1 [x,y]
 ·rfl
 ·simp only[xi8 hN,Option.bind_some]
  cases jy5 [x,y]
  ·unfold vg7
   have e0:inR 0 [x,y].length=true:=rfl
   have e1:inR 1 [x,y].length=true:=rfl
   have n0:q17 [x,y] 0 q26=x:=rfl
   have n1:q17 [x,y] 1 q26=y:=rfl
   simp only[e0,e1,n0,n1,cond_true,ky6 N hx hy,Option.bind_some,zt1,j37,cond_false]
   rfl
  ·rfl
theorem len_is (x:q00):qg1 N [x] 3=some (wl2 3 [x] (za0 (1,(x.2.2.1.length:Int),[],()))):=by
 unfold qg1 wl2
 rw[fits1' hN,Option.bind_some]
 cases z69 3 3 [x]
 ·rfl
 ·simp only[q5s hN,Option.bind_some]
  cases jy5 [x]<;>rfl
theorem up_is (x:q00)(hx:x.2.2.1.length≤4294967280):qg2 N [x] 3=some (wl2 3 [x] (za0 (3,0,x.2.2.1.map Abs.Upper.upB,()))):=by
 unfold qg2 wl2
 rw[fits1' hN,Option.bind_some]
 cases z69 3 3 [x]
 ·rfl
 ·simp only[q5s hN,Option.bind_some]
  cases jy5 [x]
  ·have hb:Nat.ble x.2.2.1.length 9223372036854775807=true:=by rw[Nat.ble_eq];omega
   unfold yh4
   simp only[hb,cond_true,cond_false]
   rfl
  ·rfl
theorem neg_is (x:q00)(hx:I64 x.2.1):je8 N x=some (negV x):=by
 unfold je8
 rw[va1 N (by omega) _ x ⟨by simp,by simp⟩ hx]
 rfl
theorem abs_is (x:q00)(hx:I64 x.2.1):yh3 N [x]=some (absF x):=by
 unfold yh3 absF
 rw[fits1' hN,Option.bind_some]
 have e0:inR 0 [x].length=true:=rfl
 have n0:q17 [x] 0 q26=x:=rfl
 cases z69 1 2 [x]
 ·rfl
 ·simp only[e0,n0,cond_true,Bool.not_true,cond_false,neg_is hN x hx,Option.bind_some,j37]
  by_cases h:x.2.1<0<;>simp[h,za0,z93]
end
def xd5 (l:List q00):Int:=l.foldl (fun k v=>jl7 k v.1) 1
structure ku7 (l:List q00) (r:(List q00)×Bool×Int×Unit):Prop where
 null:r.2.1=true→r.2.2.1=0∧∃ v∈l,v.1=0
 err:r.2.2.1≠0→r.2.2.1=9∨(r.2.2.1=8∧∃ v∈l,¬ (v.1=0∨v.1=1∨v.1=2))
 ok:r.2.1=false→r.2.2.1=0→r.1.length=l.length∧(∀ v∈l,v.1=1∨v.1=2)∧∀ v∈r.1,v.1=xd5 l∧I64 v.2.1∧v.2.2.1=[]
theorem we5 {α:Type}(l:List α)(k:Nat)(h:k<l.length):l.take (k+1)=l.take k++[l[k]]:=by rw[List.take_add_one];simp[h]
theorem q8n (l:List q00)(v:q00):xd5 (l++[v])=jl7 (xd5 l) v.1:=by unfold xd5;rw[List.foldl_append];rfl
theorem isNumber_is (N:Nat)(v:q00):q73 N v=some (decide (v.1=1∨v.1=2)):=q71 N v
section
variable {N:Nat} (hN:100≤N) {l:List q00} (hl:l.length≤1000000) (hlN:l.length<N) (hi:∀ v∈l,I64 v.2.1)
include hN hl hlN hi
theorem kv9 :Tells (q98 N l) (ku7 l):=by
 unfold q98 qq4
 refine Tells.iter (fun (e:Bool×Int×Int)=>∃ k:Nat,e.2.2=k∧k≤l.length∧e.2.1=xd5 (l.take k)∧(∀ v∈l.take k,v.1=0∨v.1=1∨v.1=2)∧(e.1=true↔∃ v∈l.take k,v.1=0)) (fun (e:Bool×Int×Int)=>l.length-e.2.2.toNat) ?_ N _ ⟨0,rfl,by omega,rfl,by simp,by simp⟩ (by simpa using hlN)
 rintro K ⟨nul,kind,i⟩ ⟨k,e1,k1,k2,k3,k4⟩ hK
 dsimp only at e1 k1 k2 k3 k4 hK
 subst e1
 unfold qa1 q99
 dsimp only
 refine Tells.dec (fun c=>?_) (fun c=>?_)
 ·have hk:k<l.length:=by omega
  have ht:=we5 l k hk
  rw[qc8 hk]
  have next:(l[k].1=0∨l[k].1=1∨l[k].1=2)→Tells (bif nul then bif q24 ((k:Int)+1) then K (true,jl7 kind l[k].1,(k:Int)+1) else none
    else bif q24 ((k:Int)+1) then K (l[k].1==0,jl7 kind l[k].1,(k:Int)+1) else none) (ku7 l):=fun h=>by
   have all':∀ v∈l.take (k+1),v.1=0∨v.1=1∨v.1=2:=fun v hv=>by
    rw[ht] at hv
    rcases List.mem_append.1 hv with h1|h1
    ·exact k3 v h1
    ·simp at h1;subst h1;exact h
   have kk:jl7 kind l[k].1=xd5 (l.take (k+1)):=by rw[ht,q8n,k2]
   refine Tells.ite (fun c2=>Tells.ok (inI (by omega) (by omega)) (hK _ ⟨k+1,by dsimp only;omega,by omega,kk,all',?_⟩ (by dsimp only;omega))) (fun c2=>Tells.ok (inI (by omega) (by omega)) (hK _ ⟨k+1,by dsimp only;omega,by omega,kk,all',?_⟩ (by dsimp only;omega)))
   ·refine⟨fun _=>?_,fun _=>rfl⟩
    obtain⟨v,h1,h2⟩:=k4.1 c2
    exact⟨v,by rw[ht];exact List.mem_append_left _ h1,h2⟩
   ·dsimp only
    rw[ht]
    refine⟨fun h1=>⟨l[k],List.mem_append_right _ (List.mem_singleton.2 rfl),by simpa using h1⟩,?_⟩
    rintro⟨v,h1,h2⟩
    rcases List.mem_append.1 h1 with h1|h1
    ·have:=k4.2 ⟨v,h1,h2⟩
     rw[c2] at this;cases this
    ·simp at h1;subst h1;simpa using h2
  refine Tells.ok (qi0 (by omega) (by omega)) ?_
  rw[q71,Option.bind_some]
  refine Tells.ite (fun c2=>?_) (fun c2=>next ?_)
  ·have c2:¬ (l[k].1=1∨l[k].1=2):=by simpa using c2
   refine Tells.ite (fun c3=>Tells.some ⟨fun h=>(by cases h),fun _=>.inr ⟨rfl,l[k],List.getElem_mem hk,?_⟩,fun _ h=>(by cases h)⟩) (fun c3=>next ?_)
   ·have c3:l[k].1≠0:=by simpa using c3
    omega
   ·have c3:l[k].1=0:=by simpa using c3
    exact .inl c3
  ·have c2:l[k].1=1∨l[k].1=2:=of_decide_eq_true (by simpa only[Bool.not_eq_false'] using c2)
   omega
 ·have hk:k=l.length:=by omega
  subst hk
  rw[List.take_length] at k2 k3 k4
  refine Tells.ite (fun c2=>Tells.some ⟨fun _=>⟨rfl,k4.1 c2⟩,fun h=>absurd rfl h,fun h=>(by cases h)⟩) (fun c2=>?_)
  have nums:∀ v∈l,v.1=1∨v.1=2:=fun v hv=>by
   rcases k3 v hv with h|h|h
   ·have:=k4.2 ⟨v,hv,h⟩
    rw[c2] at this;cases this
   ·exact .inl h
   ·exact .inr h
  refine Tells.iter (fun (e:List q00×Int)=>∃ k:Nat,e.2=k∧k≤l.length∧e.1.length=k∧∀ v∈e.1,v.1=xd5 l∧I64 v.2.1∧v.2.2.1=[]) (fun (e:List q00×Int)=>l.length-e.2.toNat) ?_ N _ ⟨0,rfl,by omega,rfl,by simp⟩ (by simpa using hlN)
  rintro K2 ⟨out,i⟩ ⟨k,e1,g1,g2,g3⟩ hK2
  dsimp only at e1 g1 g2 g3 hK2
  subst e1
  unfold qr4
  dsimp only
  refine Tells.dec (fun c=>?_) (fun c=>Tells.some ⟨fun h=>(by cases h),fun h=>absurd rfl h,fun _ _=>⟨by dsimp only;omega,nums,g3⟩⟩)
  have hk:k<l.length:=by omega
  rw[qc8 hk]
  have next:∀ n:Int,I64 n→Tells (bif qr1 (out.length+([(kind,n,[],())]:List q00).length) 4398046511104 then bif q24 ((k:Int)+1) then K2 ((out++([(kind,n,[],())]:List q00)),(k:Int)+1) else none else none) (ku7 l):=fun n hn=>by
   refine Tells.ok (jy4 (by simp;omega)) (Tells.ok (inI (by omega) (by omega)) (hK2 _ ⟨k+1,by dsimp only;omega,by omega,by simp;omega,fun v hv=>?_⟩ (by dsimp only;omega)))
   rcases List.mem_append.1 hv with h1|h1
   ·exact g3 v h1
   ·simp at h1;subst h1;exact⟨k2,hn,rfl⟩
  refine Tells.ok (qi0 (by omega) (by omega)) (Tells.ite (fun c3=>?_) (fun c3=>next _ (hi _ (List.getElem_mem hk))))
  obtain⟨x,e,h1,h2,h3⟩:=dec_is N l[k] (hi _ (List.getElem_mem hk)) (nums _ (List.getElem_mem hk))
  rw[h1,Option.bind_some]
  refine Tells.ite (fun c4=>Tells.some ⟨fun h=>(by cases h),fun h=>.inl ?_,fun _ h=>absurd h (by simpa using c4)⟩) (fun c4=>?_)
  ·by_cases hw:I64 (qj9 l[k])
   ·exact absurd (h2 hw).1 h
   ·exact h3 hw
  ·have c4:e=0:=by simpa using c4
   by_cases hw:I64 (qj9 l[k])
   ·dsimp only
    rw[(h2 hw).2]
    exact next _ hw
   ·have:=h3 hw;omega
structure ku8 (l:List q00) (r:q00×Int×Unit):Prop where
 err:r.2.1≠0→r.1=(0,0,[],())∧(r.2.1=9∨(r.2.1=8∧∃ v∈l,¬ (v.1=0∨v.1=1∨v.1=2)))
 ok:r.2.1=0→(r.1=(0,0,[],())∧(l=[]∨∃ v∈l,v.1=0))∨((∀ v∈l,v.1=1∨v.1=2)∧r.1.1=xd5 l∧I64 r.1.2.1∧r.1.2.2.1=[])
theorem kx6 (c:Int):Tells (qh4 N c l) (ku8 l):=by
 unfold qh4 jq1
 refine Tells.bind (kv9 hN hl hlN hi) fun r hr=>?_
 obtain⟨xs,nul,e,_⟩:=r
 obtain⟨h1,h2,h3⟩:=hr
 dsimp only at h1 h2 h3 ⊢
 refine Tells.ite (fun c1=>Tells.some ?_) (fun c1=>Tells.ite (fun c2=>Tells.some ?_) (fun c2=>?_))
 ·obtain⟨g1,g2⟩:=h1 c1
  exact⟨fun h=>absurd g1 h,fun _=>.inl ⟨rfl,.inr g2⟩⟩
 ·have c2:e≠0:=by simpa using c2
  exact⟨fun _=>⟨rfl,h2 c2⟩,fun h=>absurd h c2⟩
 ·have c2:e=0:=by simpa using c2
  obtain⟨g1,g2,g3⟩:=h3 c1 c2
  refine Tells.ite (fun c3=>Tells.some ⟨fun h=>absurd c2 h,fun _=>.inl ⟨rfl,.inl ?_⟩⟩) (fun c3=>?_)
  ·have c3:xs.length=0:=by simpa using c3
   exact List.eq_nil_of_length_eq_zero (by omega)
  ·have c3:xs.length≠0:=by simpa using c3
   refine Tells.ok (qi0 (by omega) (by omega)) ?_
   have fin:∀ v:q00,v.1=xd5 l∧I64 v.2.1∧v.2.2.1=[]→ku8 l (v,0,()):=fun v hv=>⟨fun h=>absurd rfl h,fun _=>.inr ⟨g2,hv⟩⟩
   refine Tells.iter (fun (e:Int×Int×Int×List UInt8)=>0≤e.1∧e.1≤xs.length∧e.2.1=xd5 l∧I64 e.2.2.1∧e.2.2.2=[]) (fun (e:Int×Int×Int×List UInt8)=>xs.length-e.1.toNat) ?_ N _ ?_ (by dsimp only;omega)
   ·rintro K ⟨i,k,n,s⟩ ⟨k1,k2,k3,k4,k5⟩ hK
    dsimp only at k1 k2 k3 k4 k5 hK
    unfold j41
    dsimp only
    refine Tells.dec (fun c=>?_) (fun c=>Tells.some (fin _ ⟨k3,k4,k5⟩))
    have hx:=g3 _ (wz9 (d:=q26) k1 c)
    rw[zc8,Option.bind_some]
    refine Tells.ok (qi0 (by omega) (by omega)) (Tells.ite (fun _=>Tells.ok (inI (by omega) (by omega)) (hK _ ⟨by dsimp only;omega,by dsimp only;omega,hx⟩ (by dsimp only;omega))) (fun _=>Tells.ok (inI (by omega) (by omega)) (hK _ ⟨by dsimp only;omega,by dsimp only;omega,k3,k4,k5⟩ (by dsimp only;omega))))
   ·exact⟨by simp,by simp,g3 _ (wz9 (d:=q26) (by omega) (by omega))⟩
end
end Go.Proofs.YtgicljncknbgcaaGreat.Abs
