/- Expressions' answers: those that ask expressions from the left. -/
import Derived.Test.YtgicljncknbgcaaGreatN1
import Derived.Test.YtgicljncknbgcaaGreatL7
import Derived.Test.YtgicljncknbgcaaGreatV1
import Derived.Test.YtgicljncknbgcaaGreatN2
import Derived.Test.YtgicljncknbgcaaGreatR1
import Derived.Test.YtgicljncknbgcaaGreatR2
set_option linter.unusedVariables false
set_option linter.unusedSimpArgs false
set_option linter.unusedSectionVars false
namespace Go.Proofs.YtgicljncknbgcaaGreat.Abs
open Go
def a0 :q03:=((0,0,[],()),0,())
def wo0 (k:q34)(i:Nat):q03:=k.1.getD i a0
def z49 (k:q34)(n:Nat):List q03:=(List.range' 0 n).map (wo0 k)
theorem ki6 (N:Nat)(k:q34)(i:Nat):q58 N k (i:Int)=some (wo0 k i):=by
 unfold q58 wo0
 by_cases h:(i:Int) ≥ (k.1.length:Int)
 ·have:k.1.length≤i:=by omega
  simp only [h,decide_true,cond_true]
  rw [List.getD_eq_getElem?_getD,List.getElem?_eq_none this]
  rfl
 ·have h2:i < k.1.length:=by omega
  have h3:inR (i:Int) k.1.length=true:=qv5 (by omega) (by omega)
  simp only [h,decide_false,cond_false,h3,cond_true]
  rw [ql8 h2,List.getD_eq_getElem?_getD,List.getElem?_eq_getElem h2]
  rfl
def w99 (F:List q00→Option q03):List q03→List q00→Option q03
 | [],acc=>F acc
 | a :: l,acc=>if a.2.1≠0 then some a else w99 F l (acc ++ [a.1])
theorem ql4 {N:Nat}(body:((List q00×Int)→Option q03)→(List q00×Int)→Option q03)(k:q34)(n:Nat)(F:List q00→Option q03)(hN:n < N)(hn:n≤1000000)
  (hb:∀ K l t,body K (l,t)=bif decide (t < (n:Int)) then
   (q58 N (k.1,k.2.1,()) t).bind fun (r:q03) =>
   bif (r.2.1 != 0) then
    some r
   else
    bif w23 (l.length + ([r.1]:List q00).length) 4398046511104 then
    bif q26 (t + 1) then
    K ((l ++ ([r.1]:List q00)),t + 1)
    else none
    else none
  else F l):q86 body N ([],0)=w99 F (z49 k n) []:=by
 have main:∀ (m i:Nat) (acc:List q00) (M:Nat),i + m=n→acc.length=i→m < M→q86 body M (acc,(i:Int))=w99 F ((List.range' i m).map (wo0 k)) acc:=by
  intro m
  induction m with
  | zero =>
   intro i acc M h1 h2 h3
   cases M with
   | zero=>omega
   | succ M =>
    simp only [q86,hb]
    have:¬ (i:Int) < (n:Int):=by omega
    simp [this,w99]
  | succ m ih =>
   intro i acc M h1 h2 h3
   cases M with
   | zero=>omega
   | succ M =>
    simp only [q86,hb]
    have c:(i:Int) < (n:Int):=by omega
    have e:q58 N (k.1,k.2.1,()) (i:Int)=some (wo0 k i):=ki6 N k i
    rw [decide_eq_true c,cond_true,e,Option.bind_some,List.range'_succ,List.map_cons,w99]
    by_cases h:(wo0 k i).2.1=0
    ·have h':((wo0 k i).2.1 != 0)=false:=by simpa using h
     rw [h',cond_false,yt2 (by simp; omega),cond_true,inI (by omega) (by omega),cond_true,if_neg (by simp [h])]
     exact ih (i + 1) (acc ++ [(wo0 k i).1]) M (by omega) (by simp; omega) (by omega)
    ·have h':((wo0 k i).2.1 != 0)=true:=by simpa using h
     rw [h',cond_true,if_pos h]
 exact main n 0 [] N (by omega) rfl hN
def z42 (N:Nat)(ya5:List q03)(q90:List Bool)(t2:Bool)(l:List q00):Option q03 :=
 (qg0 N l ya5 q90 t2).bind fun (r1:q03) =>
 some r1
theorem xi9 (N:Nat)(k:q34)(n:Nat)(ya5:List q03)(q90:List Bool)(t2:Bool)(hN:n < N)(hn:n≤1000000):wa3 N k (n:Int) ya5 q90 t2=w99 (z42 N ya5 q90 t2) (z49 k n) [] :=
 ql4 (wr1 N (n:Int) k.1 k.2.1 0 0 [] 0 ya5 q90 t2) k n (z42 N ya5 q90 t2) hN hn fun K l t=>rfl
def wc9 (N:Nat)(l:List q00):Option q03 :=
 (qr0 N l).bind fun (r1:q03) =>
 some r1
theorem y99 (N:Nat)(k:q34)(n:Nat)(hN:n < N)(hn:n≤1000000):qr6 N k (n:Int)=w99 (wc9 N) (z49 k n) [] :=
 ql4 (w58 N (n:Int) k.1 k.2.1 0 0 [] 0) k n (wc9 N) hN hn fun K l t=>rfl
def we8 (N:Nat)(l:List q00):Option q03 :=
 (qi0 N l).bind fun (r1:q03) =>
 some r1
theorem y86 (N:Nat)(k:q34)(n:Nat)(hN:n < N)(hn:n≤1000000):qr5 N k (n:Int)=w99 (we8 N) (z49 k n) [] :=
 ql4 (w53 N (n:Int) k.1 k.2.1 0 0 [] 0) k n (we8 N) hN hn fun K l t=>rfl
def wd8 (N:Nat)(l:List q00):Option q03 :=
 (qh9 N l).bind fun (r1:q03) =>
 some r1
theorem ya1 (N:Nat)(k:q34)(n:Nat)(hN:n < N)(hn:n≤1000000):qr8 N k (n:Int)=w99 (wd8 N) (z49 k n) [] :=
 ql4 (w68 N (n:Int) k.1 k.2.1 0 0 [] 0) k n (wd8 N) hN hn fun K l t=>rfl
def wc6 (N:Nat)(l:List q00):Option q03 :=
 (qi4 N l).bind fun (r1:q03) =>
 some r1
theorem y90 (N:Nat)(k:q34)(n:Nat)(hN:n < N)(hn:n≤1000000):qs8 N k (n:Int)=w99 (wc6 N) (z49 k n) [] :=
 ql4 (w81 N (n:Int) k.1 k.2.1 0 0 [] 0) k n (wc6 N) hN hn fun K l t=>rfl
def we4 (N:Nat)(t1:Int)(l:List q00):Option q03 :=
 (qm1 N l t1).bind fun (r1:q03) =>
 some r1
theorem y92 (N:Nat)(k:q34)(n:Nat)(t1:Int)(hN:n < N)(hn:n≤1000000):qt3 N k (n:Int) t1=w99 (we4 N t1) (z49 k n) [] :=
 ql4 (w67 N (n:Int) k.1 k.2.1 0 0 [] 0 t1) k n (we4 N t1) hN hn fun K l t=>rfl
def we6 (N:Nat)(t1:Int)(l:List q00):Option q03 :=
 (qg3 N l t1).bind fun (r1:q03) =>
 some r1
theorem yd5 (N:Nat)(k:q34)(n:Nat)(t1:Int)(hN:n < N)(hn:n≤1000000):qr9 N k (n:Int) t1=w99 (we6 N t1) (z49 k n) [] :=
 ql4 (w73 N (n:Int) k.1 k.2.1 0 0 [] 0 t1) k n (we6 N t1) hN hn fun K l t=>rfl
def we0 (N:Nat)(l:List q00):Option q03 :=
 bif inR 0 l.length then
 bif inR 1 l.length then
 (zx1 N (q24 l 0 q29) (q24 l 1 q29)).bind fun (r1:q00×Int×Unit) =>
 (qc7 N r1.1 r1.2.1).bind fun (r2:q03) =>
 some r2
 else none
 else none
theorem yd1 (N:Nat)(k:q34)(n:Nat)(hN:n < N)(hn:n≤1000000):qt1 N k (n:Int)=w99 (we0 N) (z49 k n) [] :=
 ql4 (w83 N (n:Int) k.1 k.2.1 0 0 [] 0) k n (we0 N) hN hn fun K l t=>rfl
def wd1 (N:Nat)(l:List q00):Option q03 :=
 bif inR 0 l.length then
 bif inR 1 l.length then
 (zj5 N (q24 l 0 q29) (q24 l 1 q29)).bind fun (r1:q00×Int×Unit) =>
 (qc7 N r1.1 r1.2.1).bind fun (r2:q03) =>
 some r2
 else none
 else none
theorem yd6 (N:Nat)(k:q34)(n:Nat)(hN:n < N)(hn:n≤1000000):qq8 N k (n:Int)=w99 (wd1 N) (z49 k n) [] :=
 ql4 (w79 N (n:Int) k.1 k.2.1 0 0 [] 0) k n (wd1 N) hN hn fun K l t=>rfl
def we5 (N:Nat)(l:List q00):Option q03 :=
 bif inR 0 l.length then
 bif inR 1 l.length then
 (j16 N (q24 l 0 q29) (q24 l 1 q29)).bind fun (r1:q00×Int×Unit) =>
 (qc7 N r1.1 r1.2.1).bind fun (r2:q03) =>
 some r2
 else none
 else none
theorem ya3 (N:Nat)(k:q34)(n:Nat)(hN:n < N)(hn:n≤1000000):qs6 N k (n:Int)=w99 (we5 N) (z49 k n) [] :=
 ql4 (w91 N (n:Int) k.1 k.2.1 0 0 [] 0) k n (we5 N) hN hn fun K l t=>rfl
def w62 (N:Nat)(l:List q00):Option q03 :=
 bif inR 0 l.length then
 bif inR 1 l.length then
 (j52 N (q24 l 0 q29) (q24 l 1 q29)).bind fun (r1:q00×Int×Unit) =>
 (qc7 N r1.1 r1.2.1).bind fun (r2:q03) =>
 some r2
 else none
 else none
theorem jo7 (N:Nat)(k:q34)(n:Nat)(hN:n < N)(hn:n≤1000000):qo7 N k (n:Int)=w99 (w62 N) (z49 k n) [] :=
 ql4 (w15 N (n:Int) k.1 k.2.1 0 0 [] 0) k n (w62 N) hN hn fun K l t=>rfl
def w52 (N:Nat)(l:List q00):Option q03 :=
 (wl1 N l).bind fun (r1:q03) =>
 some r1
theorem jt2 (N:Nat)(k:q34)(n:Nat)(hN:n < N)(hn:n≤1000000):qn0 N k (n:Int)=w99 (w52 N) (z49 k n) [] :=
 ql4 (w16 N (n:Int) k.1 k.2.1 0 0 [] 0) k n (w52 N) hN hn fun K l t=>rfl
def qq3 (N:Nat)(l:List q00):Option q03 :=
 (wl4 N l).bind fun (r1:q03) =>
 some r1
theorem js7 (N:Nat)(k:q34)(n:Nat)(hN:n < N)(hn:n≤1000000):qh5 N k (n:Int)=w99 (qq3 N) (z49 k n) [] :=
 ql4 (w14 N (n:Int) k.1 k.2.1 0 0 [] 0) k n (qq3 N) hN hn fun K l t=>rfl
def qp8 (N:Nat)(l:List q00):Option q03 :=
 (wh4 N l).bind fun (r1:q03) =>
 some r1
theorem jx2 (N:Nat)(k:q34)(n:Nat)(hN:n < N)(hn:n≤1000000):qh2 N k (n:Int)=w99 (qp8 N) (z49 k n) [] :=
 ql4 (w05 N (n:Int) k.1 k.2.1 0 0 [] 0) k n (qp8 N) hN hn fun K l t=>rfl
def w70 (N:Nat)(l:List q00):Option q03 :=
 (y60 N l).bind fun (r1:q03) =>
 some r1
theorem y38 (N:Nat)(k:q34)(n:Nat)(hN:n < N)(hn:n≤1000000):qo4 N k (n:Int)=w99 (w70 N) (z49 k n) [] :=
 ql4 (w00 N (n:Int) k.1 k.2.1 0 0 [] 0) k n (w70 N) hN hn fun K l t=>rfl
def w60 (N:Nat)(t1:Int)(l:List q00):Option q03 :=
 (qf2 N l t1).bind fun (r1:q03) =>
 some r1
theorem y32 (N:Nat)(k:q34)(n:Nat)(t1:Int)(hN:n < N)(hn:n≤1000000):qn9 N k (n:Int) t1=w99 (w60 N t1) (z49 k n) [] :=
 ql4 (w11 N (n:Int) k.1 k.2.1 0 0 [] 0 t1) k n (w60 N t1) hN hn fun K l t=>rfl
def w96 (N:Nat)(t1:Int)(l:List q00):Option q03 :=
 (qf9 N l t1).bind fun (r1:q03) =>
 some r1
theorem ju3 (N:Nat)(k:q34)(n:Nat)(t1:Int)(hN:n < N)(hn:n≤1000000):qo0 N k (n:Int) t1=w99 (w96 N t1) (z49 k n) [] :=
 ql4 (qz7 N (n:Int) k.1 k.2.1 0 0 [] 0 t1) k n (w96 N t1) hN hn fun K l t=>rfl
def w66 (N:Nat)(t1:Int)(l:List q00):Option q03 :=
 (qg1 N l t1).bind fun (r1:q03) =>
 some r1
theorem jy5 (N:Nat)(k:q34)(n:Nat)(t1:Int)(hN:n < N)(hn:n≤1000000):qo9 N k (n:Int) t1=w99 (w66 N t1) (z49 k n) [] :=
 ql4 (w04 N (n:Int) k.1 k.2.1 0 0 [] 0 t1) k n (w66 N t1) hN hn fun K l t=>rfl
def zp9 (v:q00):q03:=(v,0,())
def ky7 (e:Int):q03:=((0,0,[],()),e,())
def ym5 (l:List q00):Bool:=l.any fun v=>v.1 == 0
def zo4 (least most:Int)(l:List q00):Bool:=l.all fun v=>v.1 == 0 || (decide (least≤v.1) && decide (v.1≤most))
theorem fail_is (N:Nat)(e:Int):qd7 N e=some (ky7 e):=rfl
theorem uj5 (N:Nat)(l:List q00)(hl:l.length≤1000000)(hN:l.length < N):q83 N l=some (ym5 l):=by
 refine Tells.get ?_
 unfold q83 jg1
 refine Tells.iter (fun (i:Int)=>∃ k:Nat,i=k∧k≤l.length∧(l.take k).any (fun v=>v.1 == 0)=false) (fun (i:Int)=>l.length - i.toNat) ?_ N 0 ⟨0,rfl,by omega,by simp⟩ (by simpa using hN)
 rintro K i ⟨k,rfl,h1,h2⟩ hK
 unfold zt0
 dsimp only
 refine Tells.dec (fun c=>?_) (fun c=>?_)
 ·have hk:k < l.length:=by omega
  have ht:l.take (k + 1)=l.take k ++ [l[k]]:=by rw [List.take_add_one]; simp [hk]
  rw [ql8 hk]
  refine Tells.ok (qv5 (by omega) (by omega)) (Tells.ite (fun c2=>Tells.some ?_) (fun c2=>?_))
  ·unfold ym5
   exact (List.any_eq_true.2 ⟨_,List.getElem_mem hk,c2⟩).symm
  ·refine Tells.ok (inI (by omega) (by omega)) (hK _ ⟨k + 1,by omega,by omega,?_⟩ (by omega))
   rw [ht,List.any_append,h2]
   simpa using c2
 ·have:k=l.length:=by omega
  subst this
  rw [List.take_length] at h2
  exact Tells.some h2.symm
theorem ka4 (N:Nat)(least most:Int)(l:List q00)(hl:l.length≤1000000)(hN:l.length < N):qa8 N least most l=some (zo4 least most l):=by
 refine Tells.get ?_
 unfold qa8 yp4
 refine Tells.iter (fun (i:Int)=>∃ k:Nat,i=k∧k≤l.length∧zo4 least most (l.take k)=true) (fun (i:Int)=>l.length - i.toNat) ?_ N 0 ⟨0,rfl,by omega,by simp [zo4]⟩ (by simpa using hN)
 rintro K i ⟨k,rfl,h1,h2⟩ hK
 unfold js8
 dsimp only
 refine Tells.dec (fun c=>?_) (fun c=>?_)
 ·have hk:k < l.length:=by omega
  have ht:l.take (k + 1)=l.take k ++ [l[k]]:=by rw [List.take_add_one]; simp [hk]
  rw [ql8 hk]
  have next:(l[k].1 == 0 || (decide (least≤l[k].1) && decide (l[k].1≤most)))=true→Tells (bif q26 ((k:Int) + 1) then K ((k:Int) + 1) else none) fun x=>x=zo4 least most l:=fun h=>by
   refine Tells.ok (inI (by omega) (by omega)) (hK _ ⟨k + 1,by omega,by omega,?_⟩ (by omega))
   unfold zo4 at h2 ⊢
   rw [ht,List.all_append,h2]
   simpa using h
  have bad:(l[k].1 == 0 || (decide (least≤l[k].1) && decide (l[k].1≤most)))=false→zo4 least most l=false:=fun h=>by
   unfold zo4
   rw [List.all_eq_false]
   exact ⟨_,List.getElem_mem hk,by simpa using h⟩
  refine Tells.ok (qv5 (by omega) (by omega)) (Tells.ite (fun c2=>?_) (fun c2=>?_))
  ·have c2:(l[k].1 == 0)=false:=by simpa using c2
   refine Tells.dec (fun c3=>Tells.some ?_) (fun c3=>Tells.dec (fun c4=>Tells.some ?_) (fun c4=>next ?_))
   ·rw [bad (by rw [c2,decide_eq_false (by omega)]; rfl)]
   ·rw [bad (by rw [c2,decide_eq_false (show ¬ l[k].1≤most by omega)]; simp)]
   ·rw [decide_eq_true (show least≤l[k].1 by omega),decide_eq_true (show l[k].1≤most by omega)]; simp
  ·refine next ?_
   have c2:(l[k].1 == 0)=true:=by simpa using c2
   rw [c2]; rfl
 ·have:k=l.length:=by omega
  subst this
  rw [List.take_length] at h2
  exact Tells.some h2.symm
def eqF (nulls:List Bool)(t:Bool)(x y:q00):q03 :=
 if nulls.getD 0 false=true∨nulls.getD 1 false=true then zp9 (z89 ((x.1 == y.1) == t))
 else if ym5 [x,y]=true then zp9 (0,0,[],())
 else if (ky5 x y).2.1=false then ky7 8
 else zp9 (z89 (((ky5 x y).1 == 0) == t))
theorem nul_is (l:List Bool)(i:Nat){β:Type}(x y:Option β):(bif decide ((i:Int) < (l.length:Int)) then bif inR (i:Int) l.length then bif q24 l (i:Int) false then x else y else none else y)=bif l.getD i false then x else y:=by
 by_cases h:i < l.length
 ·rw [decide_eq_true (by omega),cond_true,qv5 (by omega) (by omega),cond_true,ql8 h,List.getD_eq_getElem?_getD,List.getElem?_eq_getElem h]
  rfl
 ·rw [decide_eq_false (by omega),cond_false,List.getD_eq_getElem?_getD,List.getElem?_eq_none (by omega)]
  rfl
section
variable {N:Nat} (hN:100≤N)
include hN
theorem x37 (x y:q00):q83 N [x,y]=some (ym5 [x,y]):=uj5 N _ (by simp) (by simp; omega)
theorem kt3 (nulls:List Bool)(l:List q03)(t:Bool)(x y:q00)(hx:I64 x.2.1)(hy:I64 y.2.1):qg0 N [x,y] l nulls t=some (eqF nulls t x y):=by
 unfold qg0 wd3
 dsimp only
 simp only [qc1 (show 0 < N by omega)]
 have e0:inR 0 [x,y].length=true:=rfl
 have e1:inR 1 [x,y].length=true:=rfl
 rw [e0,cond_true,e1,cond_true]
 have n0:q24 [x,y] 0 q29=x:=rfl
 have n1:q24 [x,y] 1 q29=y:=rfl
 rw [n0,n1,ji7 N (by omega) x y hx hy,Option.bind_some]
 have b1:qq4 N [x,y] t ()=some (zp9 (z89 ((x.1 == y.1) == t))):=by
  unfold qq4
  rw [e0,cond_true,e1,cond_true,n0,n1,qg7]; rfl
 have b2:qp5 N [x,y] (ky5 x y).1 (ky5 x y).2.1 t ()=some (if ym5 [x,y]=true then zp9 (0,0,[],()) else if (ky5 x y).2.1=false then ky7 8 else zp9 (z89 (((ky5 x y).1 == 0) == t))):=by
  unfold qp5
  rw [x37 hN,Option.bind_some]
  cases h1:ym5 [x,y]
  ·cases h2:(ky5 x y).2.1
   ·rfl
   ·simp only [qg7]; rfl
  ·rfl
 have q0:=nul_is nulls 0 (β:=q03)
 have q1:=nul_is nulls 1 (β:=q03)
 have z0:((0:Nat):Int)=0:=rfl
 have z1:((1:Nat):Int)=1:=rfl
 simp only [z0] at q0
 simp only [z1] at q1
 rw [b1,b2,q1,q0]
 unfold eqF
 cases nulls.getD 0 false <;> cases nulls.getD 1 false <;> simp
def k24 (p:Int→Bool)(x y:q00):q03 :=
 if zo4 1 2 [x,y]=false∧zo4 3 3 [x,y]=false then ky7 8
 else if ym5 [x,y]=true then zp9 (0,0,[],())
 else zp9 (z89 (p (ky5 x y).1))
theorem jf3 (p:Int→Bool)(q:Nat→Int→Option Bool)(hq:∀ c,q N c=some (p c))(x y:q00)(hx:I64 x.2.1)(hy:I64 y.2.1):((qa8 N 1 2 [x,y]).bind fun (r:Bool) =>
 bif (!r) then
  (qa8 N 3 3 [x,y]).bind fun (r1:Bool) =>
  bif (!r1) then
   (qd7 N 8).bind fun (r2:q03) =>
   some r2
  else
   (q83 N [x,y]).bind fun (r3:Bool) =>
   bif r3 then
    some ((0,0,[],()),0,())
   else
    bif inR 0 [x,y].length then
    bif inR 1 [x,y].length then
    (q92 N (q24 [x,y] 0 q29) (q24 [x,y] 1 q29)).bind fun (r4:Int×Bool×Unit) =>
    (q N r4.1).bind fun (r5:Bool) =>
    (q94 N r5).bind fun (r6:q00) =>
    some (r6,0,())
    else none
    else none
 else
  (q83 N [x,y]).bind fun (r7:Bool) =>
  bif r7 then
   some ((0,0,[],()),0,())
  else
   bif inR 0 [x,y].length then
   bif inR 1 [x,y].length then
   (q92 N (q24 [x,y] 0 q29) (q24 [x,y] 1 q29)).bind fun (r8:Int×Bool×Unit) =>
   (q N r8.1).bind fun (r9:Bool) =>
   (q94 N r9).bind fun (r10:q00) =>
   some (r10,0,())
   else none
   else none)=some (k24 p x y):=by
 have e0:inR 0 [x,y].length=true:=rfl
 have e1:inR 1 [x,y].length=true:=rfl
 have n0:q24 [x,y] 0 q29=x:=rfl
 have n1:q24 [x,y] 1 q29=y:=rfl
 have hf:∀ a b,qa8 N a b [x,y]=some (zo4 a b [x,y]):=fun a b=>ka4 N a b _ (by simp) (by simp; omega)
 simp only [hf,Option.bind_some,x37 hN,e0,e1,cond_true,n0,n1,ji7 N (by omega) x y hx hy,hq,qg7,fail_is]
 unfold k24
 cases zo4 1 2 [x,y] <;> cases zo4 3 3 [x,y] <;> cases ym5 [x,y] <;> rfl
theorem order_lt (x y:q00)(hx:I64 x.2.1)(hy:I64 y.2.1):qr0 N [x,y]=some (k24 (fun c=>decide (c < 0)) x y):=jf3 hN _ wh3 (fun _=>rfl) x y hx hy
theorem order_le (x y:q00)(hx:I64 x.2.1)(hy:I64 y.2.1):qi0 N [x,y]=some (k24 (fun c=>decide (c≤0)) x y):=jf3 hN _ wk8 (fun _=>rfl) x y hx hy
theorem order_gt (x y:q00)(hx:I64 x.2.1)(hy:I64 y.2.1):qh9 N [x,y]=some (k24 (fun c=>decide (c > 0)) x y):=jf3 hN _ wi7 (fun _=>rfl) x y hx hy
theorem order_ge (x y:q00)(hx:I64 x.2.1)(hy:I64 y.2.1):qi4 N [x,y]=some (k24 (fun c=>decide (c ≥ 0)) x y):=jf3 hN _ wk5 (fun _=>rfl) x y hx hy
end
def zv1 (r:q00×Int×Unit):q03:=if r.2.1≠0 then ky7 r.2.1 else zp9 r.1
theorem zv0 (N:Nat)(v:q00)(e:Int):qc7 N v e=some (zv1 (v,e,())):=by
 unfold qc7 zv1
 by_cases h:e=0
 ·simp [h,zp9]
 ·have h':(e != 0)=true:=by simpa using h
  simp only [h',cond_true]
  rw [if_pos h]; rfl
def zo1 (k:Int)(l:List q00)(G:q03):q03:=if zo4 k k l=false then ky7 8 else if ym5 l=true then zp9 (0,0,[],()) else G
def headF (s p:List UInt8):Bool:=if s.length ≥ p.length then s.take p.length == p else false
def modE (a b:Int):Int×Int×Unit:=if b=0 then (0,10,()) else yz4 (a.tmod b)
def negV (v:q00):q00×Int×Unit:=doS gSub gSub (vn1 (iMin v.1 2) 1,0,[],()) v
def absF (v:q00):q03:=if zo4 1 2 [v]=false then ky7 8 else if v.2.1 < 0 then zv1 (negV v) else zp9 v
theorem ze8 (v:Int):I64 (yz4 v).1:=by
 unfold yz4
 split
 ·rename_i h; exact h
 ·exact ⟨by simp,by simp⟩
section
variable {N:Nat} (hN:100≤N)
include hN
theorem kn0 (x:q00):q83 N [x]=some (ym5 [x]):=uj5 N _ (by simp) (by simp; omega)
theorem fits1' (a b:Int)(x:q00):qa8 N a b [x]=some (zo4 a b [x]):=ka4 N a b _ (by simp) (by simp; omega)
theorem fits2' (a b:Int)(x y:q00):qa8 N a b [x,y]=some (zo4 a b [x,y]):=ka4 N a b _ (by simp) (by simp; omega)
theorem has_is (x y:q00)(hx:x.2.2.1.length≤4294967280):qm1 N [x,y] 3=some (zo1 3 [x,y] (zp9 (z89 (Lib.contains x.2.2.1 y.2.2.1)))):=by
 unfold qm1 zo1
 rw [fits2' hN,Option.bind_some]
 cases zo4 3 3 [x,y]
 ·rfl
 ·simp only [x37 hN,Option.bind_some]
  cases ym5 [x,y]
  ·unfold ze6 wb3
   have e0:inR 0 [x,y].length=true:=rfl
   have e1:inR 1 [x,y].length=true:=rfl
   have n0:q24 [x,y] 0 q29=x:=rfl
   have n1:q24 [x,y] 1 q29=y:=rfl
   have hb:Nat.blt x.2.2.1.length 4294967281=true:=by rw [Nat.blt_eq]; omega
   simp only [e0,e1,n0,n1,hb,cond_true,Option.bind_some,qg7]
   rfl
  ·rfl
theorem starts_is (x y:q00):qg3 N [x,y] 3=some (zo1 3 [x,y] (zp9 (z89 (headF x.2.2.1 y.2.2.1)))):=by
 unfold qg3 zo1
 rw [fits2' hN,Option.bind_some]
 cases zo4 3 3 [x,y]
 ·rfl
 ·simp only [x37 hN,Option.bind_some]
  cases ym5 [x,y]
  ·unfold zf4 w38 qo5 headF
   have e0:inR 0 [x,y].length=true:=rfl
   have e1:inR 1 [x,y].length=true:=rfl
   have n0:q24 [x,y] 0 q29=x:=rfl
   have n1:q24 [x,y] 1 q29=y:=rfl
   simp only [e0,e1,n0,n1,cond_true]
   by_cases h:x.2.2.1.length ≥ y.2.2.1.length
   ·have h':(x.2.2.1.length:Int) ≥ (y.2.2.1.length:Int):=by omega
    rw [decide_eq_true h',cond_true,upToT (by omega) (by omega),cond_true,if_pos h]
    simp only [Option.bind_some,qg7,Int.toNat_natCast]
    rfl
   ·have h':¬ (x.2.2.1.length:Int) ≥ (y.2.2.1.length:Int):=by omega
    rw [decide_eq_false h',cond_false,if_neg h]
    simp only [Option.bind_some,qg7]
    rfl
  ·rfl
omit hN in
theorem k42 (N:Nat){a b:Int}(ha:I64 a)(hb:I64 b):v97 N a b=some (modE a b):=by
 unfold v97 modE
 by_cases h:b=0
 ·simp [h]
 ·have h':(b == 0)=false:=by simpa using h
  rw [h',cond_false,qv4 N ha,Option.bind_some,qv4 N hb,Option.bind_some,decide_eq_true (show (b.natAbs:Int)≠0 by omega),cond_true,if_neg h]
  have e:Int.tmod (a.natAbs:Int) (b.natAbs:Int)=((a.natAbs % b.natAbs:Nat):Int):=by rw [Int.tmod_eq_emod_of_nonneg (by omega)]; rfl
  have h1:a.natAbs % b.natAbs≤a.natAbs:=Nat.mod_le _ _
  rw [e,wk9 N (by omega) (by omega) (by have:=ha.1; have:=ha.2; omega)]
  rw [Int.zero_mul,Int.zero_add,ki2]
  rfl
theorem mod_is (x y:q00)(hx:I64 x.2.1)(hy:I64 y.2.1):qf2 N [x,y] 1=some (zo1 1 [x,y] (zv1 ((1,(modE x.2.1 y.2.1).1,[],()),(modE x.2.1 y.2.1).2.1,()))):=by
 unfold qf2 zo1
 rw [fits2' hN,Option.bind_some]
 cases zo4 1 1 [x,y]
 ·rfl
 ·simp only [x37 hN,Option.bind_some]
  cases ym5 [x,y]
  ·unfold xy8
   have e0:inR 0 [x,y].length=true:=rfl
   have e1:inR 1 [x,y].length=true:=rfl
   have n0:q24 [x,y] 0 q29=x:=rfl
   have n1:q24 [x,y] 1 q29=y:=rfl
   simp only [e0,e1,n0,n1,cond_true,k42 N hx hy,Option.bind_some,zi8,zv0,cond_false]
   rfl
  ·rfl
theorem len_is (x:q00):qf9 N [x] 3=some (zo1 3 [x] (zp9 (1,(x.2.2.1.length:Int),[],()))):=by
 unfold qf9 zo1
 rw [fits1' hN,Option.bind_some]
 cases zo4 3 3 [x]
 ·rfl
 ·simp only [kn0 hN,Option.bind_some]
  cases ym5 [x] <;> rfl
theorem up_is (x:q00)(hx:x.2.2.1.length≤4294967280):qg1 N [x] 3=some (zo1 3 [x] (zp9 (3,0,x.2.2.1.map Abs.Upper.upB,()))):=by
 unfold qg1 zo1
 rw [fits1' hN,Option.bind_some]
 cases zo4 3 3 [x]
 ·rfl
 ·simp only [kn0 hN,Option.bind_some]
  cases ym5 [x]
  ·have hb:Nat.ble x.2.2.1.length 9223372036854775807=true:=by rw [Nat.ble_eq]; omega
   unfold y79
   simp only [hb,cond_true,cond_false]
   rfl
  ·rfl
theorem neg_is (x:q00)(hx:I64 x.2.1):j10 N x=some (negV x):=by
 unfold j10
 rw [xq2 N (by omega) _ x ⟨by simp,by simp⟩ hx]
 rfl
theorem abs_is (x:q00)(hx:I64 x.2.1):y60 N [x]=some (absF x):=by
 unfold y60 absF
 rw [fits1' hN,Option.bind_some]
 have e0:inR 0 [x].length=true:=rfl
 have n0:q24 [x] 0 q29=x:=rfl
 cases zo4 1 2 [x]
 ·rfl
 ·simp only [e0,n0,cond_true,Bool.not_true,cond_false,neg_is hN x hx,Option.bind_some,zv0]
  by_cases h:x.2.1 < 0 <;> simp [h,zp9,zv1]
end
def xu5 (l:List q00):Int:=l.foldl (fun k v=>vn1 k v.1) 1
structure ke4 (l:List q00) (r:(List q00)×Bool×Int×Unit):Prop where
 null:r.2.1=true→r.2.2.1=0∧∃ v ∈ l,v.1=0
 err:r.2.2.1≠0→r.2.2.1=9∨(r.2.2.1=8∧∃ v ∈ l,¬ (v.1=0∨v.1=1∨v.1=2))
 ok:r.2.1=false→r.2.2.1=0→r.1.length=l.length∧(∀ v ∈ l,v.1=1∨v.1=2)∧∀ v ∈ r.1,v.1=xu5 l∧I64 v.2.1∧v.2.2.1=[]
theorem yt0 {α:Type}(l:List α)(k:Nat)(h:k < l.length):l.take (k + 1)=l.take k ++ [l[k]]:=by rw [List.take_add_one]; simp [h]
theorem kr9 (l:List q00)(v:q00):xu5 (l ++ [v])=vn1 (xu5 l) v.1:=by unfold xu5; rw [List.foldl_append]; rfl
theorem isNumber_is (N:Nat)(v:q00):q71 N v=some (decide (v.1=1∨v.1=2)):=q66 N v
section
variable {N:Nat} (hN:100≤N) {l:List q00} (hl:l.length≤1000000) (hlN:l.length < N) (hi:∀ v ∈ l,I64 v.2.1)
include hN hl hlN hi
theorem k34 :Tells (q96 N l) (ke4 l):=by
 unfold q96 qo8
 refine Tells.iter (fun (e:Bool×Int×Int)=>∃ k:Nat,e.2.2=k∧k≤l.length∧e.2.1=xu5 (l.take k)∧(∀ v ∈ l.take k,v.1=0∨v.1=1∨v.1=2)∧(e.1=true↔∃ v ∈ l.take k,v.1=0)) (fun (e:Bool×Int×Int)=>l.length - e.2.2.toNat) ?_ N _ ⟨0,rfl,by omega,rfl,by simp,by simp⟩ (by simpa using hlN)
 rintro K ⟨nul,kind,i⟩ ⟨k,e1,k1,k2,k3,k4⟩ hK
 dsimp only at e1 k1 k2 k3 k4 hK
 subst e1
 unfold q97 q95
 dsimp only
 refine Tells.dec (fun c=>?_) (fun c=>?_)
 ·have hk:k < l.length:=by omega
  have ht:=yt0 l k hk
  rw [ql8 hk]
  have next:(l[k].1=0∨l[k].1=1∨l[k].1=2)→Tells (bif nul then bif q26 ((k:Int) + 1) then K (true,vn1 kind l[k].1,(k:Int) + 1) else none
    else bif q26 ((k:Int) + 1) then K (l[k].1 == 0,vn1 kind l[k].1,(k:Int) + 1) else none) (ke4 l):=fun h=>by
   have all':∀ v ∈ l.take (k + 1),v.1=0∨v.1=1∨v.1=2:=fun v hv=>by
    rw [ht] at hv
    rcases List.mem_append.1 hv with h1 | h1
    ·exact k3 v h1
    ·simp at h1; subst h1; exact h
   have kk:vn1 kind l[k].1=xu5 (l.take (k + 1)):=by rw [ht,kr9,k2]
   refine Tells.ite (fun c2=>Tells.ok (inI (by omega) (by omega)) (hK _ ⟨k + 1,by dsimp only; omega,by omega,kk,all',?_⟩ (by dsimp only; omega))) (fun c2=>Tells.ok (inI (by omega) (by omega)) (hK _ ⟨k + 1,by dsimp only; omega,by omega,kk,all',?_⟩ (by dsimp only; omega)))
   ·refine ⟨fun _=>?_,fun _=>rfl⟩
    obtain ⟨v,h1,h2⟩:=k4.1 c2
    exact ⟨v,by rw [ht]; exact List.mem_append_left _ h1,h2⟩
   ·dsimp only
    rw [ht]
    refine ⟨fun h1=>⟨l[k],List.mem_append_right _ (List.mem_singleton.2 rfl),by simpa using h1⟩,?_⟩
    rintro ⟨v,h1,h2⟩
    rcases List.mem_append.1 h1 with h1 | h1
    ·have:=k4.2 ⟨v,h1,h2⟩
     rw [c2] at this; cases this
    ·simp at h1; subst h1; simpa using h2
  refine Tells.ok (qv5 (by omega) (by omega)) ?_
  rw [q66,Option.bind_some]
  refine Tells.ite (fun c2=>?_) (fun c2=>next ?_)
  ·have c2:¬ (l[k].1=1∨l[k].1=2):=by simpa using c2
   refine Tells.ite (fun c3=>Tells.some ⟨fun h=>(by cases h),fun _=>.inr ⟨rfl,l[k],List.getElem_mem hk,?_⟩,fun _ h=>(by cases h)⟩) (fun c3=>next ?_)
   ·have c3:l[k].1≠0:=by simpa using c3
    omega
   ·have c3:l[k].1=0:=by simpa using c3
    exact .inl c3
  ·have c2:l[k].1=1∨l[k].1=2:=of_decide_eq_true (by simpa only [Bool.not_eq_false'] using c2)
   omega
 ·have hk:k=l.length:=by omega
  subst hk
  rw [List.take_length] at k2 k3 k4
  refine Tells.ite (fun c2=>Tells.some ⟨fun _=>⟨rfl,k4.1 c2⟩,fun h=>absurd rfl h,fun h=>(by cases h)⟩) (fun c2=>?_)
  have nums:∀ v ∈ l,v.1=1∨v.1=2:=fun v hv=>by
   rcases k3 v hv with h | h | h
   ·have:=k4.2 ⟨v,hv,h⟩
    rw [c2] at this; cases this
   ·exact .inl h
   ·exact .inr h
  refine Tells.iter (fun (e:List q00×Int)=>∃ k:Nat,e.2=k∧k≤l.length∧e.1.length=k∧∀ v ∈ e.1,v.1=xu5 l∧I64 v.2.1∧v.2.2.1=[]) (fun (e:List q00×Int)=>l.length - e.2.toNat) ?_ N _ ⟨0,rfl,by omega,rfl,by simp⟩ (by simpa using hlN)
  rintro K2 ⟨out,i⟩ ⟨k,e1,g1,g2,g3⟩ hK2
  dsimp only at e1 g1 g2 g3 hK2
  subst e1
  unfold qp0
  dsimp only
  refine Tells.dec (fun c=>?_) (fun c=>Tells.some ⟨fun h=>(by cases h),fun h=>absurd rfl h,fun _ _=>⟨by dsimp only; omega,nums,g3⟩⟩)
  have hk:k < l.length:=by omega
  rw [ql8 hk]
  have next:∀ n:Int,I64 n→Tells (bif w23 (out.length + ([(kind,n,[],())]:List q00).length) 4398046511104 then bif q26 ((k:Int) + 1) then K2 ((out ++ ([(kind,n,[],())]:List q00)),(k:Int) + 1) else none else none) (ke4 l):=fun n hn=>by
   refine Tells.ok (yt2 (by simp; omega)) (Tells.ok (inI (by omega) (by omega)) (hK2 _ ⟨k + 1,by dsimp only; omega,by omega,by simp; omega,fun v hv=>?_⟩ (by dsimp only; omega)))
   rcases List.mem_append.1 hv with h1 | h1
   ·exact g3 v h1
   ·simp at h1; subst h1; exact ⟨k2,hn,rfl⟩
  refine Tells.ok (qv5 (by omega) (by omega)) (Tells.ite (fun c3=>?_) (fun c3=>next _ (hi _ (List.getElem_mem hk))))
  obtain ⟨x,e,h1,h2,h3⟩:=dec_is N l[k] (hi _ (List.getElem_mem hk)) (nums _ (List.getElem_mem hk))
  rw [h1,Option.bind_some]
  refine Tells.ite (fun c4=>Tells.some ⟨fun h=>(by cases h),fun h=>.inl ?_,fun _ h=>absurd h (by simpa using c4)⟩) (fun c4=>?_)
  ·by_cases hw:I64 (qi5 l[k])
   ·exact absurd (h2 hw).1 h
   ·exact h3 hw
  ·have c4:e=0:=by simpa using c4
   by_cases hw:I64 (qi5 l[k])
   ·dsimp only
    rw [(h2 hw).2]
    exact next _ hw
   ·have:=h3 hw; omega
structure k77 (l:List q00) (r:q00×Int×Unit):Prop where
 err:r.2.1≠0→r.1=(0,0,[],())∧(r.2.1=9∨(r.2.1=8∧∃ v ∈ l,¬ (v.1=0∨v.1=1∨v.1=2)))
 ok:r.2.1=0→(r.1=(0,0,[],())∧(l=[]∨∃ v ∈ l,v.1=0))∨((∀ v ∈ l,v.1=1∨v.1=2)∧r.1.1=xu5 l∧I64 r.1.2.1∧r.1.2.2.1=[])
theorem k51 (c:Int):Tells (qg2 N c l) (k77 l):=by
 unfold qg2 j66
 refine Tells.bind (k34 hN hl hlN hi) fun r hr=>?_
 obtain ⟨xs,nul,e,_⟩:=r
 obtain ⟨h1,h2,h3⟩:=hr
 dsimp only at h1 h2 h3 ⊢
 refine Tells.ite (fun c1=>Tells.some ?_) (fun c1=>Tells.ite (fun c2=>Tells.some ?_) (fun c2=>?_))
 ·obtain ⟨g1,g2⟩:=h1 c1
  exact ⟨fun h=>absurd g1 h,fun _=>.inl ⟨rfl,.inr g2⟩⟩
 ·have c2:e≠0:=by simpa using c2
  exact ⟨fun _=>⟨rfl,h2 c2⟩,fun h=>absurd h c2⟩
 ·have c2:e=0:=by simpa using c2
  obtain ⟨g1,g2,g3⟩:=h3 c1 c2
  refine Tells.ite (fun c3=>Tells.some ⟨fun h=>absurd c2 h,fun _=>.inl ⟨rfl,.inl ?_⟩⟩) (fun c3=>?_)
  ·have c3:xs.length=0:=by simpa using c3
   exact List.eq_nil_of_length_eq_zero (by omega)
  ·have c3:xs.length≠0:=by simpa using c3
   refine Tells.ok (qv5 (by omega) (by omega)) ?_
   have fin:∀ v:q00,v.1=xu5 l∧I64 v.2.1∧v.2.2.1=[]→k77 l (v,0,()):=fun v hv=>⟨fun h=>absurd rfl h,fun _=>.inr ⟨g2,hv⟩⟩
   refine Tells.iter (fun (e:Int×Int×Int×List UInt8)=>0≤e.1∧e.1≤xs.length∧e.2.1=xu5 l∧I64 e.2.2.1∧e.2.2.2=[]) (fun (e:Int×Int×Int×List UInt8)=>xs.length - e.1.toNat) ?_ N _ ?_ (by dsimp only; omega)
   ·rintro K ⟨i,k,n,s⟩ ⟨k1,k2,k3,k4,k5⟩ hK
    dsimp only at k1 k2 k3 k4 k5 hK
    unfold zt5
    dsimp only
    refine Tells.dec (fun c=>?_) (fun c=>Tells.some (fin _ ⟨k3,k4,k5⟩))
    have hx:=g3 _ (wj2 (d:=q29) k1 c)
    rw [zd3,Option.bind_some]
    refine Tells.ok (qv5 (by omega) (by omega)) (Tells.ite (fun _=>Tells.ok (inI (by omega) (by omega)) (hK _ ⟨by dsimp only; omega,by dsimp only; omega,hx⟩ (by dsimp only; omega))) (fun _=>Tells.ok (inI (by omega) (by omega)) (hK _ ⟨by dsimp only; omega,by dsimp only; omega,k3,k4,k5⟩ (by dsimp only; omega))))
   ·exact ⟨by simp,by simp,g3 _ (wj2 (d:=q29) (by omega) (by omega))⟩
end
end Go.Proofs.YtgicljncknbgcaaGreat.Abs
