/- Expressions' answers: those that ask expressions from the left. -/
import Derived.Test.YtgicljncknbgcaaGreatN1
import Derived.Test.YtgicljncknbgcaaGreatL7
import Derived.Test.YtgicljncknbgcaaGreatV1
import Derived.Test.YtgicljncknbgcaaGreatN2
import Derived.Test.YtgicljncknbgcaaGreatR1
import Derived.Test.YtgicljncknbgcaaGreatR2
set_option linter.unusedVariables false
set_option linter.unusedSimpArgs false
set_option linter.unusedSectionVars false
namespace Go.Proofs.YtgicljncknbgcaaGreat.Abs
open Go
def a0 :q03:=((0,0,[],()),0,())
def wo0 (k:q34)(i:Nat):q03:=k.1.getD i a0
def z54 (k:q34)(n:Nat):List q03:=(List.range' 0 n).map (wo0 k)
theorem kk1 (N:Nat)(k:q34)(i:Nat):q59 N k (i:Int)=some (wo0 k i):=by
 unfold q59 wo0
 by_cases h:(i:Int) ≥ (k.1.length:Int)
 ·have:k.1.length≤i:=by omega
  simp only [h,decide_true,cond_true]
  rw [List.getD_eq_getElem?_getD,List.getElem?_eq_none this]
  rfl
 ·have h2:i < k.1.length:=by omega
  have h3:inR (i:Int) k.1.length=true:=qu4 (by omega) (by omega)
  simp only [h,decide_false,cond_false,h3,cond_true]
  rw [qj2 h2,List.getD_eq_getElem?_getD,List.getElem?_eq_getElem h2]
  rfl
def wb0 (F:List q00→Option q03):List q03→List q00→Option q03
 | [],acc=>F acc
 | a :: l,acc=>if a.2.1≠0 then some a else wb0 F l (acc ++ [a.1])
theorem ql7 {N:Nat}(body:((List q00×Int)→Option q03)→(List q00×Int)→Option q03)(k:q34)(n:Nat)(F:List q00→Option q03)(hN:n < N)(hn:n≤1000000)
  (hb:∀ K l t,body K (l,t)=bif decide (t < (n:Int)) then
   (q59 N (k.1,k.2.1,()) t).bind fun (r:q03) =>
   bif (r.2.1 != 0) then
    some r
   else
    bif w33 (l.length + ([r.1]:List q00).length) 4398046511104 then
    bif q27 (t + 1) then
    K ((l ++ ([r.1]:List q00)),t + 1)
    else none
    else none
  else F l):q87 body N ([],0)=wb0 F (z54 k n) []:=by
 have main:∀ (m i:Nat) (acc:List q00) (M:Nat),i + m=n→acc.length=i→m < M→q87 body M (acc,(i:Int))=wb0 F ((List.range' i m).map (wo0 k)) acc:=by
  intro m
  induction m with
  | zero =>
   intro i acc M h1 h2 h3
   cases M with
   | zero=>omega
   | succ M =>
    simp only [q87,hb]
    have:¬ (i:Int) < (n:Int):=by omega
    simp [this,wb0]
  | succ m ih =>
   intro i acc M h1 h2 h3
   cases M with
   | zero=>omega
   | succ M =>
    simp only [q87,hb]
    have c:(i:Int) < (n:Int):=by omega
    have e:q59 N (k.1,k.2.1,()) (i:Int)=some (wo0 k i):=kk1 N k i
    rw [decide_eq_true c,cond_true,e,Option.bind_some,List.range'_succ,List.map_cons,wb0]
    by_cases h:(wo0 k i).2.1=0
    ·have h':((wo0 k i).2.1 != 0)=false:=by simpa using h
     rw [h',cond_false,yy7 (by simp; omega),cond_true,inI (by omega) (by omega),cond_true,if_neg (by simp [h])]
     exact ih (i + 1) (acc ++ [(wo0 k i).1]) M (by omega) (by simp; omega) (by omega)
    ·have h':((wo0 k i).2.1 != 0)=true:=by simpa using h
     rw [h',cond_true,if_pos h]
 exact main n 0 [] N (by omega) rfl hN
def z47 (N:Nat)(ye9:List q03)(q91:List Bool)(t2:Bool)(l:List q00):Option q03 :=
 (qg9 N l ye9 q91 t2).bind fun (r1:q03) =>
 some r1
theorem xe0 (N:Nat)(k:q34)(n:Nat)(ye9:List q03)(q91:List Bool)(t2:Bool)(hN:n < N)(hn:n≤1000000):wb7 N k (n:Int) ye9 q91 t2=wb0 (z47 N ye9 q91 t2) (z54 k n) [] :=
 ql7 (wr0 N (n:Int) k.1 k.2.1 0 0 [] 0 ye9 q91 t2) k n (z47 N ye9 q91 t2) hN hn fun K l t=>rfl
def wf3 (N:Nat)(l:List q00):Option q03 :=
 (qs6 N l).bind fun (r1:q03) =>
 some r1
theorem yb1 (N:Nat)(k:q34)(n:Nat)(hN:n < N)(hn:n≤1000000):qt2 N k (n:Int)=wb0 (wf3 N) (z54 k n) [] :=
 ql7 (w80 N (n:Int) k.1 k.2.1 0 0 [] 0) k n (wf3 N) hN hn fun K l t=>rfl
def we8 (N:Nat)(l:List q00):Option q03 :=
 (qi5 N l).bind fun (r1:q03) =>
 some r1
theorem ya6 (N:Nat)(k:q34)(n:Nat)(hN:n < N)(hn:n≤1000000):qu1 N k (n:Int)=wb0 (we8 N) (z54 k n) [] :=
 ql7 (w94 N (n:Int) k.1 k.2.1 0 0 [] 0) k n (we8 N) hN hn fun K l t=>rfl
def wf4 (N:Nat)(l:List q00):Option q03 :=
 (qi8 N l).bind fun (r1:q03) =>
 some r1
theorem yd0 (N:Nat)(k:q34)(n:Nat)(hN:n < N)(hn:n≤1000000):qs8 N k (n:Int)=wb0 (wf4 N) (z54 k n) [] :=
 ql7 (w92 N (n:Int) k.1 k.2.1 0 0 [] 0) k n (wf4 N) hN hn fun K l t=>rfl
def we9 (N:Nat)(l:List q00):Option q03 :=
 (qi3 N l).bind fun (r1:q03) =>
 some r1
theorem ye1 (N:Nat)(k:q34)(n:Nat)(hN:n < N)(hn:n≤1000000):qr6 N k (n:Int)=wb0 (we9 N) (z54 k n) [] :=
 ql7 (w88 N (n:Int) k.1 k.2.1 0 0 [] 0) k n (we9 N) hN hn fun K l t=>rfl
def wf7 (N:Nat)(t1:Int)(l:List q00):Option q03 :=
 (qn1 N l t1).bind fun (r1:q03) =>
 some r1
theorem yg1 (N:Nat)(k:q34)(n:Nat)(t1:Int)(hN:n < N)(hn:n≤1000000):qu0 N k (n:Int) t1=wb0 (wf7 N t1) (z54 k n) [] :=
 ql7 (w85 N (n:Int) k.1 k.2.1 0 0 [] 0 t1) k n (wf7 N t1) hN hn fun K l t=>rfl
def wg0 (N:Nat)(t1:Int)(l:List q00):Option q03 :=
 (qg5 N l t1).bind fun (r1:q03) =>
 some r1
theorem yf2 (N:Nat)(k:q34)(n:Nat)(t1:Int)(hN:n < N)(hn:n≤1000000):qr7 N k (n:Int) t1=wb0 (wg0 N t1) (z54 k n) [] :=
 ql7 (wa2 N (n:Int) k.1 k.2.1 0 0 [] 0 t1) k n (wg0 N t1) hN hn fun K l t=>rfl
def wf9 (N:Nat)(l:List q00):Option q03 :=
 bif inR 0 l.length then
 bif inR 1 l.length then
 (j31 N (q25 l 0 q30) (q25 l 1 q30)).bind fun (r1:q00×Int×Unit) =>
 (qd1 N r1.1 r1.2.1).bind fun (r2:q03) =>
 some r2
 else none
 else none
theorem ye6 (N:Nat)(k:q34)(n:Nat)(hN:n < N)(hn:n≤1000000):qt5 N k (n:Int)=wb0 (wf9 N) (z54 k n) [] :=
 ql7 (w93 N (n:Int) k.1 k.2.1 0 0 [] 0) k n (wf9 N) hN hn fun K l t=>rfl
def wd6 (N:Nat)(l:List q00):Option q03 :=
 bif inR 0 l.length then
 bif inR 1 l.length then
 (zi5 N (q25 l 0 q30) (q25 l 1 q30)).bind fun (r1:q00×Int×Unit) =>
 (qd1 N r1.1 r1.2.1).bind fun (r2:q03) =>
 some r2
 else none
 else none
theorem yg4 (N:Nat)(k:q34)(n:Nat)(hN:n < N)(hn:n≤1000000):qs5 N k (n:Int)=wb0 (wd6 N) (z54 k n) [] :=
 ql7 (w84 N (n:Int) k.1 k.2.1 0 0 [] 0) k n (wd6 N) hN hn fun K l t=>rfl
def we7 (N:Nat)(l:List q00):Option q03 :=
 bif inR 0 l.length then
 bif inR 1 l.length then
 (zy6 N (q25 l 0 q30) (q25 l 1 q30)).bind fun (r1:q00×Int×Unit) =>
 (qd1 N r1.1 r1.2.1).bind fun (r2:q03) =>
 some r2
 else none
 else none
theorem yc9 (N:Nat)(k:q34)(n:Nat)(hN:n < N)(hn:n≤1000000):qr8 N k (n:Int)=wb0 (we7 N) (z54 k n) [] :=
 ql7 (w75 N (n:Int) k.1 k.2.1 0 0 [] 0) k n (we7 N) hN hn fun K l t=>rfl
def w72 (N:Nat)(l:List q00):Option q03 :=
 bif inR 0 l.length then
 bif inR 1 l.length then
 (j22 N (q25 l 0 q30) (q25 l 1 q30)).bind fun (r1:q00×Int×Unit) =>
 (qd1 N r1.1 r1.2.1).bind fun (r2:q03) =>
 some r2
 else none
 else none
theorem jq4 (N:Nat)(k:q34)(n:Nat)(hN:n < N)(hn:n≤1000000):qn6 N k (n:Int)=wb0 (w72 N) (z54 k n) [] :=
 ql7 (w30 N (n:Int) k.1 k.2.1 0 0 [] 0) k n (w72 N) hN hn fun K l t=>rfl
def w63 (N:Nat)(l:List q00):Option q03 :=
 (wj7 N l).bind fun (r1:q03) =>
 some r1
theorem jy9 (N:Nat)(k:q34)(n:Nat)(hN:n < N)(hn:n≤1000000):qo5 N k (n:Int)=wb0 (w63 N) (z54 k n) [] :=
 ql7 (w26 N (n:Int) k.1 k.2.1 0 0 [] 0) k n (w63 N) hN hn fun K l t=>rfl
def qq6 (N:Nat)(l:List q00):Option q03 :=
 (wm3 N l).bind fun (r1:q03) =>
 some r1
theorem jw4 (N:Nat)(k:q34)(n:Nat)(hN:n < N)(hn:n≤1000000):qh5 N k (n:Int)=wb0 (qq6 N) (z54 k n) [] :=
 ql7 (w15 N (n:Int) k.1 k.2.1 0 0 [] 0) k n (qq6 N) hN hn fun K l t=>rfl
def qp7 (N:Nat)(l:List q00):Option q03 :=
 (wh9 N l).bind fun (r1:q03) =>
 some r1
theorem y41 (N:Nat)(k:q34)(n:Nat)(hN:n < N)(hn:n≤1000000):qi0 N k (n:Int)=wb0 (qp7 N) (z54 k n) [] :=
 ql7 (w25 N (n:Int) k.1 k.2.1 0 0 [] 0) k n (qp7 N) hN hn fun K l t=>rfl
def w69 (N:Nat)(l:List q00):Option q03 :=
 (y82 N l).bind fun (r1:q03) =>
 some r1
theorem y46 (N:Nat)(k:q34)(n:Nat)(hN:n < N)(hn:n≤1000000):qn9 N k (n:Int)=wb0 (w69 N) (z54 k n) [] :=
 ql7 (w28 N (n:Int) k.1 k.2.1 0 0 [] 0) k n (w69 N) hN hn fun K l t=>rfl
def wa4 (N:Nat)(t1:Int)(l:List q00):Option q03 :=
 (qf7 N l t1).bind fun (r1:q03) =>
 some r1
theorem jw8 (N:Nat)(k:q34)(n:Nat)(t1:Int)(hN:n < N)(hn:n≤1000000):qp5 N k (n:Int) t1=wb0 (wa4 N t1) (z54 k n) [] :=
 ql7 (w27 N (n:Int) k.1 k.2.1 0 0 [] 0 t1) k n (wa4 N t1) hN hn fun K l t=>rfl
def w86 (N:Nat)(t1:Int)(l:List q00):Option q03 :=
 (qg0 N l t1).bind fun (r1:q03) =>
 some r1
theorem y05 (N:Nat)(k:q34)(n:Nat)(t1:Int)(hN:n < N)(hn:n≤1000000):qo0 N k (n:Int) t1=wb0 (w86 N t1) (z54 k n) [] :=
 ql7 (w19 N (n:Int) k.1 k.2.1 0 0 [] 0 t1) k n (w86 N t1) hN hn fun K l t=>rfl
def w68 (N:Nat)(t1:Int)(l:List q00):Option q03 :=
 (qg4 N l t1).bind fun (r1:q03) =>
 some r1
theorem jz3 (N:Nat)(k:q34)(n:Nat)(t1:Int)(hN:n < N)(hn:n≤1000000):qp3 N k (n:Int) t1=wb0 (w68 N t1) (z54 k n) [] :=
 ql7 (w09 N (n:Int) k.1 k.2.1 0 0 [] 0 t1) k n (w68 N t1) hN hn fun K l t=>rfl
def w60 (v:q00):q03:=(v,0,())
def kc1 (e:Int):q03:=((0,0,[],()),e,())
def yu4 (l:List q00):Bool:=l.any fun v=>v.1 == 0
def zp9 (least most:Int)(l:List q00):Bool:=l.all fun v=>v.1 == 0 || (decide (least≤v.1) && decide (v.1≤most))
theorem fail_is (N:Nat)(e:Int):qd8 N e=some (kc1 e):=rfl
theorem uq3 (N:Nat)(l:List q00)(hl:l.length≤1000000)(hN:l.length < N):q83 N l=some (yu4 l):=by
 refine Tells.get ?_
 unfold q83 jh6
 refine Tells.iter (fun (i:Int)=>∃ k:Nat,i=k∧k≤l.length∧(l.take k).any (fun v=>v.1 == 0)=false) (fun (i:Int)=>l.length - i.toNat) ?_ N 0 ⟨0,rfl,by omega,by simp⟩ (by simpa using hN)
 rintro K i ⟨k,rfl,h1,h2⟩ hK
 unfold zw5
 dsimp only
 refine Tells.dec (fun c=>?_) (fun c=>?_)
 ·have hk:k < l.length:=by omega
  have ht:l.take (k + 1)=l.take k ++ [l[k]]:=by rw [List.take_add_one]; simp [hk]
  rw [qj2 hk]
  refine Tells.ok (qu4 (by omega) (by omega)) (Tells.ite (fun c2=>Tells.some ?_) (fun c2=>?_))
  ·unfold yu4
   exact (List.any_eq_true.2 ⟨_,List.getElem_mem hk,c2⟩).symm
  ·refine Tells.ok (inI (by omega) (by omega)) (hK _ ⟨k + 1,by omega,by omega,?_⟩ (by omega))
   rw [ht,List.any_append,h2]
   simpa using c2
 ·have:k=l.length:=by omega
  subst this
  rw [List.take_length] at h2
  exact Tells.some h2.symm
theorem kh8 (N:Nat)(least most:Int)(l:List q00)(hl:l.length≤1000000)(hN:l.length < N):qb1 N least most l=some (zp9 least most l):=by
 refine Tells.get ?_
 unfold qb1 yr0
 refine Tells.iter (fun (i:Int)=>∃ k:Nat,i=k∧k≤l.length∧zp9 least most (l.take k)=true) (fun (i:Int)=>l.length - i.toNat) ?_ N 0 ⟨0,rfl,by omega,by simp [zp9]⟩ (by simpa using hN)
 rintro K i ⟨k,rfl,h1,h2⟩ hK
 unfold y12
 dsimp only
 refine Tells.dec (fun c=>?_) (fun c=>?_)
 ·have hk:k < l.length:=by omega
  have ht:l.take (k + 1)=l.take k ++ [l[k]]:=by rw [List.take_add_one]; simp [hk]
  rw [qj2 hk]
  have next:(l[k].1 == 0 || (decide (least≤l[k].1) && decide (l[k].1≤most)))=true→Tells (bif q27 ((k:Int) + 1) then K ((k:Int) + 1) else none) fun x=>x=zp9 least most l:=fun h=>by
   refine Tells.ok (inI (by omega) (by omega)) (hK _ ⟨k + 1,by omega,by omega,?_⟩ (by omega))
   unfold zp9 at h2 ⊢
   rw [ht,List.all_append,h2]
   simpa using h
  have bad:(l[k].1 == 0 || (decide (least≤l[k].1) && decide (l[k].1≤most)))=false→zp9 least most l=false:=fun h=>by
   unfold zp9
   rw [List.all_eq_false]
   exact ⟨_,List.getElem_mem hk,by simpa using h⟩
  refine Tells.ok (qu4 (by omega) (by omega)) (Tells.ite (fun c2=>?_) (fun c2=>?_))
  ·have c2:(l[k].1 == 0)=false:=by simpa using c2
   refine Tells.dec (fun c3=>Tells.some ?_) (fun c3=>Tells.dec (fun c4=>Tells.some ?_) (fun c4=>next ?_))
   ·rw [bad (by rw [c2,decide_eq_false (by omega)]; rfl)]
   ·rw [bad (by rw [c2,decide_eq_false (show ¬ l[k].1≤most by omega)]; simp)]
   ·rw [decide_eq_true (show least≤l[k].1 by omega),decide_eq_true (show l[k].1≤most by omega)]; simp
  ·refine next ?_
   have c2:(l[k].1 == 0)=true:=by simpa using c2
   rw [c2]; rfl
 ·have:k=l.length:=by omega
  subst this
  rw [List.take_length] at h2
  exact Tells.some h2.symm
def eqF (nulls:List Bool)(t:Bool)(x y:q00):q03 :=
 if nulls.getD 0 false=true∨nulls.getD 1 false=true then w60 (w14 ((x.1 == y.1) == t))
 else if yu4 [x,y]=true then w60 (0,0,[],())
 else if (k56 x y).2.1=false then kc1 8
 else w60 (w14 (((k56 x y).1 == 0) == t))
theorem nul_is (l:List Bool)(i:Nat){β:Type}(x y:Option β):(bif decide ((i:Int) < (l.length:Int)) then bif inR (i:Int) l.length then bif q25 l (i:Int) false then x else y else none else y)=bif l.getD i false then x else y:=by
 by_cases h:i < l.length
 ·rw [decide_eq_true (by omega),cond_true,qu4 (by omega) (by omega),cond_true,qj2 h,List.getD_eq_getElem?_getD,List.getElem?_eq_getElem h]
  rfl
 ·rw [decide_eq_false (by omega),cond_false,List.getD_eq_getElem?_getD,List.getElem?_eq_none (by omega)]
  rfl
section
variable {N:Nat} (hN:100≤N)
include hN
theorem x18 (x y:q00):q83 N [x,y]=some (yu4 [x,y]):=uq3 N _ (by simp) (by simp; omega)
theorem q0b (nulls:List Bool)(l:List q03)(t:Bool)(x y:q00)(hx:I64 x.2.1)(hy:I64 y.2.1):qg9 N [x,y] l nulls t=some (eqF nulls t x y):=by
 unfold qg9 we5
 dsimp only
 simp only [qb8 (show 0 < N by omega)]
 have e0:inR 0 [x,y].length=true:=rfl
 have e1:inR 1 [x,y].length=true:=rfl
 rw [e0,cond_true,e1,cond_true]
 have n0:q25 [x,y] 0 q30=x:=rfl
 have n1:q25 [x,y] 1 q30=y:=rfl
 rw [n0,n1,ji7 N (by omega) x y hx hy,Option.bind_some]
 have b1:qq8 N [x,y] t ()=some (w60 (w14 ((x.1 == y.1) == t))):=by
  unfold qq8
  rw [e0,cond_true,e1,cond_true,n0,n1,qh2]; rfl
 have b2:qq1 N [x,y] (k56 x y).1 (k56 x y).2.1 t ()=some (if yu4 [x,y]=true then w60 (0,0,[],()) else if (k56 x y).2.1=false then kc1 8 else w60 (w14 (((k56 x y).1 == 0) == t))):=by
  unfold qq1
  rw [x18 hN,Option.bind_some]
  cases h1:yu4 [x,y]
  ·cases h2:(k56 x y).2.1
   ·rfl
   ·simp only [qh2]; rfl
  ·rfl
 have q0:=nul_is nulls 0 (β:=q03)
 have q1:=nul_is nulls 1 (β:=q03)
 have z0:((0:Nat):Int)=0:=rfl
 have z1:((1:Nat):Int)=1:=rfl
 simp only [z0] at q0
 simp only [z1] at q1
 rw [b1,b2,q1,q0]
 unfold eqF
 cases nulls.getD 0 false <;> cases nulls.getD 1 false <;> simp
def vq3 (p:Int→Bool)(x y:q00):q03 :=
 if zp9 1 2 [x,y]=false∧zp9 3 3 [x,y]=false then kc1 8
 else if yu4 [x,y]=true then w60 (0,0,[],())
 else w60 (w14 (p (k56 x y).1))
theorem jf5 (p:Int→Bool)(q:Nat→Int→Option Bool)(hq:∀ c,q N c=some (p c))(x y:q00)(hx:I64 x.2.1)(hy:I64 y.2.1):((qb1 N 1 2 [x,y]).bind fun (r:Bool) =>
 bif (!r) then
  (qb1 N 3 3 [x,y]).bind fun (r1:Bool) =>
  bif (!r1) then
   (qd8 N 8).bind fun (r2:q03) =>
   some r2
  else
   (q83 N [x,y]).bind fun (r3:Bool) =>
   bif r3 then
    some ((0,0,[],()),0,())
   else
    bif inR 0 [x,y].length then
    bif inR 1 [x,y].length then
    (q92 N (q25 [x,y] 0 q30) (q25 [x,y] 1 q30)).bind fun (r4:Int×Bool×Unit) =>
    (q N r4.1).bind fun (r5:Bool) =>
    (q97 N r5).bind fun (r6:q00) =>
    some (r6,0,())
    else none
    else none
 else
  (q83 N [x,y]).bind fun (r7:Bool) =>
  bif r7 then
   some ((0,0,[],()),0,())
  else
   bif inR 0 [x,y].length then
   bif inR 1 [x,y].length then
   (q92 N (q25 [x,y] 0 q30) (q25 [x,y] 1 q30)).bind fun (r8:Int×Bool×Unit) =>
   (q N r8.1).bind fun (r9:Bool) =>
   (q97 N r9).bind fun (r10:q00) =>
   some (r10,0,())
   else none
   else none)=some (vq3 p x y):=by
 have e0:inR 0 [x,y].length=true:=rfl
 have e1:inR 1 [x,y].length=true:=rfl
 have n0:q25 [x,y] 0 q30=x:=rfl
 have n1:q25 [x,y] 1 q30=y:=rfl
 have hf:∀ a b,qb1 N a b [x,y]=some (zp9 a b [x,y]):=fun a b=>kh8 N a b _ (by simp) (by simp; omega)
 simp only [hf,Option.bind_some,x18 hN,e0,e1,cond_true,n0,n1,ji7 N (by omega) x y hx hy,hq,qh2,fail_is]
 unfold vq3
 cases zp9 1 2 [x,y] <;> cases zp9 3 3 [x,y] <;> cases yu4 [x,y] <;> rfl
theorem order_lt (x y:q00)(hx:I64 x.2.1)(hy:I64 y.2.1):qs6 N [x,y]=some (vq3 (fun c=>decide (c < 0)) x y):=jf5 hN _ wk3 (fun _=>rfl) x y hx hy
theorem order_le (x y:q00)(hx:I64 x.2.1)(hy:I64 y.2.1):qi5 N [x,y]=some (vq3 (fun c=>decide (c≤0)) x y):=jf5 hN _ wi7 (fun _=>rfl) x y hx hy
theorem order_gt (x y:q00)(hx:I64 x.2.1)(hy:I64 y.2.1):qi8 N [x,y]=some (vq3 (fun c=>decide (c > 0)) x y):=jf5 hN _ wi3 (fun _=>rfl) x y hx hy
theorem order_ge (x y:q00)(hx:I64 x.2.1)(hy:I64 y.2.1):qi3 N [x,y]=some (vq3 (fun c=>decide (c ≥ 0)) x y):=jf5 hN _ wl6 (fun _=>rfl) x y hx hy
end
def zo1 (r:q00×Int×Unit):q03:=if r.2.1≠0 then kc1 r.2.1 else w60 r.1
theorem zw9 (N:Nat)(v:q00)(e:Int):qd1 N v e=some (zo1 (v,e,())):=by
 unfold qd1 zo1
 by_cases h:e=0
 ·simp [h,w60]
 ·have h':(e != 0)=true:=by simpa using h
  simp only [h',cond_true]
  rw [if_pos h]; rfl
def zn5 (k:Int)(l:List q00)(G:q03):q03:=if zp9 k k l=false then kc1 8 else if yu4 l=true then w60 (0,0,[],()) else G
def headF (s p:List UInt8):Bool:=if s.length ≥ p.length then s.take p.length == p else false
def modE (a b:Int):Int×Int×Unit:=if b=0 then (0,10,()) else x38 (a.tmod b)
def negV (v:q00):q00×Int×Unit:=doS gSub gSub (vq2 (iMin v.1 2) 1,0,[],()) v
def absF (v:q00):q03:=if zp9 1 2 [v]=false then kc1 8 else if v.2.1 < 0 then zo1 (negV v) else w60 v
theorem zg1 (v:Int):I64 (x38 v).1:=by
 unfold x38
 split
 ·rename_i h; exact h
 ·exact ⟨by simp,by simp⟩
section
variable {N:Nat} (hN:100≤N)
include hN
theorem kn9 (x:q00):q83 N [x]=some (yu4 [x]):=uq3 N _ (by simp) (by simp; omega)
theorem fits1' (a b:Int)(x:q00):qb1 N a b [x]=some (zp9 a b [x]):=kh8 N a b _ (by simp) (by simp; omega)
theorem fits2' (a b:Int)(x y:q00):qb1 N a b [x,y]=some (zp9 a b [x,y]):=kh8 N a b _ (by simp) (by simp; omega)
theorem has_is (x y:q00)(hx:x.2.2.1.length≤4294967280):qn1 N [x,y] 3=some (zn5 3 [x,y] (w60 (w14 (Lib.contains x.2.2.1 y.2.2.1)))):=by
 unfold qn1 zn5
 rw [fits2' hN,Option.bind_some]
 cases zp9 3 3 [x,y]
 ·rfl
 ·simp only [x18 hN,Option.bind_some]
  cases yu4 [x,y]
  ·unfold zg5 wd2
   have e0:inR 0 [x,y].length=true:=rfl
   have e1:inR 1 [x,y].length=true:=rfl
   have n0:q25 [x,y] 0 q30=x:=rfl
   have n1:q25 [x,y] 1 q30=y:=rfl
   have hb:Nat.blt x.2.2.1.length 4294967281=true:=by rw [Nat.blt_eq]; omega
   simp only [e0,e1,n0,n1,hb,cond_true,Option.bind_some,qh2]
   rfl
  ·rfl
theorem starts_is (x y:q00):qg5 N [x,y] 3=some (zn5 3 [x,y] (w60 (w14 (headF x.2.2.1 y.2.2.1)))):=by
 unfold qg5 zn5
 rw [fits2' hN,Option.bind_some]
 cases zp9 3 3 [x,y]
 ·rfl
 ·simp only [x18 hN,Option.bind_some]
  cases yu4 [x,y]
  ·unfold zg0 w48 qo6 headF
   have e0:inR 0 [x,y].length=true:=rfl
   have e1:inR 1 [x,y].length=true:=rfl
   have n0:q25 [x,y] 0 q30=x:=rfl
   have n1:q25 [x,y] 1 q30=y:=rfl
   simp only [e0,e1,n0,n1,cond_true]
   by_cases h:x.2.2.1.length ≥ y.2.2.1.length
   ·have h':(x.2.2.1.length:Int) ≥ (y.2.2.1.length:Int):=by omega
    rw [decide_eq_true h',cond_true,upToT (by omega) (by omega),cond_true,if_pos h]
    simp only [Option.bind_some,qh2,Int.toNat_natCast]
    rfl
   ·have h':¬ (x.2.2.1.length:Int) ≥ (y.2.2.1.length:Int):=by omega
    rw [decide_eq_false h',cond_false,if_neg h]
    simp only [Option.bind_some,qh2]
    rfl
  ·rfl
omit hN in
theorem kc8 (N:Nat){a b:Int}(ha:I64 a)(hb:I64 b):v88 N a b=some (modE a b):=by
 unfold v88 modE
 by_cases h:b=0
 ·simp [h]
 ·have h':(b == 0)=false:=by simpa using h
  rw [h',cond_false,qv4 N ha,Option.bind_some,qv4 N hb,Option.bind_some,decide_eq_true (show (b.natAbs:Int)≠0 by omega),cond_true,if_neg h]
  have e:Int.tmod (a.natAbs:Int) (b.natAbs:Int)=((a.natAbs % b.natAbs:Nat):Int):=by rw [Int.tmod_eq_emod_of_nonneg (by omega)]; rfl
  have h1:a.natAbs % b.natAbs≤a.natAbs:=Nat.mod_le _ _
  rw [e,wi5 N (by omega) (by omega) (by have:=ha.1; have:=ha.2; omega)]
  rw [Int.zero_mul,Int.zero_add,kp3]
  rfl
theorem mod_is (x y:q00)(hx:I64 x.2.1)(hy:I64 y.2.1):qf7 N [x,y] 1=some (zn5 1 [x,y] (zo1 ((1,(modE x.2.1 y.2.1).1,[],()),(modE x.2.1 y.2.1).2.1,()))):=by
 unfold qf7 zn5
 rw [fits2' hN,Option.bind_some]
 cases zp9 1 1 [x,y]
 ·rfl
 ·simp only [x18 hN,Option.bind_some]
  cases yu4 [x,y]
  ·unfold v16
   have e0:inR 0 [x,y].length=true:=rfl
   have e1:inR 1 [x,y].length=true:=rfl
   have n0:q25 [x,y] 0 q30=x:=rfl
   have n1:q25 [x,y] 1 q30=y:=rfl
   simp only [e0,e1,n0,n1,cond_true,kc8 N hx hy,Option.bind_some,zo0,zw9,cond_false]
   rfl
  ·rfl
theorem len_is (x:q00):qg0 N [x] 3=some (zn5 3 [x] (w60 (1,(x.2.2.1.length:Int),[],()))):=by
 unfold qg0 zn5
 rw [fits1' hN,Option.bind_some]
 cases zp9 3 3 [x]
 ·rfl
 ·simp only [kn9 hN,Option.bind_some]
  cases yu4 [x] <;> rfl
theorem up_is (x:q00)(hx:x.2.2.1.length≤4294967280):qg4 N [x] 3=some (zn5 3 [x] (w60 (3,0,x.2.2.1.map Abs.Upper.upB,()))):=by
 unfold qg4 zn5
 rw [fits1' hN,Option.bind_some]
 cases zp9 3 3 [x]
 ·rfl
 ·simp only [kn9 hN,Option.bind_some]
  cases yu4 [x]
  ·have hb:Nat.ble x.2.2.1.length 9223372036854775807=true:=by rw [Nat.ble_eq]; omega
   unfold y89
   simp only [hb,cond_true,cond_false]
   rfl
  ·rfl
theorem neg_is (x:q00)(hx:I64 x.2.1):j49 N x=some (negV x):=by
 unfold j49
 rw [xu4 N (by omega) _ x ⟨by simp,by simp⟩ hx]
 rfl
theorem abs_is (x:q00)(hx:I64 x.2.1):y82 N [x]=some (absF x):=by
 unfold y82 absF
 rw [fits1' hN,Option.bind_some]
 have e0:inR 0 [x].length=true:=rfl
 have n0:q25 [x] 0 q30=x:=rfl
 cases zp9 1 2 [x]
 ·rfl
 ·simp only [e0,n0,cond_true,Bool.not_true,cond_false,neg_is hN x hx,Option.bind_some,zw9]
  by_cases h:x.2.1 < 0 <;> simp [h,w60,zo1]
end
def xw6 (l:List q00):Int:=l.foldl (fun k v=>vq2 k v.1) 1
structure ke5 (l:List q00) (r:(List q00)×Bool×Int×Unit):Prop where
 null:r.2.1=true→r.2.2.1=0∧∃ v ∈ l,v.1=0
 err:r.2.2.1≠0→r.2.2.1=9∨(r.2.2.1=8∧∃ v ∈ l,¬ (v.1=0∨v.1=1∨v.1=2))
 ok:r.2.1=false→r.2.2.1=0→r.1.length=l.length∧(∀ v ∈ l,v.1=1∨v.1=2)∧∀ v ∈ r.1,v.1=xw6 l∧I64 v.2.1∧v.2.2.1=[]
theorem x50 {α:Type}(l:List α)(k:Nat)(h:k < l.length):l.take (k + 1)=l.take k ++ [l[k]]:=by rw [List.take_add_one]; simp [h]
theorem kr7 (l:List q00)(v:q00):xw6 (l ++ [v])=vq2 (xw6 l) v.1:=by unfold xw6; rw [List.foldl_append]; rfl
theorem isNumber_is (N:Nat)(v:q00):q72 N v=some (decide (v.1=1∨v.1=2)):=q68 N v
section
variable {N:Nat} (hN:100≤N) {l:List q00} (hl:l.length≤1000000) (hlN:l.length < N) (hi:∀ v ∈ l,I64 v.2.1)
include hN hl hlN hi
theorem kf8 :Tells (q96 N l) (ke5 l):=by
 unfold q96 qp1
 refine Tells.iter (fun (e:Bool×Int×Int)=>∃ k:Nat,e.2.2=k∧k≤l.length∧e.2.1=xw6 (l.take k)∧(∀ v ∈ l.take k,v.1=0∨v.1=1∨v.1=2)∧(e.1=true↔∃ v ∈ l.take k,v.1=0)) (fun (e:Bool×Int×Int)=>l.length - e.2.2.toNat) ?_ N _ ⟨0,rfl,by omega,rfl,by simp,by simp⟩ (by simpa using hlN)
 rintro K ⟨nul,kind,i⟩ ⟨k,e1,k1,k2,k3,k4⟩ hK
 dsimp only at e1 k1 k2 k3 k4 hK
 subst e1
 unfold q98 q95
 dsimp only
 refine Tells.dec (fun c=>?_) (fun c=>?_)
 ·have hk:k < l.length:=by omega
  have ht:=x50 l k hk
  rw [qj2 hk]
  have next:(l[k].1=0∨l[k].1=1∨l[k].1=2)→Tells (bif nul then bif q27 ((k:Int) + 1) then K (true,vq2 kind l[k].1,(k:Int) + 1) else none
    else bif q27 ((k:Int) + 1) then K (l[k].1 == 0,vq2 kind l[k].1,(k:Int) + 1) else none) (ke5 l):=fun h=>by
   have all':∀ v ∈ l.take (k + 1),v.1=0∨v.1=1∨v.1=2:=fun v hv=>by
    rw [ht] at hv
    rcases List.mem_append.1 hv with h1 | h1
    ·exact k3 v h1
    ·simp at h1; subst h1; exact h
   have kk:vq2 kind l[k].1=xw6 (l.take (k + 1)):=by rw [ht,kr7,k2]
   refine Tells.ite (fun c2=>Tells.ok (inI (by omega) (by omega)) (hK _ ⟨k + 1,by dsimp only; omega,by omega,kk,all',?_⟩ (by dsimp only; omega))) (fun c2=>Tells.ok (inI (by omega) (by omega)) (hK _ ⟨k + 1,by dsimp only; omega,by omega,kk,all',?_⟩ (by dsimp only; omega)))
   ·refine ⟨fun _=>?_,fun _=>rfl⟩
    obtain ⟨v,h1,h2⟩:=k4.1 c2
    exact ⟨v,by rw [ht]; exact List.mem_append_left _ h1,h2⟩
   ·dsimp only
    rw [ht]
    refine ⟨fun h1=>⟨l[k],List.mem_append_right _ (List.mem_singleton.2 rfl),by simpa using h1⟩,?_⟩
    rintro ⟨v,h1,h2⟩
    rcases List.mem_append.1 h1 with h1 | h1
    ·have:=k4.2 ⟨v,h1,h2⟩
     rw [c2] at this; cases this
    ·simp at h1; subst h1; simpa using h2
  refine Tells.ok (qu4 (by omega) (by omega)) ?_
  rw [q68,Option.bind_some]
  refine Tells.ite (fun c2=>?_) (fun c2=>next ?_)
  ·have c2:¬ (l[k].1=1∨l[k].1=2):=by simpa using c2
   refine Tells.ite (fun c3=>Tells.some ⟨fun h=>(by cases h),fun _=>.inr ⟨rfl,l[k],List.getElem_mem hk,?_⟩,fun _ h=>(by cases h)⟩) (fun c3=>next ?_)
   ·have c3:l[k].1≠0:=by simpa using c3
    omega
   ·have c3:l[k].1=0:=by simpa using c3
    exact .inl c3
  ·have c2:l[k].1=1∨l[k].1=2:=of_decide_eq_true (by simpa only [Bool.not_eq_false'] using c2)
   omega
 ·have hk:k=l.length:=by omega
  subst hk
  rw [List.take_length] at k2 k3 k4
  refine Tells.ite (fun c2=>Tells.some ⟨fun _=>⟨rfl,k4.1 c2⟩,fun h=>absurd rfl h,fun h=>(by cases h)⟩) (fun c2=>?_)
  have nums:∀ v ∈ l,v.1=1∨v.1=2:=fun v hv=>by
   rcases k3 v hv with h | h | h
   ·have:=k4.2 ⟨v,hv,h⟩
    rw [c2] at this; cases this
   ·exact .inl h
   ·exact .inr h
  refine Tells.iter (fun (e:List q00×Int)=>∃ k:Nat,e.2=k∧k≤l.length∧e.1.length=k∧∀ v ∈ e.1,v.1=xw6 l∧I64 v.2.1∧v.2.2.1=[]) (fun (e:List q00×Int)=>l.length - e.2.toNat) ?_ N _ ⟨0,rfl,by omega,rfl,by simp⟩ (by simpa using hlN)
  rintro K2 ⟨out,i⟩ ⟨k,e1,g1,g2,g3⟩ hK2
  dsimp only at e1 g1 g2 g3 hK2
  subst e1
  unfold qp6
  dsimp only
  refine Tells.dec (fun c=>?_) (fun c=>Tells.some ⟨fun h=>(by cases h),fun h=>absurd rfl h,fun _ _=>⟨by dsimp only; omega,nums,g3⟩⟩)
  have hk:k < l.length:=by omega
  rw [qj2 hk]
  have next:∀ n:Int,I64 n→Tells (bif w33 (out.length + ([(kind,n,[],())]:List q00).length) 4398046511104 then bif q27 ((k:Int) + 1) then K2 ((out ++ ([(kind,n,[],())]:List q00)),(k:Int) + 1) else none else none) (ke5 l):=fun n hn=>by
   refine Tells.ok (yy7 (by simp; omega)) (Tells.ok (inI (by omega) (by omega)) (hK2 _ ⟨k + 1,by dsimp only; omega,by omega,by simp; omega,fun v hv=>?_⟩ (by dsimp only; omega)))
   rcases List.mem_append.1 hv with h1 | h1
   ·exact g3 v h1
   ·simp at h1; subst h1; exact ⟨k2,hn,rfl⟩
  refine Tells.ok (qu4 (by omega) (by omega)) (Tells.ite (fun c3=>?_) (fun c3=>next _ (hi _ (List.getElem_mem hk))))
  obtain ⟨x,e,h1,h2,h3⟩:=dec_is N l[k] (hi _ (List.getElem_mem hk)) (nums _ (List.getElem_mem hk))
  rw [h1,Option.bind_some]
  refine Tells.ite (fun c4=>Tells.some ⟨fun h=>(by cases h),fun h=>.inl ?_,fun _ h=>absurd h (by simpa using c4)⟩) (fun c4=>?_)
  ·by_cases hw:I64 (qi9 l[k])
   ·exact absurd (h2 hw).1 h
   ·exact h3 hw
  ·have c4:e=0:=by simpa using c4
   by_cases hw:I64 (qi9 l[k])
   ·dsimp only
    rw [(h2 hw).2]
    exact next _ hw
   ·have:=h3 hw; omega
structure kd0 (l:List q00) (r:q00×Int×Unit):Prop where
 err:r.2.1≠0→r.1=(0,0,[],())∧(r.2.1=9∨(r.2.1=8∧∃ v ∈ l,¬ (v.1=0∨v.1=1∨v.1=2)))
 ok:r.2.1=0→(r.1=(0,0,[],())∧(l=[]∨∃ v ∈ l,v.1=0))∨((∀ v ∈ l,v.1=1∨v.1=2)∧r.1.1=xw6 l∧I64 r.1.2.1∧r.1.2.2.1=[])
theorem kb5 (c:Int):Tells (qf8 N c l) (kd0 l):=by
 unfold qf8 jg8
 refine Tells.bind (kf8 hN hl hlN hi) fun r hr=>?_
 obtain ⟨xs,nul,e,_⟩:=r
 obtain ⟨h1,h2,h3⟩:=hr
 dsimp only at h1 h2 h3 ⊢
 refine Tells.ite (fun c1=>Tells.some ?_) (fun c1=>Tells.ite (fun c2=>Tells.some ?_) (fun c2=>?_))
 ·obtain ⟨g1,g2⟩:=h1 c1
  exact ⟨fun h=>absurd g1 h,fun _=>.inl ⟨rfl,.inr g2⟩⟩
 ·have c2:e≠0:=by simpa using c2
  exact ⟨fun _=>⟨rfl,h2 c2⟩,fun h=>absurd h c2⟩
 ·have c2:e=0:=by simpa using c2
  obtain ⟨g1,g2,g3⟩:=h3 c1 c2
  refine Tells.ite (fun c3=>Tells.some ⟨fun h=>absurd c2 h,fun _=>.inl ⟨rfl,.inl ?_⟩⟩) (fun c3=>?_)
  ·have c3:xs.length=0:=by simpa using c3
   exact List.eq_nil_of_length_eq_zero (by omega)
  ·have c3:xs.length≠0:=by simpa using c3
   refine Tells.ok (qu4 (by omega) (by omega)) ?_
   have fin:∀ v:q00,v.1=xw6 l∧I64 v.2.1∧v.2.2.1=[]→kd0 l (v,0,()):=fun v hv=>⟨fun h=>absurd rfl h,fun _=>.inr ⟨g2,hv⟩⟩
   refine Tells.iter (fun (e:Int×Int×Int×List UInt8)=>0≤e.1∧e.1≤xs.length∧e.2.1=xw6 l∧I64 e.2.2.1∧e.2.2.2=[]) (fun (e:Int×Int×Int×List UInt8)=>xs.length - e.1.toNat) ?_ N _ ?_ (by dsimp only; omega)
   ·rintro K ⟨i,k,n,s⟩ ⟨k1,k2,k3,k4,k5⟩ hK
    dsimp only at k1 k2 k3 k4 k5 hK
    unfold zv3
    dsimp only
    refine Tells.dec (fun c=>?_) (fun c=>Tells.some (fin _ ⟨k3,k4,k5⟩))
    have hx:=g3 _ (qu8 (d:=q30) k1 c)
    rw [zf1,Option.bind_some]
    refine Tells.ok (qu4 (by omega) (by omega)) (Tells.ite (fun _=>Tells.ok (inI (by omega) (by omega)) (hK _ ⟨by dsimp only; omega,by dsimp only; omega,hx⟩ (by dsimp only; omega))) (fun _=>Tells.ok (inI (by omega) (by omega)) (hK _ ⟨by dsimp only; omega,by dsimp only; omega,k3,k4,k5⟩ (by dsimp only; omega))))
   ·exact ⟨by simp,by simp,g3 _ (qu8 (d:=q30) (by omega) (by omega))⟩
end
end Go.Proofs.YtgicljncknbgcaaGreat.Abs
