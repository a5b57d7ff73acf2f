/- The document's lexer, told exactly of what lies behind a place. -/
import Derived.Test.YtgicljncknbgcaaGreatR1
import Derived.Test.YtgicljncknbgcaaGreatR2
set_option linter.unusedVariables false
set_option linter.unusedSimpArgs false
set_option linter.unusedSectionVars false
namespace Go.Proofs.YtgicljncknbgcaaGreat.Abs
open Go
def y26 (c:UInt8):Bool:=decide (97≤c.toNat∧c.toNat≤122)
def qm1 (c:UInt8):Bool:=decide (48≤c.toNat∧c.toNat≤57)
def j72 :List UInt8→Nat
 | []=>0
 | c :: l=>if y26 c then (List.takeWhile (fun c=>y26 c || qm1 c) (c :: l)).length else 0
def j62 (l:List UInt8):Nat:=(l.takeWhile qm1).length
def va6 (l:List UInt8):Nat :=
 match l.drop (j62 l) with
 | 46 :: c :: r=>if qm1 c then j62 l + 1 + j62 (c :: r) else j62 l
 | _=>j62 l
def badB (c:UInt8):Bool:=decide (c.toNat < 32∨126 < c.toNat)
def um8 :List UInt8→Option Nat
 | []=>none
 | c :: r =>
  if badB c then none
  else if c=34 then some 1
  else if c=92 then match r with
   | []=>none
   | d :: r=>if badB d then none else (um8 r).map (· + 2)
  else (um8 r).map (· + 1)
def v15 (l:List UInt8):Nat:=match l with
 | []=>0
 | c :: r =>
  if (match r with | d :: _=>decide ((c=60∧d=61)∨(c=62∧d=61)∨(c=60∧d=62)∨(c=46∧d=46)) | []=>false) then 2
  else if c=40∨c=41∨c=91∨c=93∨c=44∨c=58∨c=61∨c=60∨c=62∨c=43∨c=45∨c=42∨c=47 then 1 else 0
section
variable {N:Nat} {s:List UInt8} (hN:s.length + 10≤N) (hm:s.length≤1000000)
include hN hm
omit hN hm in
theorem qt1 {a:Nat}(h:a < s.length):∃ c r,s.drop a=c :: r∧q38 s (a:Int)=(c.toNat:Int)∧s.drop (a + 1)=r:=by
 refine ⟨s[a],s.drop (a + 1),List.drop_eq_getElem_cons h,xk2 h,rfl⟩
theorem run_is {a:Nat}(h:a≤s.length):x27 N s (a:Int)=some ((a + j72 (s.drop a):Nat):Int):=by
 refine Tells.get ?_
 have loop:∀ b:Nat,b≤s.length→Tells (q87 (j59 N s) N (b:Int)) fun r=>r=((b + (List.takeWhile (fun c=>y26 c || qm1 c) (s.drop b)).length:Nat):Int):=fun b hb=>by
  refine Tells.iter (fun (i:Int)=>∃ k:Nat,i=k∧b≤k∧k≤s.length∧(List.takeWhile (fun c=>y26 c || qm1 c) (s.drop b)).length=(k - b) + (List.takeWhile (fun c=>y26 c || qm1 c) (s.drop k)).length) (fun (i:Int)=>s.length - i.toNat) ?_ N _ ⟨b,rfl,by omega,hb,by omega⟩ (by omega)
  rintro K i ⟨k,rfl,k1,k2,k3⟩ hK
  unfold j59
  simp only [ja7,qv2,Option.bind_some]
  refine Tells.dec (fun c=>?_) (fun c=>?_)
  ·obtain ⟨x,r,e1,e2,e3⟩:=qt1 (s:=s) (a:=k) (by omega)
   have next:(y26 x || qm1 x)=true→Tells (bif q27 ((k:Int) + 1) then K ((k:Int) + 1) else none) fun r=>r=((b + (List.takeWhile (fun c=>y26 c || qm1 c) (s.drop b)).length:Nat):Int):=fun hx=>by
    refine Tells.ok (inI (by omega) (by omega)) (hK _ ⟨k + 1,by omega,by omega,by omega,?_⟩ (by omega))
    rw [k3,e1,e3,List.takeWhile_cons,hx]
    simp only [if_true,List.length_cons]
    omega
   rw [e2]
   refine Tells.ok (qu4 (by omega) (by omega)) (Tells.dec (fun c1=>next ?_) (fun c1=>Tells.ok (qu4 (by omega) (by omega)) (Tells.dec (fun c2=>next ?_) (fun c2=>Tells.some ?_))))
   ·have:y26 x=true:=decide_eq_true (by omega)
    rw [this]; rfl
   ·have:qm1 x=true:=decide_eq_true (by omega)
    rw [this]; simp
   ·have h1:y26 x=false:=decide_eq_false (by omega)
    have h2:qm1 x=false:=decide_eq_false (by omega)
    rw [k3,e1,List.takeWhile_cons,h1,h2]
    simp only [Bool.or_self,Bool.false_eq_true,if_false,List.length_nil]
    omega
  ·have:k=s.length:=by omega
   subst this
   refine Tells.some ?_
   rw [k3,List.drop_length]
   simp only [List.takeWhile_nil,List.length_nil]
   omega
 unfold x27 v24
 simp only [ja7,Option.bind_some]
 refine Tells.dec (fun c=>?_) (fun c=>?_)
 ·have:a=s.length:=by omega
  subst this
  exact Tells.some (by rw [List.drop_length]; rfl)
 ·obtain ⟨x,r,e1,e2,e3⟩:=qt1 (s:=s) (a:=a) (by omega)
  refine Tells.ok (qu4 (by omega) (by omega)) ?_
  rw [e2]
  have e4:=loop a h
  rw [e1] at e4 ⊢
  unfold j72
  dsimp only
  by_cases hx:y26 x=true
  ·have:97≤x.toNat∧x.toNat≤122:=of_decide_eq_true hx
   rw [if_pos hx]
   refine Tells.no (by rw [decide_eq_true (by omega)]; rfl) e4
  ·have:¬ (97≤x.toNat∧x.toNat≤122):=fun h=>hx (decide_eq_true h)
   rw [if_neg hx]
   exact Tells.ok (by rw [decide_eq_false (by omega)]; rfl) (Tells.some rfl)
theorem dig_loop (body:(Int→Option Int)→Int→Option Int) (hb:∀ K (i:Int),body K i=bif decide (i < (s.length:Int)) then
   bif inR i s.length then
   (wc2 N (q38 s i)).bind fun (r2:Bool) =>
   bif r2 then
    bif q27 (i + 1) then
    K (i + 1)
    else none
   else
    some i
   else none
  else
   some i) {b:Nat} (hb2:b≤s.length):q87 body N (b:Int)=some ((b + j62 (s.drop b):Nat):Int):=by
 refine Tells.get ?_
 refine Tells.iter (fun (i:Int)=>∃ k:Nat,i=k∧b≤k∧k≤s.length∧j62 (s.drop b)=(k - b) + j62 (s.drop k)) (fun (i:Int)=>s.length - i.toNat) ?_ N _ ⟨b,rfl,by omega,hb2,by omega⟩ (by omega)
 rintro K i ⟨k,rfl,k1,k2,k3⟩ hK
 rw [hb]
 simp only [qv2,Option.bind_some]
 refine Tells.dec (fun c=>?_) (fun c=>?_)
 ·obtain ⟨x,r,e1,e2,e3⟩:=qt1 (s:=s) (a:=k) (by omega)
  rw [e2]
  refine Tells.ok (qu4 (by omega) (by omega)) (Tells.dec (fun c1=>?_) (fun c1=>Tells.some ?_))
  ·have hx:qm1 x=true:=decide_eq_true (by omega)
   refine Tells.ok (inI (by omega) (by omega)) (hK _ ⟨k + 1,by omega,by omega,by omega,?_⟩ (by omega))
   rw [k3,e1,e3]
   unfold j62
   rw [List.takeWhile_cons,hx]
   simp only [if_true,List.length_cons]
   omega
  ·have hx:qm1 x=false:=decide_eq_false (by omega)
   rw [k3,e1]
   unfold j62
   rw [List.takeWhile_cons,hx]
   simp only [Bool.false_eq_true,if_false,List.length_nil]
   omega
 ·have:k=s.length:=by omega
  subst this
  refine Tells.some ?_
  rw [k3,List.drop_length]
  unfold j62
  simp only [List.takeWhile_nil,List.length_nil]
  omega
omit hN hm in
theorem ke3 (l:List UInt8):j62 l≤l.length:=(List.takeWhile_sublist qm1).length_le
omit hN hm in
theorem digN_end (l:List UInt8):match l.drop (j62 l) with | []=>True | c :: _=>qm1 c=false:=by
 unfold j62
 induction l with
 | nil=>simp
 | cons c l ih =>
  rw [List.takeWhile_cons]
  by_cases h:qm1 c=true
  ·simp only [h,if_true,List.length_cons,List.drop_succ_cons]; exact ih
  ·have h:qm1 c=false:=by simpa using h
   simp only [h,Bool.false_eq_true,if_false,List.length_nil,List.drop_zero]
theorem number_is {a:Nat}(h:a≤s.length):wx6 N s (a:Int)=some ((a + va6 (s.drop a):Nat):Int):=by
 refine Tells.get ?_
 unfold wx6 jc3
 refine Tells.iter (fun (i:Int)=>∃ k:Nat,i=k∧a≤k∧k≤s.length∧j62 (s.drop a)=(k - a) + j62 (s.drop k)) (fun (i:Int)=>s.length - i.toNat) ?_ N _ ⟨a,rfl,by omega,h,by omega⟩ (by omega)
 rintro K i ⟨k,rfl,k1,k2,k3⟩ hK
 unfold wu6 zg6
 simp only [qv2,Option.bind_some]
 have hdrop:(j62 (s.drop k)=0)→(s.drop a).drop (j62 (s.drop a))=s.drop k:=fun h0=>by rw [List.drop_drop,k3,h0]; congr 1; omega
 -- the digits end here
 have fin:j62 (s.drop k)=0→Tells (bif q27 ((k:Int) + 1) then
    bif decide (((k:Int) + 1) ≥ (s.length:Int)) then
     some (k:Int)
    else
     bif inR (k:Int) s.length then
     bif ((q38 s (k:Int)) != 46) then
      some (k:Int)
     else
      bif q27 ((k:Int) + 1) then
      bif inR ((k:Int) + 1) s.length then
      bif (!decide (48≤q38 s ((k:Int) + 1)∧q38 s ((k:Int) + 1)≤57)) then
       some (k:Int)
      else
       bif q27 ((k:Int) + 1) then
       q87 (w32 N s) N ((k:Int) + 1)
       else none
      else none
      else none
     else none
    else none) fun r=>r=((a + va6 (s.drop a):Nat):Int):=fun h0=>by
  have hk:j62 (s.drop a)=k - a:=by omega
  have num:va6 (s.drop a)=match s.drop k with
    | 46 :: c :: r=>if qm1 c then j62 (s.drop a) + 1 + j62 (c :: r) else j62 (s.drop a)
    | _=>j62 (s.drop a):=by unfold va6; rw [hdrop h0]
  have plain:va6 (s.drop a)=j62 (s.drop a)→((k:Int)=((a + va6 (s.drop a):Nat):Int)):=fun h=>by rw [h,hk]; omega
  refine Tells.ok (inI (by omega) (by omega)) (Tells.dec (fun c=>Tells.some (plain ?_)) (fun c=>?_))
  ·rw [num]
   have hl:(s.drop k).length≤1:=by simp; omega
   split
   ·rename_i c r e; rw [e] at hl; simp at hl
   ·rfl
  ·obtain ⟨x,r,e1,e2,e3⟩:=qt1 (s:=s) (a:=k) (by omega)
   obtain ⟨y,r',f1,f2,f3⟩:=qt1 (s:=s) (a:=k + 1) (by omega)
   have f2:q38 s ((k:Int) + 1)=(y.toNat:Int):=by rw [← f2]; rfl
   have e4:s.drop k=x :: y :: r':=by rw [e1,← e3,f1]
   rw [e2,f2]
   refine Tells.ok (qu4 (by omega) (by omega)) (Tells.ite (fun c1=>Tells.some (plain ?_)) (fun c1=>?_))
   ·rw [num,e4]
    split
    ·rename_i c r e
     simp only [List.cons.injEq] at e
     rw [e.1] at c1
     simp at c1
    ·rfl
   ·have hx:x=46:=by
     have:(x.toNat:Int)=46:=by simpa using c1
     exact UInt8.toNat_inj.1 (by simp; omega)
    subst hx
    refine Tells.ok (inI (by omega) (by omega)) (Tells.ok (qu4 (by omega) (by omega)) (Tells.ite (fun c2=>Tells.some (plain ?_)) (fun c2=>Tells.ok (inI (by omega) (by omega)) ?_)))
    ·have hy:qm1 y=false:=decide_eq_false (by
      have c2:=Bool.not_eq_true' _ ▸ c2
      have:=of_decide_eq_false c2
      omega)
     rw [num,e4]
     simp only [hy,Bool.false_eq_true,if_false]
    ·have hy:qm1 y=true:=decide_eq_true (by
      have c2:decide (48≤(y.toNat:Int)∧(y.toNat:Int)≤57)=true:=by simpa using c2
      have:=of_decide_eq_true c2
      omega)
     have:=dig_loop hN hm (w32 N s) (fun K i=>rfl) (b:=k + 1) (by omega)
     have e5:((k + 1:Nat):Int)=(k:Int) + 1:=by omega
     rw [e5] at this
     rw [this]
     refine Tells.some ?_
     have hn:va6 (s.drop a)=j62 (s.drop a) + 1 + j62 (y :: r'):=by
      rw [num,e4]
      simp only [hy,if_true]
     rw [hn,f1]
     omega
 refine Tells.dec (fun c=>?_) (fun c=>?_)
 ·obtain ⟨x,r,e1,e2,e3⟩:=qt1 (s:=s) (a:=k) (by omega)
  refine Tells.ok (qu4 (by omega) (by omega)) (Tells.dec (fun c1=>?_) (fun c1=>?_))
  ·rw [e2] at c1
   have hx:qm1 x=true:=decide_eq_true (by omega)
   refine Tells.ok (inI (by omega) (by omega)) (hK _ ⟨k + 1,by omega,by omega,by omega,?_⟩ (by omega))
   rw [k3,e1,e3]
   unfold j62
   rw [List.takeWhile_cons,hx]
   simp only [if_true,List.length_cons]
   omega
  ·rw [e2] at c1
   have hx:qm1 x=false:=decide_eq_false (by omega)
   refine fin ?_
   rw [e1]
   unfold j62
   rw [List.takeWhile_cons,hx]
   rfl
 ·have e3:@wz7=@w32:=rfl
  rw [e3]
  refine fin ?_
  rw [List.drop_eq_nil_of_le (by omega)]
  rfl
theorem quoted_is {a:Nat}(h:a < s.length):wb5 N s (a:Int)=some (match um8 (s.drop (a + 1)) with | some n=>((a + 1 + n:Nat):Int) | none=>-1):=by
 refine Tells.get ?_
 unfold wb5 jb9
 refine Tells.ok (inI (by omega) (by omega)) ?_
 generalize hR:(match um8 (s.drop (a + 1)) with | some n=>((a + 1 + n:Nat):Int) | none=>-1)=R
 refine Tells.iter (fun (i:Int)=>∃ k:Nat,i=k∧k≤s.length + 1∧(match um8 (s.drop k) with | some n=>((k + n:Nat):Int) | none=>-1)=R) (fun (i:Int)=>s.length + 1 - i.toNat) ?_ N _ ⟨a + 1,by omega,by omega,hR⟩ (by omega)
 rintro K i ⟨k,rfl,k1,k2⟩ hK
 unfold zs3
 refine Tells.dec (fun c=>?_) (fun c=>?_)
 ·obtain ⟨x,r,e1,e2,e3⟩:=qt1 (s:=s) (a:=k) (by omega)
  have rt:inR (k:Int) s.length=true:=qu4 (by omega) (by omega)
  rw [e2]
  rw [e1] at k2
  unfold um8 at k2
  have bad:badB x=true→R=-1:=fun h=>by rw [if_pos h] at k2; exact k2.symm
  refine Tells.ok rt (Tells.dec (fun c1=>Tells.some (bad (decide_eq_true (by omega))).symm) (fun c1=>Tells.ok rt (Tells.dec (fun c2=>Tells.some (bad (decide_eq_true (by omega))).symm) (fun c2=>?_))))
  have hb:badB x=false:=decide_eq_false (by omega)
  rw [hb,if_neg (by simp)] at k2
  have x34:∀ n:UInt8,((x.toNat:Int) == (n.toNat:Int))=decide (x=n):=fun n=>by
   by_cases e:x=n
   ·simp [e]
   ·have:¬ (x.toNat:Int)=(n.toNat:Int):=fun h=>e (UInt8.toNat_inj.1 (by omega))
    simp [e,this]
  have z34:((x.toNat:Int) == 34)=decide (x=34):=x34 34
  have z92:((x.toNat:Int) == 92)=decide (x=92):=x34 92
  rw [z34,z92]
  refine Tells.ok rt (Tells.dec (fun c3=>?_) (fun c3=>?_))
  ·rw [if_pos c3] at k2
   exact Tells.ok (inI (by omega) (by omega)) (Tells.some (by rw [← k2]; simp))
  ·rw [if_neg c3] at k2
   refine Tells.ok rt (Tells.dec (fun c4=>?_) (fun c4=>?_))
   ·rw [if_pos c4] at k2
    refine Tells.ok (inI (by omega) (by omega)) (Tells.dec (fun c5=>?_) (fun c5=>?_))
    ·obtain ⟨y,r',f1,f2,f3⟩:=qt1 (s:=s) (a:=k + 1) (by omega)
     have f2:q38 s ((k:Int) + 1)=(y.toNat:Int):=by rw [← f2]; rfl
     have er:r=y :: r':=by rw [← e3,f1]
     rw [er] at k2
     dsimp only at k2
     rw [f2]
     have bad2:badB y=true→R=-1:=fun h=>by rw [if_pos h] at k2; exact k2.symm
     have rt2:inR ((k:Int) + 1) s.length=true:=qu4 (by omega) (by omega)
     refine Tells.ok rt2 (Tells.dec (fun c6=>Tells.some (bad2 (decide_eq_true (by omega))).symm) (fun c6=>Tells.ok rt2 (Tells.dec (fun c7=>Tells.some (bad2 (decide_eq_true (by omega))).symm) (fun c7=>Tells.ok (inI (by omega) (by omega)) (hK _ ⟨k + 2,by omega,by omega,?_⟩ (by omega))))))
     have hb2:badB y=false:=decide_eq_false (by omega)
     rw [hb2,if_neg (by simp)] at k2
     rw [f3,← k2]
     cases um8 r' with
     | none=>rfl
     | some n =>
      show ((k + 2 + n:Nat):Int)=((k + (n + 2):Nat):Int)
      rw [show k + 2 + n=k + (n + 2) by omega]
    ·have er:r=[]:=by rw [← e3,List.drop_eq_nil_of_le (by omega)]
     rw [er] at k2
     refine Tells.ok (inI (by omega) (by omega)) (hK _ ⟨k + 2,by omega,by omega,?_⟩ (by omega))
     rw [List.drop_eq_nil_of_le (by omega)]
     exact k2
   ·rw [if_neg c4] at k2
    refine Tells.ok (inI (by omega) (by omega)) (hK _ ⟨k + 1,by omega,by omega,?_⟩ (by omega))
    rw [e3,← k2]
    cases um8 r with
    | none=>rfl
    | some n =>
     show ((k + 1 + n:Nat):Int)=((k + (n + 1):Nat):Int)
     rw [show k + 1 + n=k + (n + 1) by omega]
 ·rw [List.drop_eq_nil_of_le (by omega)] at k2
  exact Tells.some k2
theorem signed_is {a:Nat}(h:a < s.length):wz3 N s (a:Int)=some (if v15 (s.drop a)=0 then -1 else ((a + v15 (s.drop a):Nat):Int)):=by
 obtain ⟨x,r,e1,e2,e3⟩:=qt1 (s:=s) (a:=a) h
 have bq:∀ n:UInt8,((x.toNat:Int) == (n.toNat:Int))=decide (x=n):=fun n=>by
  by_cases e:x=n
  ·simp [e]
  ·have:¬ (x.toNat:Int)=(n.toNat:Int):=fun h=>e (UInt8.toNat_inj.1 (by omega))
   simp [e,this]
 have rt:inR (a:Int) s.length=true:=qu4 (by omega) (by omega)
 have i1:q27 ((a:Int) + 1)=true:=inI (by omega) (by omega)
 have i2:q27 ((a:Int) + 2)=true:=inI (by omega) (by omega)
 have one:∀ q:Bool,(∀ d r',r=d :: r'→¬ ((x=60∧d=61)∨(x=62∧d=61)∨(x=60∧d=62)∨(x=46∧d=46)))→wg6 N s (a:Int) ()=some (if v15 (s.drop a)=0 then -1 else ((a + v15 (s.drop a):Nat):Int)):=fun _ hd=>by
  have hs:v15 (s.drop a)=if x=40∨x=41∨x=91∨x=93∨x=44∨x=58∨x=61∨x=60∨x=62∨x=43∨x=45∨x=42∨x=47 then 1 else 0:=by
   rw [e1]
   unfold v15
   dsimp only
   rw [if_neg]
   cases r with
   | nil=>simp
   | cons d r'=>simpa using hd d r' rfl
  have q:∀ (n:UInt8) (m:Int),(n.toNat:Int)=m→((x.toNat:Int) == m)=decide (x=n):=fun n m h=>by rw [← h]; exact bq n
  unfold wg6
  rw [rt,cond_true,e2,q 40 40 rfl,q 41 41 rfl,q 91 91 rfl,q 93 93 rfl,q 44 44 rfl,q 58 58 rfl,q 61 61 rfl,q 60 60 rfl,q 62 62 rfl,q 43 43 rfl,q 45 45 rfl,q 42 42 rfl,q 47 47 rfl,i1]
  simp only [cond_true,Bool.cond_decide]
  have a1:((a + 1:Nat):Int)=(a:Int) + 1:=by omega
  by_cases h1:x=40∨x=41∨x=91∨x=93∨x=44∨x=58∨x=61∨x=60∨x=62∨x=43∨x=45∨x=42∨x=47
  ·rw [if_pos h1] at hs
   rw [hs,if_neg (show ¬ (1:Nat)=0 by omega),a1]
   rcases h1 with h | h | h | h | h | h | h | h | h | h | h | h | h <;> subst h <;> simp (decide:=true)
  ·rw [if_neg h1] at hs
   rw [hs,if_pos rfl]
   simp only [not_or] at h1
   obtain ⟨g1,g2,g3,g4,g5,g6,g7,g8,g9,g10,g11,g12,g13⟩:=h1
   simp only [g1,g2,g3,g4,g5,g6,g7,g8,g9,g10,g11,g12,g13,or_self,if_false,if_true]
 unfold wz3 j76
 dsimp only
 rw [qb8 (by omega),i1,cond_true]
 by_cases c:(a:Int) + 1 < (s.length:Int)
 ·obtain ⟨y,r',f1,f2,f3⟩:=qt1 (s:=s) (a:=a + 1) (by omega)
  have er:r=y :: r':=by rw [← e3,f1]
  have sl:(s.take ((a:Int) + 2).toNat).drop ((a:Int)).toNat=[x,y]:=by
   have e5:((a:Int) + 2).toNat=a + 2:=by omega
   rw [e5,Int.toNat_natCast,List.drop_take,e1,er,show a + 2 - a=2 by omega]
   rfl
  rw [decide_eq_true c,cond_true,i2,cond_true,x95 (by omega) (by omega) (by omega),cond_true,sl]
  have two:∀ u v:UInt8,(([x,y]:List UInt8) == [u,v])=decide (x=u∧y=v):=fun u v=>by
   by_cases hh:x=u∧y=v
   ·simp [hh]
   ·rw [decide_eq_false hh,beq_eq_false_iff_ne]
    intro h; simp at h; exact hh h
  rw [two,two,two,two]
  simp only [cond_true,Bool.cond_decide]
  by_cases h2:(x=60∧y=61)∨(x=62∧y=61)∨(x=60∧y=62)∨(x=46∧y=46)
  ·have hs:v15 (s.drop a)=2:=by
    rw [e1,er]
    unfold v15
    dsimp only
    rw [if_pos (decide_eq_true h2)]
   rw [hs,if_neg (show ¬ (2:Nat)=0 by omega)]
   have a2:((a + 2:Nat):Int)=(a:Int) + 2:=by omega
   rw [a2]
   rcases h2 with ⟨rfl,rfl⟩ | ⟨rfl,rfl⟩ | ⟨rfl,rfl⟩ | ⟨rfl,rfl⟩ <;> simp (decide:=true)
  ·have:=one true (fun d r2 hd=>by rw [er] at hd; simp only [List.cons.injEq] at hd; rw [← hd.1]; exact h2)
   rw [this]
   simp only [not_or] at h2
   obtain ⟨g1,g2,g3,g4⟩:=h2
   rw [if_neg g1,if_neg g2,if_neg g3,if_neg g4]
 ·rw [decide_eq_false c,cond_false]
  refine one true (fun d r2 hd=>?_)
  have:r.length=s.length - (a + 1):=by rw [← e3]; simp
  rw [hd] at this
  simp at this
  omega
end
abbrev tk (k:Int)(t:List UInt8)(v:q00):q33:=(k,t,v,(0,0,()),())
def parF (N:Nat)(l:List UInt8):Option q00:=match wu5 N l with
 | some r=>if r.2.1=0 then some r.1 else none
 | none=>none
def yl7 (N:Nat):List UInt8→Option (q33×Nat)
 | []=>none
 | c :: r =>
  if 0 < j72 (c :: r) then if 12 < j72 (c :: r) then none else some (tk 1 ((c :: r).take (j72 (c :: r))) v0,j72 (c :: r))
  else if c=63∨c=35 then
   if 12 < (r.take (j72 r)).length∨(c=35∧r.take (j72 r)=[]) then none
   else if c=35 then some (tk 6 (r.take (j72 r)) (5,0,r.take (j72 r),()),1 + j72 r)
   else if r.take (j72 r)=[] then some (tk 3 [] v0,1 + j72 r) else some (tk 2 (r.take (j72 r)) v0,1 + j72 r)
  else if qm1 c then (parF N ((c :: r).take (va6 (c :: r)))).map fun v=>(tk 4 ((c :: r).take (va6 (c :: r))) v,va6 (c :: r))
  else if c=34 then (um8 r).bind fun n=>(parF N ((c :: r).take (1 + n))).map fun v=>(tk 5 (r.take (n - 1)) v,1 + n)
  else if v15 (c :: r)=0 then none else some (tk 7 ((c :: r).take (v15 (c :: r))) v0,v15 (c :: r))
theorem qy2 (s:List UInt8)(a n:Nat):(s.take ((a + n:Nat):Int).toNat).drop ((a:Int)).toNat=(s.drop a).take n:=by
 rw [Int.toNat_natCast,Int.toNat_natCast,List.drop_take,show a + n - a=n by omega]
theorem xh8 (l:List UInt8):j72 l≤l.length:=by
 cases l with
 | nil=>simp [j72]
 | cons c r =>
  unfold j72
  dsimp only
  split
  ·exact (List.takeWhile_sublist _).length_le
  ·simp
theorem kg3 (l:List UInt8):va6 l≤l.length:=by
 unfold va6
 have h:=ke3 l
 split
 ·rename_i c r e
  have e2:=congrArg List.length e
  rw [List.length_drop] at e2
  simp only [List.length_cons] at e2
  have:=ke3 (c :: r)
  simp only [List.length_cons] at this
  split <;> omega
 ·exact h
theorem v63 :∀ (l:List UInt8) (n:Nat),um8 l=some n→1≤n∧n≤l.length
 | [],n,h=>by simp [um8] at h
 | c :: r,n,h=>by
  unfold um8 at h
  split at h
  ·cases h
  split at h
  ·cases h; simp
  split at h
  ·cases r with
   | nil=>cases h
   | cons d r =>
    dsimp only at h
    split at h
    ·cases h
    ·rw [Option.map_eq_some_iff] at h
     obtain ⟨m,h1,rfl⟩:=h
     have:=v63 r m h1
     simp; omega
  ·rw [Option.map_eq_some_iff] at h
   obtain ⟨m,h1,rfl⟩:=h
   have:=v63 r m h1
   simp; omega
theorem ke6 (l:List UInt8):v15 l≤l.length:=by
 cases l with
 | nil=>simp [v15]
 | cons c r =>
  have one:∀ p:Prop,[Decidable p]→(if p then 1 else 0)≤(c :: r).length:=fun p _=>by split <;> simp
  unfold v15
  cases r with
  | nil=>exact one _
  | cons d r =>
   dsimp only
   split
   ·simp
   ·exact one _
section
variable {N:Nat} {s:List UInt8} (hN:s.length + 10≤N) (hm:s.length≤1000000)
include hN hm
theorem Word_is {a:Nat}(h:a < s.length){r:q33×Int×Int×Unit}(hr:j82 N s (a:Int)=some r)(h0:r.2.2.1=0):∃ n,yl7 N (s.drop a)=some (r.1,n)∧r.2.1=((a + n:Nat):Int)∧0 < n∧a + n≤s.length:=by
 obtain ⟨x,q,e1,e2,e3⟩:=qt1 (s:=s) (a:=a) h
 have hlen:(s.drop a).length=s.length - a:=by simp
 have hql:q.length=s.length - (a + 1):=by rw [← e3]; simp
 have bq:∀ (n:UInt8) (m:Int),(n.toNat:Int)=m→((x.toNat:Int) == m)=decide (x=n):=fun n m hm=>by
  rw [← hm]
  by_cases e:x=n
  ·simp [e]
  ·have:¬ (x.toNat:Int)=(n.toNat:Int):=fun h=>e (UInt8.toNat_inj.1 (by omega))
   simp [e,this]
 unfold j82 yw0 at hr
 rw [qu4 (by omega) (by omega),cond_true,run_is hN hm (by omega),Option.bind_some] at hr
 have hrun:=xh8 (s.drop a)
 by_cases c1:0 < j72 (s.drop a)
 ·rw [decide_eq_true (by omega),cond_true,inI (by omega) (by omega),cond_true] at hr
  by_cases c2:12 < j72 (s.drop a)
  ·rw [decide_eq_true (by omega),cond_true] at hr
   cases hr; simp at h0
  ·rw [decide_eq_false (by omega),cond_false,x95 (by omega) (by omega) (by omega),cond_true,qy2] at hr
   cases hr
   refine ⟨j72 (s.drop a),?_,rfl,c1,by omega⟩
   rw [e1] at c1 c2 ⊢
   unfold yl7
   dsimp only
   rw [if_pos c1,if_neg c2]
 rw [decide_eq_false (by omega),cond_false,e2,bq 63 63 rfl,bq 35 35 rfl,Bool.cond_decide,Bool.cond_decide] at hr
 have b1:(x=63∨x=35)→at1 N (wq3 N s (a:Int) (x.toNat:Int) ())=some r→∃ n,yl7 N (s.drop a)=some (r.1,n)∧r.2.1=((a + n:Nat):Int)∧0 < n∧a + n≤s.length:=fun hx hr=>by
  rw [qb8 (by omega)] at hr
  unfold wq3 je9 at hr
  have ea:(a:Int) + 1=((a + 1:Nat):Int):=by omega
  have hq:=xh8 q
  rw [inI (by omega) (by omega),cond_true,ea,run_is hN hm (by omega),e3,Option.bind_some,cond_true,x95 (by omega) (by omega) (by omega),cond_true,qy2,e3] at hr
  dsimp only at hr
  rw [qb8 (by omega)] at hr
  unfold zy9 at hr
  rw [bq 35 35 rfl] at hr
  simp only [Bool.cond_decide] at hr
  have hw:yl7 N (s.drop a)=if 12 < (q.take (j72 q)).length∨(x=35∧q.take (j72 q)=[]) then none
   else if x=35 then some (tk 6 (q.take (j72 q)) (5,0,q.take (j72 q),()),1 + j72 q)
   else if q.take (j72 q)=[] then some (tk 3 [] v0,1 + j72 q) else some (tk 2 (q.take (j72 q)) v0,1 + j72 q):=by
   rw [e1] at c1 ⊢
   unfold yl7
   dsimp only
   rw [if_neg c1,if_pos hx]
  rw [hw]
  generalize q.take (j72 q)=name at hr ⊢
  have le:∀ l:List UInt8,(l == ([]:List UInt8))=decide (l=[]):=fun l=>by cases l <;> simp
  rw [le] at hr
  simp only [Bool.cond_decide] at hr
  by_cases c3:12 < name.length
  ·rw [if_pos (show (name.length:Int) > 12 by omega)] at hr
   cases hr; simp at h0
  ·rw [if_neg (show ¬ (name.length:Int) > 12 by omega)] at hr
   by_cases c4:x=35
   ·rw [if_pos c4] at hr
    by_cases c5:name=[]
    ·rw [if_pos c5] at hr
     cases hr; simp at h0
    ·rw [if_neg c5,if_pos c4] at hr
     cases hr
     refine ⟨1 + j72 q,?_,by dsimp only; omega,by omega,by omega⟩
     rw [if_neg (by simp [c3,c5]),if_pos c4]
   ·rw [if_neg c4,if_neg c4] at hr
    by_cases c5:name=[]
    ·rw [if_pos c5] at hr
     cases hr
     refine ⟨1 + j72 q,?_,by dsimp only; omega,by omega,by omega⟩
     rw [if_neg (by simp [c3,c4]),if_neg c4,if_pos c5]
    ·rw [if_neg c5] at hr
     cases hr
     refine ⟨1 + j72 q,?_,by dsimp only; omega,by omega,by omega⟩
     rw [if_neg (by simp [c3,c4]),if_neg c4,if_neg c5]
 by_cases c2:x=63
 ·rw [if_pos c2] at hr
  exact b1 (.inl c2) hr
 rw [if_neg c2] at hr
 by_cases c3:x=35
 ·rw [if_pos c3] at hr
  exact b1 (.inr c3) hr
 rw [if_neg c3,qv2,Option.bind_some] at hr
 have hw:yl7 N (s.drop a)=if qm1 x then (parF N ((x :: q).take (va6 (x :: q)))).map fun v=>(tk 4 ((x :: q).take (va6 (x :: q))) v,va6 (x :: q))
  else if x=34 then (um8 q).bind fun n=>(parF N ((x :: q).take (1 + n))).map fun v=>(tk 5 (q.take (n - 1)) v,1 + n)
  else if v15 (x :: q)=0 then none else some (tk 7 ((x :: q).take (v15 (x :: q))) v0,v15 (x :: q)):=by
  rw [e1] at c1 ⊢
  unfold yl7
  dsimp only
  rw [if_neg c1,if_neg (by simp [c2,c3])]
 rw [hw]
 have hxl:(x :: q).length=s.length - a:=by rw [← e1]; simp
 by_cases c4:qm1 x=true
 ·have hd:48≤x.toNat∧x.toNat≤57:=of_decide_eq_true c4
  have hn:=kg3 (x :: q)
  rw [decide_eq_true (by omega),cond_true,number_is hN hm (by omega),Option.bind_some,x95 (by omega) (by rw [e1]; omega) (by rw [e1]; omega),cond_true,qy2,e1] at hr
  rw [if_pos c4]
  unfold parF
  have pos:0 < va6 (x :: q):=by
   have:0 < j62 (x :: q):=by unfold j62; rw [List.takeWhile_cons,c4]; simp
   unfold va6
   split
   ·split <;> omega
   ·exact this
  cases hp:wu5 N ((x :: q).take (va6 (x :: q))) with
  | none=>rw [hp] at hr; cases hr
  | some p =>
   rw [hp,Option.bind_some] at hr
   dsimp only
   by_cases c5:p.2.1=0
   ·have t1:(p.2.1 == 9)=false:=by rw [c5]; rfl
    have t2:(p.2.1 != 0)=false:=by rw [c5]; rfl
    rw [t1,cond_false,t2,cond_false,cond_true] at hr
    cases hr
    rw [if_pos c5]
    exact ⟨va6 (x :: q),rfl,rfl,pos,by omega⟩
   ·exfalso
    by_cases c6:p.2.1=9
    ·have t1:(p.2.1 == 9)=true:=by rw [c6]; rfl
     rw [t1,cond_true] at hr
     cases hr
     exact c5 h0
    ·have t1:(p.2.1 == 9)=false:=by simpa using c6
     have t2:(p.2.1 != 0)=true:=by simpa using c5
     rw [t1,cond_false,t2,cond_true] at hr
     cases hr; simp at h0
 rw [if_neg c4]
 have hd:¬ (48≤x.toNat∧x.toNat≤57):=fun h=>c4 (decide_eq_true h)
 rw [decide_eq_false (by omega),cond_false,bq 34 34 rfl,Bool.cond_decide] at hr
 by_cases c5:x=34
 ·rw [if_pos c5] at hr ⊢
  have hqo:=quoted_is hN hm h
  rw [e3] at hqo
  cases hq:um8 q with
  | none =>
   have hqo:wb5 N s (a:Int)=some (-1):=by rw [hqo,hq]
   rw [hqo,Option.bind_some,decide_eq_true (by omega),cond_true] at hr
   cases hr; simp at h0
  | some n =>
   obtain ⟨n1,n2⟩:=v63 q n hq
   have hqo:wb5 N s (a:Int)=some ((a + (1 + n):Nat):Int):=by
    rw [hqo,hq]
    show some ((a + 1 + n:Nat):Int)=_
    rw [show a + 1 + n=a + (1 + n) by omega]
   rw [hqo,Option.bind_some,decide_eq_false (by omega),cond_false,x95 (by omega) (by omega) (by omega),cond_true,qy2,e1] at hr
   rw [Option.bind_some]
   unfold parF
   cases hp:wu5 N ((x :: q).take (1 + n)) with
   | none=>rw [hp] at hr; cases hr
   | some p =>
    rw [hp,Option.bind_some] at hr
    dsimp only
    by_cases c6:p.2.1=0
    ·have t2:(p.2.1 != 0)=false:=by rw [c6]; rfl
     rw [t2,cond_false,inI (by omega) (by omega),cond_true,inI (by omega) (by omega),cond_true,x95 (by omega) (by omega) (by omega),cond_true] at hr
     have eb:((a + (1 + n):Nat):Int) - 1=((a + 1 + (n - 1):Nat):Int):=by omega
     have ec:(a:Int) + 1=((a + 1:Nat):Int):=by omega
     rw [eb,ec,qy2,e3] at hr
     cases hr
     rw [if_pos c6]
     exact ⟨1 + n,rfl,rfl,by omega,by omega⟩
    ·exfalso
     have t2:(p.2.1 != 0)=true:=by simpa using c6
     rw [t2,cond_true] at hr
     cases hr; simp at h0
 ·rw [if_neg c5] at hr ⊢
  rw [signed_is hN hm h,Option.bind_some,e1] at hr
  have hsg:=ke6 (x :: q)
  by_cases c6:v15 (x :: q)=0
  ·rw [if_pos c6,decide_eq_true (by omega),cond_true] at hr
   cases hr; simp at h0
  ·rw [if_neg c6,decide_eq_false (by omega),cond_false,x95 (by omega) (by omega) (by omega),cond_true,qy2,e1] at hr
   cases hr
   rw [if_neg c6]
   exact ⟨v15 (x :: q),rfl,rfl,by omega,by omega⟩
end
def bare (t:q33):q33:=(t.1,t.2.1,t.2.2.1,(0,0,()),())
def kd5 (c:UInt8):Bool:=decide (c≠10)
inductive Lx (N:Nat):List UInt8→List q33→Prop
 | done:Lx N [] []
 | space {r l}:Lx N r l→Lx N (32 :: r) l
 | line {r l}:Lx N r l→Lx N (10 :: r) l
 | com {r l}:Lx N (r.dropWhile kd5) l→Lx N (59 :: r) l
 | tok {c r t n l}:c≠32→c≠10→c≠59→yl7 N (c :: r)=some (t,n)→Lx N ((c :: r).drop n) l→Lx N (c :: r) (t :: l)
theorem vn2 {N:Nat}{l:List UInt8}{t:q33}{n:Nat}(h:yl7 N l=some (t,n)):0 < n∧n≤l.length∧bare t=t:=by
 cases l with
 | nil=>cases h
 | cons c r =>
  unfold yl7 at h
  dsimp only at h
  have h1:=xh8 (c :: r)
  have h2:=xh8 r
  have h3:=kg3 (c :: r)
  have h4:=ke6 (c :: r)
  have hl:(c :: r).length=r.length + 1:=rfl
  split at h
  ·split at h
   ·cases h
   ·cases h; exact ⟨by assumption,h1,rfl⟩
  split at h
  ·split at h
   ·cases h
   split at h
   ·cases h; exact ⟨by omega,by omega,rfl⟩
   split at h
   ·cases h; exact ⟨by omega,by omega,rfl⟩
   ·cases h; exact ⟨by omega,by omega,rfl⟩
  split at h
  ·rename_i hd
   rw [Option.map_eq_some_iff] at h
   obtain ⟨v,_,h⟩:=h
   cases h
   refine ⟨?_,h3,rfl⟩
   have:0 < j62 (c :: r):=by unfold j62; rw [List.takeWhile_cons,hd]; simp
   unfold va6
   split
   ·split <;> omega
   ·exact this
  split at h
  ·rw [Option.bind_eq_some_iff] at h
   obtain ⟨m,h5,h⟩:=h
   rw [Option.map_eq_some_iff] at h
   obtain ⟨v,_,h⟩:=h
   cases h
   have:=v63 r m h5
   exact ⟨by omega,by omega,rfl⟩
  split at h
  ·cases h
  ·cases h; exact ⟨by omega,h4,rfl⟩
theorem Lx.det {N:Nat}{s:List UInt8}{l:List q33}(h:Lx N s l):∀ {l':List q33},Lx N s l'→l=l':=by
 induction h with
 | done=>intro l' h'; cases h'; rfl
 | space _ ih =>
  intro l' h'
  cases h' with
  | space h'=>exact ih h'
  | tok h1=>exact absurd rfl h1
 | line _ ih =>
  intro l' h'
  cases h' with
  | line h'=>exact ih h'
  | tok _ h1=>exact absurd rfl h1
 | com _ ih =>
  intro l' h'
  cases h' with
  | com h'=>exact ih h'
  | tok _ _ h1=>exact absurd rfl h1
 | tok h1 h2 h3 h4 h5 ih =>
  intro l' h'
  cases h' with
  | space _=>exact absurd rfl h1
  | line _=>exact absurd rfl h2
  | com _=>exact absurd rfl h3
  | tok _ _ _ g4 g5 =>
   rw [h4] at g4
   cases g4
   rw [ih g5]
theorem yi6 {p:UInt8→Bool}(hp:p 10=false)(l z:List UInt8):(l ++ 10 :: z).takeWhile p=l.takeWhile p:=by
 induction l with
 | nil=>simp [hp]
 | cons c l ih =>
  rw [List.cons_append,List.takeWhile_cons,List.takeWhile_cons]
  split
  ·rw [ih]
  ·rfl
theorem up0 (l z:List UInt8):j72 (l ++ 10 :: z)=j72 l:=by
 cases l with
 | nil=>rfl
 | cons c l =>
  have:=yi6 (p:=fun c=>y26 c || qm1 c) rfl (c :: l) z
  rw [List.cons_append] at this
  rw [List.cons_append]
  unfold j72
  dsimp only
  rw [this]
theorem ur9 (l z:List UInt8):j62 (l ++ 10 :: z)=j62 l:=by
 unfold j62
 rw [yi6 rfl]
def numT (d:Nat)(q:List UInt8):Nat:=match q with
 | 46 :: c :: r=>if qm1 c then d + 1 + j62 (c :: r) else d
 | _=>d
theorem v23 (d:Nat)(x y:UInt8)(q:List UInt8):numT d (x :: y :: q)=if x=46 then (if qm1 y then d + 1 + j62 (y :: q) else d) else d:=by
 unfold numT
 split
 ·rename_i e; simp only [List.cons.injEq] at e; obtain ⟨rfl,rfl,rfl⟩:=e; simp
 ·rename_i h; rw [if_neg]; intro e; subst e; exact h _ _ rfl
theorem kl6 (d:Nat)(x:UInt8):numT d [x]=d:=by
 unfold numT
 split
 ·rename_i e; simp at e
 ·rfl
theorem numN_line (l z:List UInt8):va6 (l ++ 10 :: z)=va6 l:=by
 have e:∀ l,va6 l=numT (j62 l) (l.drop (j62 l)):=fun _=>rfl
 rw [e,e,ur9,List.drop_append_of_le_length (ke3 l)]
 match l.drop (j62 l) with
 | [] =>
  cases z with
  | nil=>exact kl6 _ _
  | cons a z=>rw [List.nil_append,v23]; rfl
 | [x] =>
  rw [List.cons_append,List.nil_append,v23,kl6]
  have:qm1 10=false:=rfl
  rw [this]
  simp
 | x :: y :: r =>
  have e2:=ur9 (y :: r) z
  rw [List.cons_append] at e2
  rw [List.cons_append,List.cons_append,v23,v23,e2]
theorem vg7 :∀ (l z:List UInt8) {n:Nat},um8 l=some n→um8 (l ++ 10 :: z)=some n
 | [],z,n,h=>by simp [um8] at h
 | c :: r,z,n,h=>by
  rw [List.cons_append]
  unfold um8 at h ⊢
  by_cases h1:badB c=true
  ·rw [if_pos h1] at h; cases h
  rw [if_neg h1] at h ⊢
  by_cases h2:c=34
  ·rw [if_pos h2] at h ⊢; exact h
  rw [if_neg h2] at h ⊢
  by_cases h3:c=92
  ·rw [if_pos h3] at h ⊢
   cases r with
   | nil=>cases h
   | cons d r =>
    simp only [List.cons_append] at h ⊢
    by_cases h5:badB d=true
    ·rw [if_pos h5] at h; cases h
    ·rw [if_neg h5] at h ⊢
     rw [Option.map_eq_some_iff] at h ⊢
     obtain ⟨m,h4,rfl⟩:=h
     exact ⟨m,vg7 r z h4,rfl⟩
  ·rw [if_neg h3] at h ⊢
   rw [Option.map_eq_some_iff] at h ⊢
   obtain ⟨m,h4,rfl⟩:=h
   exact ⟨m,vg7 r z h4,rfl⟩
theorem sigN_line (c:UInt8)(l z:List UInt8):v15 (c :: l ++ 10 :: z)=v15 (c :: l):=by
 cases l with
 | nil =>
  rw [List.cons_append]
  unfold v15
  simp
 | cons d l=>rfl
theorem ku9 {N:Nat}{l:List UInt8}{t:q33}{n:Nat}(z:List UInt8)(h:yl7 N l=some (t,n)):yl7 N (l ++ 10 :: z)=some (t,n):=by
 obtain ⟨p1,p2,_⟩:=vn2 h
 cases l with
 | nil=>cases h
 | cons c r =>
  have e1:=up0 (c :: r) z
  have e2:=up0 r z
  have e3:=numN_line (c :: r) z
  have e4:=sigN_line c r z
  have tk1:∀ m,m≤(c :: r).length→(c :: r ++ 10 :: z).take m=(c :: r).take m:=fun m hm=>List.take_append_of_le_length hm
  have tk2:∀ m,m≤r.length→(r ++ 10 :: z).take m=r.take m:=fun m hm=>List.take_append_of_le_length hm
  have t1:=tk1 _ (xh8 (c :: r))
  have t2:=tk2 _ (xh8 r)
  have t3:=tk1 _ (kg3 (c :: r))
  have t4:=tk1 _ (ke6 (c :: r))
  rw [List.cons_append] at e1 e3 e4 t1 t3 t4
  rw [List.cons_append]
  unfold yl7 at h ⊢
  dsimp only at h ⊢
  rw [e1,e2,e3,e4,t1,t2,t3,t4]
  by_cases c1:0 < j72 (c :: r)
  ·rw [if_pos c1] at h ⊢; exact h
  rw [if_neg c1] at h ⊢
  by_cases c2:c=63∨c=35
  ·rw [if_pos c2] at h ⊢; exact h
  rw [if_neg c2] at h ⊢
  by_cases c3:qm1 c=true
  ·rw [if_pos c3] at h ⊢; exact h
  rw [if_neg c3] at h ⊢
  by_cases c4:c=34
  ·rw [if_pos c4] at h ⊢
   rw [Option.bind_eq_some_iff] at h
   obtain ⟨m,h5,h⟩:=h
   have hm:=v63 r m h5
   rw [vg7 r z h5,Option.bind_some]
   have t5:=tk1 (1 + m) (by simp; omega)
   rw [List.cons_append] at t5
   rw [t5,tk2 (m - 1) (by omega)]
   exact h
  rw [if_neg c4] at h ⊢
  exact h
theorem Lx.line_app {N:Nat}{u:List UInt8}{l:List q33}{z:List UInt8}{r:List q33}(h:Lx N u l)(k:Lx N z r):Lx N (u ++ 10 :: z) (l ++ r):=by
 induction h with
 | done=>exact .line k
 | space _ ih=>exact .space ih
 | line _ ih=>exact .line ih
 | @com q l _ ih =>
  refine .com ?_
  have e:(q ++ 10 :: z).dropWhile kd5=q.dropWhile kd5 ++ 10 :: z:=by
   clear ih
   rename_i hq
   clear hq
   induction q with
   | nil=>rfl
   | cons c q ih =>
    rw [List.cons_append,List.dropWhile_cons,List.dropWhile_cons]
    split
    ·exact ih
    ·rfl
  have e2:(q.append (10 :: z))=q ++ 10 :: z:=rfl
  rw [e2,e]
  exact ih
 | @tok c q t n l h1 h2 h3 h4 h5 ih =>
  obtain ⟨p1,p2,_⟩:=vn2 h4
  have:=ku9 z h4
  rw [List.cons_append] at this ⊢
  refine .tok h1 h2 h3 this ?_
  rw [← List.cons_append,List.drop_append_of_le_length p2]
  exact ih
theorem Lex_is {N:Nat}{s:List UInt8}(hN:s.length + 100≤N){r:(List q33)×qi2×Int×Unit}(hr:jk4 N s=some r)(h0:r.2.2.1=0):Lx N s (r.1.map bare):=by
 unfold jk4 v17 at hr
 by_cases hm:(s.length:Int) > 65536
 ·rw [decide_eq_true hm,cond_true] at hr
  cases hr; simp at h0
 rw [decide_eq_false hm,cond_false] at hr
 dsimp only at hr
 -- from a place on: what is told is what was there, and the words behind
 have main:∀ (M:Nat) (out:List q33) (line begin:Int) (a:Nat) (r:(List q33)×qi2×Int×Unit),a≤s.length→q87 (zn1 N s 0 0 0 0) M (out,line,begin,(a:Int))=some r→r.2.2.1=0→∃ l,r.1.map bare=out.map bare ++ l∧Lx N (s.drop a) l:=by
  intro M
  induction M with
  | zero=>intro _ _ _ _ _ _ h; cases h
  | succ M ih =>
   intro out line begin a r ha hr h0
   simp only [q87] at hr
   generalize q87 (zn1 N s 0 0 0 0) M=K at ih hr
   unfold zn1 y96 at hr
   dsimp only at hr
   by_cases c:(a:Int) < (s.length:Int)
   ·obtain ⟨x,q,e1,e2,e3⟩:=qt1 (s:=s) (a:=a) (by omega)
    have bq:∀ (n:UInt8) (m:Int),(n.toNat:Int)=m→((x.toNat:Int) == m)=decide (x=n):=fun n m hm=>by
     rw [← hm]
     by_cases e:x=n
     ·simp [e]
     ·have:¬ (x.toNat:Int)=(n.toNat:Int):=fun h=>e (UInt8.toNat_inj.1 (by omega))
      simp [e,this]
    rw [decide_eq_true c,cond_true,qu4 (by omega) (by omega),cond_true,e2,bq 32 32 rfl,bq 10 10 rfl,bq 59 59 rfl] at hr
    simp only [Bool.cond_decide] at hr
    have ea:(a:Int) + 1=((a + 1:Nat):Int):=by omega
    rw [e1]
    by_cases c1:x=32
    ·rw [if_pos c1,inI (by omega) (by omega),cond_true,ea] at hr
     obtain ⟨l,h1,h2⟩:=ih _ _ _ _ _ (by omega) hr h0
     rw [e3] at h2
     exact ⟨l,h1,c1 ▸ .space h2⟩
    rw [if_neg c1] at hr
    by_cases c2:x=10
    ·rw [if_pos c2,inI (by omega) (by omega),cond_true] at hr
     by_cases c3:q27 (line + 1)=true
     ·rw [c3,cond_true,ea] at hr
      obtain ⟨l,h1,h2⟩:=ih _ _ _ _ _ (by omega) hr h0
      rw [e3] at h2
      exact ⟨l,h1,c2 ▸ .line h2⟩
     ·have c3:q27 (line + 1)=false:=by simpa using c3
      rw [c3] at hr; cases hr
    rw [if_neg c2] at hr
    by_cases c3:x=59
    ·rw [if_pos c3] at hr
     -- a comment
     have com:∀ (M2:Nat) (b:Nat),a≤b→b≤s.length→(b=a∨(s.drop (a + 1)).dropWhile kd5=(s.drop b).dropWhile kd5∧a < b)→q87 (zz9 N s out line begin 0 0 0 0 K) M2 (b:Int)=some r→∃ d,d≤s.length∧s.drop d=(s.drop (a + 1)).dropWhile kd5∧K (out,line,begin,(d:Int))=some r:=by
      intro M2
      induction M2 with
      | zero=>intro _ _ _ _ h; cases h
      | succ M2 ih2 =>
       intro b hab hb hst hr
       simp only [q87] at hr
       generalize q87 (zz9 N s out line begin 0 0 0 0 K) M2=K2 at ih2 hr
       unfold zz9 at hr
       dsimp only at hr
       by_cases d1:(b:Int) < (s.length:Int)
       ·obtain ⟨y,p,f1,f2,f3⟩:=qt1 (s:=s) (a:=b) (by omega)
        have eb:(b:Int) + 1=((b + 1:Nat):Int):=by omega
        rw [decide_eq_true d1,cond_true,qu4 (by omega) (by omega),cond_true,f2] at hr
        by_cases d2:y=10
        ·subst d2
         have t:(((10:UInt8).toNat:Int) != 10)=false:=rfl
         rw [t,cond_false] at hr
         rcases hst with rfl | ⟨hst,_⟩
         ·exfalso
          rw [f1] at e1
          simp only [List.cons.injEq] at e1
          rw [← e1.1] at c2
          exact c2 rfl
         ·refine ⟨b,hb,?_,hr⟩
          rw [hst,f1,List.dropWhile_cons]
          rfl
        ·have t:((y.toNat:Int) != 10)=true:=by
          have:¬ (y.toNat:Int)=10:=fun h=>d2 (UInt8.toNat_inj.1 (by simp; omega))
          simpa using this
         rw [t,cond_true,inI (by omega) (by omega),cond_true,eb] at hr
         refine ih2 (b + 1) (by omega) (by omega) (.inr ⟨?_,by omega⟩) hr
         rcases hst with rfl | ⟨hst,_⟩
         ·rfl
         ·rw [hst,f1,List.dropWhile_cons]
          have:kd5 y=true:=decide_eq_true d2
          rw [this,f3]
          rfl
       ·have hbl:b=s.length:=by omega
        rw [decide_eq_false d1,cond_false] at hr
        rcases hst with rfl | ⟨hst,_⟩
        ·omega
        ·refine ⟨b,hb,?_,hr⟩
         rw [hst,hbl,List.drop_length]
         rfl
     obtain ⟨d,d1,d2,d3⟩:=com N a (by omega) ha (.inl rfl) hr
     obtain ⟨l,h1,h2⟩:=ih _ _ _ _ _ d1 d3 h0
     rw [d2,e3] at h2
     exact ⟨l,h1,c3 ▸ .com h2⟩
    rw [if_neg c3] at hr
    cases c4:q27 ((a:Int) - begin) with
    | false=>rw [c4] at hr; cases hr
    | true =>
    cases c5:q27 (((a:Int) - begin) + 1) with
    | false=>rw [c4,c5] at hr; cases hr
    | true =>
    rw [c4,cond_true,c5,cond_true] at hr
    cases hw:j82 N s (a:Int) with
    | none=>rw [hw] at hr; cases hr
    | some w =>
     rw [hw,Option.bind_some] at hr
     by_cases c6:w.2.2.1=0
     ·have t:(w.2.2.1 != 0)=false:=by rw [c6]; rfl
      rw [t,cond_false] at hr
      obtain ⟨n,w1,w2,w3,w4⟩:=Word_is (by omega) (by omega) (by omega) hw c6
      cases hf:w33 (out.length + ([(w.1.1,w.1.2.1,w.1.2.2.1,(line,((a:Int) - begin) + 1,()),())]:List q33).length) 1954687338268 with
      | false=>rw [hf] at hr; cases hr
      | true =>
       rw [hf,cond_true,w2] at hr
       obtain ⟨l,h1,h2⟩:=ih _ _ _ _ _ w4 hr h0
       refine ⟨w.1 :: l,?_,?_⟩
       ·rw [h1,List.map_append,List.append_assoc]
        rw [e1] at w1
        have:=(vn2 w1).2.2
        simp only [List.map_cons,List.map_nil,List.singleton_append]
        congr 2
       ·rw [e1] at w1
        refine .tok c1 c2 c3 w1 ?_
        rw [← e1,List.drop_drop]
        exact h2
     ·have t:(w.2.2.1 != 0)=true:=by simpa using c6
      rw [t,cond_true] at hr
      cases hr
      exact absurd h0 c6
   ·rw [decide_eq_false c,cond_false] at hr
    cases hr
    refine ⟨[],by simp,?_⟩
    rw [List.drop_eq_nil_of_le (by omega)]
    exact .done
 obtain ⟨l,h1,h2⟩:=main N [] 1 0 0 r (by omega) hr h0
 rw [List.map_nil,List.nil_append] at h1
 rw [h1]
 exact h2
end Go.Proofs.YtgicljncknbgcaaGreat.Abs
