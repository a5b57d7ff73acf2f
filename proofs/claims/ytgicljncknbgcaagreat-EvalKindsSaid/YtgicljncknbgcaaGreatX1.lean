/- The document's lexer, told exactly of what lies behind a place. -/
import Derived.Test.YtgicljncknbgcaaGreatR1
import Derived.Test.YtgicljncknbgcaaGreatR2
set_option linter.unusedVariables false
set_option linter.unusedSimpArgs false
set_option linter.unusedSectionVars false
namespace Go.Proofs.YtgicljncknbgcaaGreat.Abs
open Go
def zl4 (c:UInt8):Bool:=decide (97≤c.toNat∧c.toNat≤122)
def qo8 (c:UInt8):Bool:=decide (48≤c.toNat∧c.toNat≤57)
def je1 :List UInt8→Nat
 |[]=>0
 |c::l=>if zl4 c then (List.takeWhile (fun c=>zl4 c||qo8 c) (c::l)).length else 0
def ym0 (l:List UInt8):Nat:=(l.takeWhile qo8).length
def uh3 (l:List UInt8):Nat :=
 match l.drop (ym0 l) with
 |46::c::r=>if qo8 c then ym0 l+1+ym0 (c::r) else ym0 l
 |_=>ym0 l
def badB (c:UInt8):Bool:=decide (c.toNat<32∨126<c.toNat)
def q5x :List UInt8→Option Nat
 |[]=>none
 |c::r =>
  if badB c then none
  else if c=34 then some 1
  else if c=92 then match r with
   |[]=>none
   |d::r=>if badB d then none else (q5x r).map (·+2)
  else (q5x r).map (·+1)
def k47 (l:List UInt8):Nat:=match l with
 |[]=>0
 |c::r =>
  if (match r with|d::_=>decide ((c=60∧d=61)∨(c=62∧d=61)∨(c=60∧d=62)∨(c=46∧d=46))|[]=>false) then 2
  else if c=40∨c=41∨c=91∨c=93∨c=44∨c=58∨c=61∨c=60∨c=62∨c=43∨c=45∨c=42∨c=47 then 1 else 0
section
variable {N:Nat} {s:List UInt8} (hN:s.length+10≤N) (hm:s.length≤1000000)
include hN hm
omit hN hm in
theorem qt1 {a:Nat}(h:a<s.length):∃ c r,s.drop a=c::r∧q37 s (a:Int)=(c.toNat:Int)∧s.drop (a+1)=r:=by
 refine⟨s[a],s.drop (a+1),List.drop_eq_getElem_cons h,xm4 h,rfl⟩
theorem run_is {a:Nat}(h:a≤s.length):xg3 N s (a:Int)=some ((a+je1 (s.drop a):Nat):Int):=by
 refine Tells.get ?_
 have loop:∀ b:Nat,b≤s.length→Tells (q80 (jb5 N s) N (b:Int)) fun r=>r=((b+(List.takeWhile (fun c=>zl4 c||qo8 c) (s.drop b)).length:Nat):Int):=fun b hb=>by
  refine Tells.iter (fun (i:Int)=>∃ k:Nat,i=k∧b≤k∧k≤s.length∧(List.takeWhile (fun c=>zl4 c||qo8 c) (s.drop b)).length=(k-b)+(List.takeWhile (fun c=>zl4 c||qo8 c) (s.drop k)).length) (fun (i:Int)=>s.length-i.toNat) ?_ N _ ⟨b,rfl,by omega,hb,by omega⟩ (by omega)
  rintro K i ⟨k,rfl,k1,k2,k3⟩ hK
  unfold jb5
  simp only[jn6,qy0,Option.bind_some]
  refine Tells.dec (fun c=>?_) (fun c=>?_)
  ·obtain⟨x,r,e1,e2,e3⟩:=qt1 (s:=s) (a:=k) (by omega)
   have next:(zl4 x||qo8 x)=true→Tells (bif q24 ((k:Int)+1) then K ((k:Int)+1) else none) fun r=>r=((b+(List.takeWhile (fun c=>zl4 c||qo8 c) (s.drop b)).length:Nat):Int):=fun hx=>by
    refine Tells.ok (inI (by omega) (by omega)) (hK _ ⟨k+1,by omega,by omega,by omega,?_⟩ (by omega))
    rw[k3,e1,e3,List.takeWhile_cons,hx]
    simp only[if_true,List.length_cons]
    omega
   rw[e2]
   refine Tells.ok (qi0 (by omega) (by omega)) (Tells.dec (fun c1=>next ?_) (fun c1=>Tells.ok (qi0 (by omega) (by omega)) (Tells.dec (fun c2=>next ?_) (fun c2=>Tells.some ?_))))
   ·have:zl4 x=true:=decide_eq_true (by omega)
    rw[this];rfl
   ·have:qo8 x=true:=decide_eq_true (by omega)
    rw[this];simp
   ·have h1:zl4 x=false:=decide_eq_false (by omega)
    have h2:qo8 x=false:=decide_eq_false (by omega)
    rw[k3,e1,List.takeWhile_cons,h1,h2]
    simp only[Bool.or_self,Bool.false_eq_true,if_false,List.length_nil]
    omega
  ·have:k=s.length:=by omega
   subst this
   refine Tells.some ?_
   rw[k3,List.drop_length]
   simp only[List.takeWhile_nil,List.length_nil]
   omega
 unfold xg3 vh8
 simp only[jn6,Option.bind_some]
 refine Tells.dec (fun c=>?_) (fun c=>?_)
 ·have:a=s.length:=by omega
  subst this
  exact Tells.some (by rw[List.drop_length];rfl)
 ·obtain⟨x,r,e1,e2,e3⟩:=qt1 (s:=s) (a:=a) (by omega)
  refine Tells.ok (qi0 (by omega) (by omega)) ?_
  rw[e2]
  have e4:=loop a h
  rw[e1] at e4 ⊢
  unfold je1
  dsimp only
  by_cases hx:zl4 x=true
  ·have:97≤x.toNat∧x.toNat≤122:=of_decide_eq_true hx
   rw[if_pos hx]
   refine Tells.no (by rw[decide_eq_true (by omega)];rfl) e4
  ·have:¬ (97≤x.toNat∧x.toNat≤122):=fun h=>hx (decide_eq_true h)
   rw[if_neg hx]
   exact Tells.ok (by rw[decide_eq_false (by omega)];rfl) (Tells.some rfl)
theorem dig_loop (body:(Int→Option Int)→Int→Option Int) (hb:∀ K (i:Int),body K i=bif decide (i<(s.length:Int)) then
   bif inR i s.length then
   (wf6 N (q37 s i)).bind fun (r2:Bool) =>
   bif r2 then
    bif q24 (i+1) then
    K (i+1)
    else none
   else
    some i
   else none
  else
   some i) {b:Nat} (hb2:b≤s.length):q80 body N (b:Int)=some ((b+ym0 (s.drop b):Nat):Int):=by
 refine Tells.get ?_
 refine Tells.iter (fun (i:Int)=>∃ k:Nat,i=k∧b≤k∧k≤s.length∧ym0 (s.drop b)=(k-b)+ym0 (s.drop k)) (fun (i:Int)=>s.length-i.toNat) ?_ N _ ⟨b,rfl,by omega,hb2,by omega⟩ (by omega)
 rintro K i ⟨k,rfl,k1,k2,k3⟩ hK
 rw[hb]
 simp only[qy0,Option.bind_some]
 refine Tells.dec (fun c=>?_) (fun c=>?_)
 ·obtain⟨x,r,e1,e2,e3⟩:=qt1 (s:=s) (a:=k) (by omega)
  rw[e2]
  refine Tells.ok (qi0 (by omega) (by omega)) (Tells.dec (fun c1=>?_) (fun c1=>Tells.some ?_))
  ·have hx:qo8 x=true:=decide_eq_true (by omega)
   refine Tells.ok (inI (by omega) (by omega)) (hK _ ⟨k+1,by omega,by omega,by omega,?_⟩ (by omega))
   rw[k3,e1,e3]
   unfold ym0
   rw[List.takeWhile_cons,hx]
   simp only[if_true,List.length_cons]
   omega
  ·have hx:qo8 x=false:=decide_eq_false (by omega)
   rw[k3,e1]
   unfold ym0
   rw[List.takeWhile_cons,hx]
   simp only[Bool.false_eq_true,if_false,List.length_nil]
   omega
 ·have:k=s.length:=by omega
  subst this
  refine Tells.some ?_
  rw[k3,List.drop_length]
  unfold ym0
  simp only[List.takeWhile_nil,List.length_nil]
  omega
omit hN hm in
theorem digN_le (l:List UInt8):ym0 l≤l.length:=(List.takeWhile_sublist qo8).length_le
omit hN hm in
theorem digN_end (l:List UInt8):match l.drop (ym0 l) with|[]=>True|c::_=>qo8 c=false:=by
 unfold ym0
 induction l with
 |nil=>simp
 |cons c l ih =>
  rw[List.takeWhile_cons]
  by_cases h:qo8 c=true
  ·simp only[h,if_true,List.length_cons,List.drop_succ_cons];exact ih
  ·have h:qo8 c=false:=by simpa using h
   simp only[h,Bool.false_eq_true,if_false,List.length_nil,List.drop_zero]
theorem number_is {a:Nat}(h:a≤s.length):z82 N s (a:Int)=some ((a+uh3 (s.drop a):Nat):Int):=by
 refine Tells.get ?_
 unfold z82 jn1
 refine Tells.iter (fun (i:Int)=>∃ k:Nat,i=k∧a≤k∧k≤s.length∧ym0 (s.drop a)=(k-a)+ym0 (s.drop k)) (fun (i:Int)=>s.length-i.toNat) ?_ N _ ⟨a,rfl,by omega,h,by omega⟩ (by omega)
 rintro K i ⟨k,rfl,k1,k2,k3⟩ hK
 unfold z83 zn1
 simp only[qy0,Option.bind_some]
 have hdrop:(ym0 (s.drop k)=0)→(s.drop a).drop (ym0 (s.drop a))=s.drop k:=fun h0=>by rw[List.drop_drop,k3,h0];congr 1;omega
 -- the digits end here
 have fin:ym0 (s.drop k)=0→Tells (bif q24 ((k:Int)+1) then
    bif decide (((k:Int)+1)≥(s.length:Int)) then
     some (k:Int)
    else
     bif inR (k:Int) s.length then
     bif ((q37 s (k:Int)) != 46) then
      some (k:Int)
     else
      bif q24 ((k:Int)+1) then
      bif inR ((k:Int)+1) s.length then
      bif (!decide (48≤q37 s ((k:Int)+1)∧q37 s ((k:Int)+1)≤57)) then
       some (k:Int)
      else
       bif q24 ((k:Int)+1) then
       q80 (w58 N s) N ((k:Int)+1)
       else none
      else none
      else none
     else none
    else none) fun r=>r=((a+uh3 (s.drop a):Nat):Int):=fun h0=>by
  have hk:ym0 (s.drop a)=k-a:=by omega
  have num:uh3 (s.drop a)=match s.drop k with
    |46::c::r=>if qo8 c then ym0 (s.drop a)+1+ym0 (c::r) else ym0 (s.drop a)
    |_=>ym0 (s.drop a):=by unfold uh3;rw[hdrop h0]
  have plain:uh3 (s.drop a)=ym0 (s.drop a)→((k:Int)=((a+uh3 (s.drop a):Nat):Int)):=fun h=>by rw[h,hk];omega
  refine Tells.ok (inI (by omega) (by omega)) (Tells.dec (fun c=>Tells.some (plain ?_)) (fun c=>?_))
  ·rw[num]
   have hl:(s.drop k).length≤1:=by simp;omega
   split
   ·rename_i c r e;rw[e] at hl;simp at hl
   ·rfl
  ·obtain⟨x,r,e1,e2,e3⟩:=qt1 (s:=s) (a:=k) (by omega)
   obtain⟨y,r',f1,f2,f3⟩:=qt1 (s:=s) (a:=k+1) (by omega)
   have f2:q37 s ((k:Int)+1)=(y.toNat:Int):=by rw[← f2];rfl
   have e4:s.drop k=x::y::r':=by rw[e1,← e3,f1]
   rw[e2,f2]
   refine Tells.ok (qi0 (by omega) (by omega)) (Tells.ite (fun c1=>Tells.some (plain ?_)) (fun c1=>?_))
   ·rw[num,e4]
    split
    ·rename_i c r e
     simp only[List.cons.injEq] at e
     rw[e.1] at c1
     simp at c1
    ·rfl
   ·have hx:x=46:=by
     have:(x.toNat:Int)=46:=by simpa using c1
     exact UInt8.toNat_inj.1 (by simp;omega)
    subst hx
    refine Tells.ok (inI (by omega) (by omega)) (Tells.ok (qi0 (by omega) (by omega)) (Tells.ite (fun c2=>Tells.some (plain ?_)) (fun c2=>Tells.ok (inI (by omega) (by omega)) ?_)))
    ·have hy:qo8 y=false:=decide_eq_false (by
      have c2:=Bool.not_eq_true' _ ▸ c2
      have:=of_decide_eq_false c2
      omega)
     rw[num,e4]
     simp only[hy,Bool.false_eq_true,if_false]
    ·have hy:qo8 y=true:=decide_eq_true (by
      have c2:decide (48≤(y.toNat:Int)∧(y.toNat:Int)≤57)=true:=by simpa using c2
      have:=of_decide_eq_true c2
      omega)
     have:=dig_loop hN hm (w58 N s) (fun K i=>rfl) (b:=k+1) (by omega)
     have e5:((k+1:Nat):Int)=(k:Int)+1:=by omega
     rw[e5] at this
     rw[this]
     refine Tells.some ?_
     have hn:uh3 (s.drop a)=ym0 (s.drop a)+1+ym0 (y::r'):=by
      rw[num,e4]
      simp only[hy,if_true]
     rw[hn,f1]
     omega
 refine Tells.dec (fun c=>?_) (fun c=>?_)
 ·obtain⟨x,r,e1,e2,e3⟩:=qt1 (s:=s) (a:=k) (by omega)
  refine Tells.ok (qi0 (by omega) (by omega)) (Tells.dec (fun c1=>?_) (fun c1=>?_))
  ·rw[e2] at c1
   have hx:qo8 x=true:=decide_eq_true (by omega)
   refine Tells.ok (inI (by omega) (by omega)) (hK _ ⟨k+1,by omega,by omega,by omega,?_⟩ (by omega))
   rw[k3,e1,e3]
   unfold ym0
   rw[List.takeWhile_cons,hx]
   simp only[if_true,List.length_cons]
   omega
  ·rw[e2] at c1
   have hx:qo8 x=false:=decide_eq_false (by omega)
   refine fin ?_
   rw[e1]
   unfold ym0
   rw[List.takeWhile_cons,hx]
   rfl
 ·have e3:@z84=@w58:=rfl
  rw[e3]
  refine fin ?_
  rw[List.drop_eq_nil_of_le (by omega)]
  rfl
theorem quoted_is {a:Nat}(h:a<s.length):we2 N s (a:Int)=some (match q5x (s.drop (a+1)) with|some n=>((a+1+n:Nat):Int)|none=>-1):=by
 refine Tells.get ?_
 unfold we2 jn3
 refine Tells.ok (inI (by omega) (by omega)) ?_
 generalize hR:(match q5x (s.drop (a+1)) with|some n=>((a+1+n:Nat):Int)|none=>-1)=R
 refine Tells.iter (fun (i:Int)=>∃ k:Nat,i=k∧k≤s.length+1∧(match q5x (s.drop k) with|some n=>((k+n:Nat):Int)|none=>-1)=R) (fun (i:Int)=>s.length+1-i.toNat) ?_ N _ ⟨a+1,by omega,by omega,hR⟩ (by omega)
 rintro K i ⟨k,rfl,k1,k2⟩ hK
 unfold j03
 refine Tells.dec (fun c=>?_) (fun c=>?_)
 ·obtain⟨x,r,e1,e2,e3⟩:=qt1 (s:=s) (a:=k) (by omega)
  have rt:inR (k:Int) s.length=true:=qi0 (by omega) (by omega)
  rw[e2]
  rw[e1] at k2
  unfold q5x at k2
  have bad:badB x=true→R=-1:=fun h=>by rw[if_pos h] at k2;exact k2.symm
  refine Tells.ok rt (Tells.dec (fun c1=>Tells.some (bad (decide_eq_true (by omega))).symm) (fun c1=>Tells.ok rt (Tells.dec (fun c2=>Tells.some (bad (decide_eq_true (by omega))).symm) (fun c2=>?_))))
  have hb:badB x=false:=decide_eq_false (by omega)
  rw[hb,if_neg (by simp)] at k2
  have x34:∀ n:UInt8,((x.toNat:Int)==(n.toNat:Int))=decide (x=n):=fun n=>by
   by_cases e:x=n
   ·simp[e]
   ·have:¬ (x.toNat:Int)=(n.toNat:Int):=fun h=>e (UInt8.toNat_inj.1 (by omega))
    simp[e,this]
  have z34:((x.toNat:Int)==34)=decide (x=34):=x34 34
  have z92:((x.toNat:Int)==92)=decide (x=92):=x34 92
  rw[z34,z92]
  refine Tells.ok rt (Tells.dec (fun c3=>?_) (fun c3=>?_))
  ·rw[if_pos c3] at k2
   exact Tells.ok (inI (by omega) (by omega)) (Tells.some (by rw[← k2];simp))
  ·rw[if_neg c3] at k2
   refine Tells.ok rt (Tells.dec (fun c4=>?_) (fun c4=>?_))
   ·rw[if_pos c4] at k2
    refine Tells.ok (inI (by omega) (by omega)) (Tells.dec (fun c5=>?_) (fun c5=>?_))
    ·obtain⟨y,r',f1,f2,f3⟩:=qt1 (s:=s) (a:=k+1) (by omega)
     have f2:q37 s ((k:Int)+1)=(y.toNat:Int):=by rw[← f2];rfl
     have er:r=y::r':=by rw[← e3,f1]
     rw[er] at k2
     dsimp only at k2
     rw[f2]
     have bad2:badB y=true→R=-1:=fun h=>by rw[if_pos h] at k2;exact k2.symm
     have rt2:inR ((k:Int)+1) s.length=true:=qi0 (by omega) (by omega)
     refine Tells.ok rt2 (Tells.dec (fun c6=>Tells.some (bad2 (decide_eq_true (by omega))).symm) (fun c6=>Tells.ok rt2 (Tells.dec (fun c7=>Tells.some (bad2 (decide_eq_true (by omega))).symm) (fun c7=>Tells.ok (inI (by omega) (by omega)) (hK _ ⟨k+2,by omega,by omega,?_⟩ (by omega))))))
     have hb2:badB y=false:=decide_eq_false (by omega)
     rw[hb2,if_neg (by simp)] at k2
     rw[f3,← k2]
     cases q5x r' with
     |none=>rfl
     |some n =>
      show ((k+2+n:Nat):Int)=((k+(n+2):Nat):Int)
      rw[show k+2+n=k+(n+2) by omega]
    ·have er:r=[]:=by rw[← e3,List.drop_eq_nil_of_le (by omega)]
     rw[er] at k2
     refine Tells.ok (inI (by omega) (by omega)) (hK _ ⟨k+2,by omega,by omega,?_⟩ (by omega))
     rw[List.drop_eq_nil_of_le (by omega)]
     exact k2
   ·rw[if_neg c4] at k2
    refine Tells.ok (inI (by omega) (by omega)) (hK _ ⟨k+1,by omega,by omega,?_⟩ (by omega))
    rw[e3,← k2]
    cases q5x r with
    |none=>rfl
    |some n =>
     show ((k+1+n:Nat):Int)=((k+(n+1):Nat):Int)
     rw[show k+1+n=k+(n+1) by omega]
 ·rw[List.drop_eq_nil_of_le (by omega)] at k2
  exact Tells.some k2
theorem signed_is {a:Nat}(h:a<s.length):z87 N s (a:Int)=some (if k47 (s.drop a)=0 then -1 else ((a+k47 (s.drop a):Nat):Int)):=by
 obtain⟨x,r,e1,e2,e3⟩:=qt1 (s:=s) (a:=a) h
 have bq:∀ n:UInt8,((x.toNat:Int)==(n.toNat:Int))=decide (x=n):=fun n=>by
  by_cases e:x=n
  ·simp[e]
  ·have:¬ (x.toNat:Int)=(n.toNat:Int):=fun h=>e (UInt8.toNat_inj.1 (by omega))
   simp[e,this]
 have rt:inR (a:Int) s.length=true:=qi0 (by omega) (by omega)
 have i1:q24 ((a:Int)+1)=true:=inI (by omega) (by omega)
 have i2:q24 ((a:Int)+2)=true:=inI (by omega) (by omega)
 have one:∀ q:Bool,(∀ d r',r=d::r'→¬ ((x=60∧d=61)∨(x=62∧d=61)∨(x=60∧d=62)∨(x=46∧d=46)))→wk5 N s (a:Int) ()=some (if k47 (s.drop a)=0 then -1 else ((a+k47 (s.drop a):Nat):Int)):=fun _ hd=>by
  have hs:k47 (s.drop a)=if x=40∨x=41∨x=91∨x=93∨x=44∨x=58∨x=61∨x=60∨x=62∨x=43∨x=45∨x=42∨x=47 then 1 else 0:=by
   rw[e1]
   unfold k47
   dsimp only
   rw[if_neg]
   cases r with
   |nil=>simp
   |cons d r'=>simpa using hd d r' rfl
  have q:∀ (n:UInt8) (m:Int),(n.toNat:Int)=m→((x.toNat:Int)==m)=decide (x=n):=fun n m h=>by rw[← h];exact bq n
  unfold wk5
  rw[rt,cond_true,e2,q 40 40 rfl,q 41 41 rfl,q 91 91 rfl,q 93 93 rfl,q 44 44 rfl,q 58 58 rfl,q 61 61 rfl,q 60 60 rfl,q 62 62 rfl,q 43 43 rfl,q 45 45 rfl,q 42 42 rfl,q 47 47 rfl,i1]
  simp only[cond_true,Bool.cond_decide]
  have a1:((a+1:Nat):Int)=(a:Int)+1:=by omega
  by_cases h1:x=40∨x=41∨x=91∨x=93∨x=44∨x=58∨x=61∨x=60∨x=62∨x=43∨x=45∨x=42∨x=47
  ·rw[if_pos h1] at hs
   rw[hs,if_neg (show ¬ (1:Nat)=0 by omega),a1]
   rcases h1 with h|h|h|h|h|h|h|h|h|h|h|h|h<;>subst h<;>simp (decide:=true)
  ·rw[if_neg h1] at hs
   rw[hs,if_pos rfl]
   simp only[not_or] at h1
   obtain⟨g1,g2,g3,g4,g5,g6,g7,g8,g9,g10,g11,g12,g13⟩:=h1
   simp only[g1,g2,g3,g4,g5,g6,g7,g8,g9,g10,g11,g12,g13,or_self,if_false,if_true]
 unfold z87 jn5
 dsimp only
 rw[q95 (by omega),i1,cond_true]
 by_cases c:(a:Int)+1<(s.length:Int)
 ·obtain⟨y,r',f1,f2,f3⟩:=qt1 (s:=s) (a:=a+1) (by omega)
  have er:r=y::r':=by rw[← e3,f1]
  have sl:(s.take ((a:Int)+2).toNat).drop ((a:Int)).toNat=[x,y]:=by
   have e5:((a:Int)+2).toNat=a+2:=by omega
   rw[e5,Int.toNat_natCast,List.drop_take,e1,er,show a+2-a=2 by omega]
   rfl
  rw[decide_eq_true c,cond_true,i2,cond_true,x61 (by omega) (by omega) (by omega),cond_true,sl]
  have two:∀ u v:UInt8,(([x,y]:List UInt8)==[u,v])=decide (x=u∧y=v):=fun u v=>by
   by_cases hh:x=u∧y=v
   ·simp[hh]
   ·rw[decide_eq_false hh,beq_eq_false_iff_ne]
    intro h;simp at h;exact hh h
  rw[two,two,two,two]
  simp only[cond_true,Bool.cond_decide]
  by_cases h2:(x=60∧y=61)∨(x=62∧y=61)∨(x=60∧y=62)∨(x=46∧y=46)
  ·have hs:k47 (s.drop a)=2:=by
    rw[e1,er]
    unfold k47
    dsimp only
    rw[if_pos (decide_eq_true h2)]
   rw[hs,if_neg (show ¬ (2:Nat)=0 by omega)]
   have a2:((a+2:Nat):Int)=(a:Int)+2:=by omega
   rw[a2]
   rcases h2 with⟨rfl,rfl⟩|⟨rfl,rfl⟩|⟨rfl,rfl⟩|⟨rfl,rfl⟩<;>simp (decide:=true)
  ·have:=one true (fun d r2 hd=>by rw[er] at hd;simp only[List.cons.injEq] at hd;rw[← hd.1];exact h2)
   rw[this]
   simp only[not_or] at h2
   obtain⟨g1,g2,g3,g4⟩:=h2
   rw[if_neg g1,if_neg g2,if_neg g3,if_neg g4]
 ·rw[decide_eq_false c,cond_false]
  refine one true (fun d r2 hd=>?_)
  have:r.length=s.length-(a+1):=by rw[← e3];simp
  rw[hd] at this
  simp at this
  omega
end
abbrev tk (k:Int)(t:List UInt8)(v:q00):q39:=(k,t,v,(0,0,()),())
def parF (N:Nat)(l:List UInt8):Option q00:=match w73 N l with
 |some r=>if r.2.1=0 then some r.1 else none
 |none=>none
def vf9 (N:Nat):List UInt8→Option (q39×Nat)
 |[]=>none
 |c::r =>
  if 0<je1 (c::r) then if 12<je1 (c::r) then none else some (tk 1 ((c::r).take (je1 (c::r))) v0,je1 (c::r))
  else if c=63∨c=35 then
   if 12<(r.take (je1 r)).length∨(c=35∧r.take (je1 r)=[]) then none
   else if c=35 then some (tk 6 (r.take (je1 r)) (5,0,r.take (je1 r),()),1+je1 r)
   else if r.take (je1 r)=[] then some (tk 3 [] v0,1+je1 r) else some (tk 2 (r.take (je1 r)) v0,1+je1 r)
  else if qo8 c then (parF N ((c::r).take (uh3 (c::r)))).map fun v=>(tk 4 ((c::r).take (uh3 (c::r))) v,uh3 (c::r))
  else if c=34 then (q5x r).bind fun n=>(parF N ((c::r).take (1+n))).map fun v=>(tk 5 (r.take (n-1)) v,1+n)
  else if k47 (c::r)=0 then none else some (tk 7 ((c::r).take (k47 (c::r))) v0,k47 (c::r))
theorem qz8 (s:List UInt8)(a n:Nat):(s.take ((a+n:Nat):Int).toNat).drop ((a:Int)).toNat=(s.drop a).take n:=by
 rw[Int.toNat_natCast,Int.toNat_natCast,List.drop_take,show a+n-a=n by omega]
theorem k46 (l:List UInt8):je1 l≤l.length:=by
 cases l with
 |nil=>simp[je1]
 |cons c r =>
  unfold je1
  dsimp only
  split
  ·exact(List.takeWhile_sublist _).length_le
  ·simp
theorem numN_le (l:List UInt8):uh3 l≤l.length:=by
 unfold uh3
 have h:=digN_le l
 split
 ·rename_i c r e
  have e2:=congrArg List.length e
  rw[List.length_drop] at e2
  simp only[List.length_cons] at e2
  have:=digN_le (c::r)
  simp only[List.length_cons] at this
  split<;>omega
 ·exact h
theorem ux7 :∀ (l:List UInt8) (n:Nat),q5x l=some n→1≤n∧n≤l.length
 |[],n,h=>by simp[q5x] at h
 |c::r,n,h=>by
  unfold q5x at h
  split at h
  ·cases h
  split at h
  ·cases h;simp
  split at h
  ·cases r with
   |nil=>cases h
   |cons d r =>
    dsimp only at h
    split at h
    ·cases h
    ·rw[Option.map_eq_some_iff] at h
     obtain⟨m,h1,rfl⟩:=h
     have:=ux7 r m h1
     simp;omega
  ·rw[Option.map_eq_some_iff] at h
   obtain⟨m,h1,rfl⟩:=h
   have:=ux7 r m h1
   simp;omega
theorem sigN_le (l:List UInt8):k47 l≤l.length:=by
 cases l with
 |nil=>simp[k47]
 |cons c r =>
  have one:∀ p:Prop,[Decidable p]→(if p then 1 else 0)≤(c::r).length:=fun p _=>by split<;>simp
  unfold k47
  cases r with
  |nil=>exact one _
  |cons d r =>
   dsimp only
   split
   ·simp
   ·exact one _
section
variable {N:Nat} {s:List UInt8} (hN:s.length+10≤N) (hm:s.length≤1000000)
include hN hm
theorem Word_is {a:Nat}(h:a<s.length){r:q39×Int×Int×Unit}(hr:jm8 N s (a:Int)=some r)(h0:r.2.2.1=0):∃ n,vf9 N (s.drop a)=some (r.1,n)∧r.2.1=((a+n:Nat):Int)∧0<n∧a+n≤s.length:=by
 obtain⟨x,q,e1,e2,e3⟩:=qt1 (s:=s) (a:=a) h
 have hlen:(s.drop a).length=s.length-a:=by simp
 have hql:q.length=s.length-(a+1):=by rw[← e3];simp
 have bq:∀ (n:UInt8) (m:Int),(n.toNat:Int)=m→((x.toNat:Int)==m)=decide (x=n):=fun n m hm=>by
  rw[← hm]
  by_cases e:x=n
  ·simp[e]
  ·have:¬ (x.toNat:Int)=(n.toNat:Int):=fun h=>e (UInt8.toNat_inj.1 (by omega))
   simp[e,this]
 unfold jm8 xg0 at hr
 rw[qi0 (by omega) (by omega),cond_true,run_is hN hm (by omega),Option.bind_some] at hr
 have hrun:=k46 (s.drop a)
 by_cases c1:0<je1 (s.drop a)
 ·rw[decide_eq_true (by omega),cond_true,inI (by omega) (by omega),cond_true] at hr
  by_cases c2:12<je1 (s.drop a)
  ·rw[decide_eq_true (by omega),cond_true] at hr
   cases hr;simp at h0
  ·rw[decide_eq_false (by omega),cond_false,x61 (by omega) (by omega) (by omega),cond_true,qz8] at hr
   cases hr
   refine⟨je1 (s.drop a),?_,rfl,c1,by omega⟩
   rw[e1] at c1 c2 ⊢
   unfold vf9
   dsimp only
   rw[if_pos c1,if_neg c2]
 rw[decide_eq_false (by omega),cond_false,e2,bq 63 63 rfl,bq 35 35 rfl,Bool.cond_decide,Bool.cond_decide] at hr
 have b1:(x=63∨x=35)→at1 N (wv2 N s (a:Int) (x.toNat:Int) ())=some r→∃ n,vf9 N (s.drop a)=some (r.1,n)∧r.2.1=((a+n:Nat):Int)∧0<n∧a+n≤s.length:=fun hx hr=>by
  rw[q95 (by omega)] at hr
  unfold wv2 jm9 at hr
  have ea:(a:Int)+1=((a+1:Nat):Int):=by omega
  have hq:=k46 q
  rw[inI (by omega) (by omega),cond_true,ea,run_is hN hm (by omega),e3,Option.bind_some,cond_true,x61 (by omega) (by omega) (by omega),cond_true,qz8,e3] at hr
  dsimp only at hr
  rw[q95 (by omega)] at hr
  unfold jb4 at hr
  rw[bq 35 35 rfl] at hr
  simp only[Bool.cond_decide] at hr
  have hw:vf9 N (s.drop a)=if 12<(q.take (je1 q)).length∨(x=35∧q.take (je1 q)=[]) then none
   else if x=35 then some (tk 6 (q.take (je1 q)) (5,0,q.take (je1 q),()),1+je1 q)
   else if q.take (je1 q)=[] then some (tk 3 [] v0,1+je1 q) else some (tk 2 (q.take (je1 q)) v0,1+je1 q):=by
   rw[e1] at c1 ⊢
   unfold vf9
   dsimp only
   rw[if_neg c1,if_pos hx]
  rw[hw]
  generalize q.take (je1 q)=name at hr ⊢
  have le:∀ l:List UInt8,(l==([]:List UInt8))=decide (l=[]):=fun l=>by cases l<;>simp
  rw[le] at hr
  simp only[Bool.cond_decide] at hr
  by_cases c3:12<name.length
  ·rw[if_pos (show (name.length:Int)>12 by omega)] at hr
   cases hr;simp at h0
  ·rw[if_neg (show ¬ (name.length:Int)>12 by omega)] at hr
   by_cases c4:x=35
   ·rw[if_pos c4] at hr
    by_cases c5:name=[]
    ·rw[if_pos c5] at hr
     cases hr;simp at h0
    ·rw[if_neg c5,if_pos c4] at hr
     cases hr
     refine⟨1+je1 q,?_,by dsimp only;omega,by omega,by omega⟩
     rw[if_neg (by simp[c3,c5]),if_pos c4]
   ·rw[if_neg c4,if_neg c4] at hr
    by_cases c5:name=[]
    ·rw[if_pos c5] at hr
     cases hr
     refine⟨1+je1 q,?_,by dsimp only;omega,by omega,by omega⟩
     rw[if_neg (by simp[c3,c4]),if_neg c4,if_pos c5]
    ·rw[if_neg c5] at hr
     cases hr
     refine⟨1+je1 q,?_,by dsimp only;omega,by omega,by omega⟩
     rw[if_neg (by simp[c3,c4]),if_neg c4,if_neg c5]
 by_cases c2:x=63
 ·rw[if_pos c2] at hr
  exact b1 (.inl c2) hr
 rw[if_neg c2] at hr
 by_cases c3:x=35
 ·rw[if_pos c3] at hr
  exact b1 (.inr c3) hr
 rw[if_neg c3,qy0,Option.bind_some] at hr
 have hw:vf9 N (s.drop a)=if qo8 x then (parF N ((x::q).take (uh3 (x::q)))).map fun v=>(tk 4 ((x::q).take (uh3 (x::q))) v,uh3 (x::q))
  else if x=34 then (q5x q).bind fun n=>(parF N ((x::q).take (1+n))).map fun v=>(tk 5 (q.take (n-1)) v,1+n)
  else if k47 (x::q)=0 then none else some (tk 7 ((x::q).take (k47 (x::q))) v0,k47 (x::q)):=by
  rw[e1] at c1 ⊢
  unfold vf9
  dsimp only
  rw[if_neg c1,if_neg (by simp[c2,c3])]
 rw[hw]
 have hxl:(x::q).length=s.length-a:=by rw[← e1];simp
 by_cases c4:qo8 x=true
 ·have hd:48≤x.toNat∧x.toNat≤57:=of_decide_eq_true c4
  have hn:=numN_le (x::q)
  rw[decide_eq_true (by omega),cond_true,number_is hN hm (by omega),Option.bind_some,x61 (by omega) (by rw[e1];omega) (by rw[e1];omega),cond_true,qz8,e1] at hr
  rw[if_pos c4]
  unfold parF
  have pos:0<uh3 (x::q):=by
   have:0<ym0 (x::q):=by unfold ym0;rw[List.takeWhile_cons,c4];simp
   unfold uh3
   split
   ·split<;>omega
   ·exact this
  cases hp:w73 N ((x::q).take (uh3 (x::q))) with
  |none=>rw[hp] at hr;cases hr
  |some p =>
   rw[hp,Option.bind_some] at hr
   dsimp only
   by_cases c5:p.2.1=0
   ·have t1:(p.2.1==9)=false:=by rw[c5];rfl
    have t2:(p.2.1 != 0)=false:=by rw[c5];rfl
    rw[t1,cond_false,t2,cond_false,cond_true] at hr
    cases hr
    rw[if_pos c5]
    exact⟨uh3 (x::q),rfl,rfl,pos,by omega⟩
   ·exfalso
    by_cases c6:p.2.1=9
    ·have t1:(p.2.1==9)=true:=by rw[c6];rfl
     rw[t1,cond_true] at hr
     cases hr
     exact c5 h0
    ·have t1:(p.2.1==9)=false:=by simpa using c6
     have t2:(p.2.1 != 0)=true:=by simpa using c5
     rw[t1,cond_false,t2,cond_true] at hr
     cases hr;simp at h0
 rw[if_neg c4]
 have hd:¬ (48≤x.toNat∧x.toNat≤57):=fun h=>c4 (decide_eq_true h)
 rw[decide_eq_false (by omega),cond_false,bq 34 34 rfl,Bool.cond_decide] at hr
 by_cases c5:x=34
 ·rw[if_pos c5] at hr ⊢
  have hqo:=quoted_is hN hm h
  rw[e3] at hqo
  cases hq:q5x q with
  |none =>
   have hqo:we2 N s (a:Int)=some (-1):=by rw[hqo,hq]
   rw[hqo,Option.bind_some,decide_eq_true (by omega),cond_true] at hr
   cases hr;simp at h0
  |some n =>
   obtain⟨n1,n2⟩:=ux7 q n hq
   have hqo:we2 N s (a:Int)=some ((a+(1+n):Nat):Int):=by
    rw[hqo,hq]
    show some ((a+1+n:Nat):Int)=_
    rw[show a+1+n=a+(1+n) by omega]
   rw[hqo,Option.bind_some,decide_eq_false (by omega),cond_false,x61 (by omega) (by omega) (by omega),cond_true,qz8,e1] at hr
   rw[Option.bind_some]
   unfold parF
   cases hp:w73 N ((x::q).take (1+n)) with
   |none=>rw[hp] at hr;cases hr
   |some p =>
    rw[hp,Option.bind_some] at hr
    dsimp only
    by_cases c6:p.2.1=0
    ·have t2:(p.2.1 != 0)=false:=by rw[c6];rfl
     rw[t2,cond_false,inI (by omega) (by omega),cond_true,inI (by omega) (by omega),cond_true,x61 (by omega) (by omega) (by omega),cond_true] at hr
     have eb:((a+(1+n):Nat):Int)-1=((a+1+(n-1):Nat):Int):=by omega
     have ec:(a:Int)+1=((a+1:Nat):Int):=by omega
     rw[eb,ec,qz8,e3] at hr
     cases hr
     rw[if_pos c6]
     exact⟨1+n,rfl,rfl,by omega,by omega⟩
    ·exfalso
     have t2:(p.2.1 != 0)=true:=by simpa using c6
     rw[t2,cond_true] at hr
     cases hr;simp at h0
 ·rw[if_neg c5] at hr ⊢
  rw[signed_is hN hm h,Option.bind_some,e1] at hr
  have hsg:=sigN_le (x::q)
  by_cases c6:k47 (x::q)=0
  ·rw[if_pos c6,decide_eq_true (by omega),cond_true] at hr
   cases hr;simp at h0
  ·rw[if_neg c6,decide_eq_false (by omega),cond_false,x61 (by omega) (by omega) (by omega),cond_true,qz8,e1] at hr
   cases hr
   rw[if_neg c6]
   exact⟨k47 (x::q),rfl,rfl,by omega,by omega⟩
end
def qw0 (t:q39):q39:=(t.1,t.2.1,t.2.2.1,(0,0,()),())
def lineB (c:UInt8):Bool:=decide (c≠10)
inductive Lx (N:Nat):List UInt8→List q39→Prop
 |done:Lx N [] []
 |space {r l}:Lx N r l→Lx N (32::r) l
 |line {r l}:Lx N r l→Lx N (10::r) l
 |com {r l}:Lx N (r.dropWhile lineB) l→Lx N (59::r) l
 |tok {c r t n l}:c≠32→c≠10→c≠59→vf9 N (c::r)=some (t,n)→Lx N ((c::r).drop n) l→Lx N (c::r) (t::l)
theorem wordF_pos {N:Nat}{l:List UInt8}{t:q39}{n:Nat}(h:vf9 N l=some (t,n)):0<n∧n≤l.length∧qw0 t=t:=by
 cases l with
 |nil=>cases h
 |cons c r =>
  unfold vf9 at h
  dsimp only at h
  have h1:=k46 (c::r)
  have h2:=k46 r
  have h3:=numN_le (c::r)
  have h4:=sigN_le (c::r)
  have hl:(c::r).length=r.length+1:=rfl
  split at h
  ·split at h
   ·cases h
   ·cases h;exact⟨by assumption,h1,rfl⟩
  split at h
  ·split at h
   ·cases h
   split at h
   ·cases h;exact⟨by omega,by omega,rfl⟩
   split at h
   ·cases h;exact⟨by omega,by omega,rfl⟩
   ·cases h;exact⟨by omega,by omega,rfl⟩
  split at h
  ·rename_i hd
   rw[Option.map_eq_some_iff] at h
   obtain⟨v,_,h⟩:=h
   cases h
   refine⟨?_,h3,rfl⟩
   have:0<ym0 (c::r):=by unfold ym0;rw[List.takeWhile_cons,hd];simp
   unfold uh3
   split
   ·split<;>omega
   ·exact this
  split at h
  ·rw[Option.bind_eq_some_iff] at h
   obtain⟨m,h5,h⟩:=h
   rw[Option.map_eq_some_iff] at h
   obtain⟨v,_,h⟩:=h
   cases h
   have:=ux7 r m h5
   exact⟨by omega,by omega,rfl⟩
  split at h
  ·cases h
  ·cases h;exact⟨by omega,h4,rfl⟩
theorem Lex_is {N:Nat}{s:List UInt8}(hN:s.length+100≤N){r:(List q39)×qd5×Int×Unit}(hr:ja9 N s=some r)(h0:r.2.2.1=0):Lx N s (r.1.map qw0):=by
 unfold ja9 xf9 at hr
 by_cases hm:(s.length:Int)>65536
 ·rw[decide_eq_true hm,cond_true] at hr
  cases hr;simp at h0
 rw[decide_eq_false hm,cond_false] at hr
 dsimp only at hr
 -- from a place on: what is told is what was there, and the words behind
 have main:∀ (M:Nat) (out:List q39) (line begin:Int) (a:Nat) (r:(List q39)×qd5×Int×Unit),a≤s.length→q80 (zu8 N s 0 0 0 0) M (out,line,begin,(a:Int))=some r→r.2.2.1=0→∃ l,r.1.map qw0=out.map qw0++l∧Lx N (s.drop a) l:=by
  intro M
  induction M with
  |zero=>intro _ _ _ _ _ _ h;cases h
  |succ M ih =>
   intro out line begin a r ha hr h0
   simp only[q80] at hr
   generalize q80 (zu8 N s 0 0 0 0) M=K at ih hr
   unfold zu8 yi9 at hr
   dsimp only at hr
   by_cases c:(a:Int)<(s.length:Int)
   ·obtain⟨x,q,e1,e2,e3⟩:=qt1 (s:=s) (a:=a) (by omega)
    have bq:∀ (n:UInt8) (m:Int),(n.toNat:Int)=m→((x.toNat:Int)==m)=decide (x=n):=fun n m hm=>by
     rw[← hm]
     by_cases e:x=n
     ·simp[e]
     ·have:¬ (x.toNat:Int)=(n.toNat:Int):=fun h=>e (UInt8.toNat_inj.1 (by omega))
      simp[e,this]
    rw[decide_eq_true c,cond_true,qi0 (by omega) (by omega),cond_true,e2,bq 32 32 rfl,bq 10 10 rfl,bq 59 59 rfl] at hr
    simp only[Bool.cond_decide] at hr
    have ea:(a:Int)+1=((a+1:Nat):Int):=by omega
    rw[e1]
    by_cases c1:x=32
    ·rw[if_pos c1,inI (by omega) (by omega),cond_true,ea] at hr
     obtain⟨l,h1,h2⟩:=ih _ _ _ _ _ (by omega) hr h0
     rw[e3] at h2
     exact⟨l,h1,c1 ▸ .space h2⟩
    rw[if_neg c1] at hr
    by_cases c2:x=10
    ·rw[if_pos c2,inI (by omega) (by omega),cond_true] at hr
     by_cases c3:q24 (line+1)=true
     ·rw[c3,cond_true,ea] at hr
      obtain⟨l,h1,h2⟩:=ih _ _ _ _ _ (by omega) hr h0
      rw[e3] at h2
      exact⟨l,h1,c2 ▸ .line h2⟩
     ·have c3:q24 (line+1)=false:=by simpa using c3
      rw[c3] at hr;cases hr
    rw[if_neg c2] at hr
    by_cases c3:x=59
    ·rw[if_pos c3] at hr
     -- a comment
     have com:∀ (M2:Nat) (b:Nat),a≤b→b≤s.length→(b=a∨(s.drop (a+1)).dropWhile lineB=(s.drop b).dropWhile lineB∧a<b)→q80 (jb0 N s out line begin 0 0 0 0 K) M2 (b:Int)=some r→∃ d,d≤s.length∧s.drop d=(s.drop (a+1)).dropWhile lineB∧K (out,line,begin,(d:Int))=some r:=by
      intro M2
      induction M2 with
      |zero=>intro _ _ _ _ h;cases h
      |succ M2 ih2 =>
       intro b hab hb hst hr
       simp only[q80] at hr
       generalize q80 (jb0 N s out line begin 0 0 0 0 K) M2=K2 at ih2 hr
       unfold jb0 at hr
       dsimp only at hr
       by_cases d1:(b:Int)<(s.length:Int)
       ·obtain⟨y,p,f1,f2,f3⟩:=qt1 (s:=s) (a:=b) (by omega)
        have eb:(b:Int)+1=((b+1:Nat):Int):=by omega
        rw[decide_eq_true d1,cond_true,qi0 (by omega) (by omega),cond_true,f2] at hr
        by_cases d2:y=10
        ·subst d2
         have t:(((10:UInt8).toNat:Int) != 10)=false:=rfl
         rw[t,cond_false] at hr
         rcases hst with rfl|⟨hst,_⟩
         ·exfalso
          rw[f1] at e1
          simp only[List.cons.injEq] at e1
          rw[← e1.1] at c2
          exact c2 rfl
         ·refine⟨b,hb,?_,hr⟩
          rw[hst,f1,List.dropWhile_cons]
          rfl
        ·have t:((y.toNat:Int) != 10)=true:=by
          have:¬ (y.toNat:Int)=10:=fun h=>d2 (UInt8.toNat_inj.1 (by simp;omega))
          simpa using this
         rw[t,cond_true,inI (by omega) (by omega),cond_true,eb] at hr
         refine ih2 (b+1) (by omega) (by omega) (.inr ⟨?_,by omega⟩) hr
         rcases hst with rfl|⟨hst,_⟩
         ·rfl
         ·rw[hst,f1,List.dropWhile_cons]
          have:lineB y=true:=decide_eq_true d2
          rw[this,f3]
          rfl
       ·have hbl:b=s.length:=by omega
        rw[decide_eq_false d1,cond_false] at hr
        rcases hst with rfl|⟨hst,_⟩
        ·omega
        ·refine⟨b,hb,?_,hr⟩
         rw[hst,hbl,List.drop_length]
         rfl
     obtain⟨d,d1,d2,d3⟩:=com N a (by omega) ha (.inl rfl) hr
     obtain⟨l,h1,h2⟩:=ih _ _ _ _ _ d1 d3 h0
     rw[d2,e3] at h2
     exact⟨l,h1,c3 ▸ .com h2⟩
    rw[if_neg c3] at hr
    cases c4:q24 ((a:Int)-begin) with
    |false=>rw[c4] at hr;cases hr
    |true =>
    cases c5:q24 (((a:Int)-begin)+1) with
    |false=>rw[c4,c5] at hr;cases hr
    |true =>
    rw[c4,cond_true,c5,cond_true] at hr
    cases hw:jm8 N s (a:Int) with
    |none=>rw[hw] at hr;cases hr
    |some w =>
     rw[hw,Option.bind_some] at hr
     by_cases c6:w.2.2.1=0
     ·have t:(w.2.2.1 != 0)=false:=by rw[c6];rfl
      rw[t,cond_false] at hr
      obtain⟨n,w1,w2,w3,w4⟩:=Word_is (by omega) (by omega) (by omega) hw c6
      cases hf:qr1 (out.length+([(w.1.1,w.1.2.1,w.1.2.2.1,(line,((a:Int)-begin)+1,()),())]:List q39).length) 1954687338268 with
      |false=>rw[hf] at hr;cases hr
      |true =>
       rw[hf,cond_true,w2] at hr
       obtain⟨l,h1,h2⟩:=ih _ _ _ _ _ w4 hr h0
       refine⟨w.1::l,?_,?_⟩
       ·rw[h1,List.map_append,List.append_assoc]
        rw[e1] at w1
        have:=(wordF_pos w1).2.2
        simp only[List.map_cons,List.map_nil,List.singleton_append]
        congr 2
       ·rw[e1] at w1
        refine .tok c1 c2 c3 w1 ?_
        rw[← e1,List.drop_drop]
        exact h2
     ·have t:(w.2.2.1 != 0)=true:=by simpa using c6
      rw[t,cond_true] at hr
      cases hr
      exact absurd h0 c6
   ·rw[decide_eq_false c,cond_false] at hr
    cases hr
    refine⟨[],by simp,?_⟩
    rw[List.drop_eq_nil_of_le (by omega)]
    exact .done
 obtain⟨l,h1,h2⟩:=main N [] 1 0 0 r (by omega) hr h0
 rw[List.map_nil,List.nil_append] at h1
 rw[h1]
 exact h2
end Go.Proofs.YtgicljncknbgcaaGreat.Abs
