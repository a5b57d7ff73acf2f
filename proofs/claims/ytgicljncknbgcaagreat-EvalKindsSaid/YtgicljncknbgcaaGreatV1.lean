/- Package value: what the told functions tell: orders, comparisons. -/
import Derived.Test.YtgicljncknbgcaaGreatN2
set_option linter.unusedVariables false
set_option linter.unusedSimpArgs false
set_option linter.unusedSectionVars false
namespace Go.Proofs.YtgicljncknbgcaaGreat.Abs
open Go
abbrev WfV (v:q00):Prop:=0≤v.1∧v.1≤255∧I64 v.2.1
def xl9 (x y:Int):Int:=if x<y then -1 else if x>y then 1 else 0
def cmpL (x y:List UInt8):Int:=if Op.bytesLess x y=true then -1 else if x=y then 0 else 1
structure Cp {α:Type} (f:α→α→Int):Prop where
 rng:∀ a b,-1≤f a b∧f a b≤1
 turn:∀ a b,f b a=-f a b
 zero:∀ a b,f a b=0↔a=b
 le:∀ a b c,f a b≤0→f b c≤0→f a c≤0
theorem cmpI_cp :Cp xl9:=by
 refine⟨?_,?_,?_,?_⟩<;>intros<;>simp only[xl9] at *<;>(repeat' split at *)<;>omega
def lex {α β:Type}(f:α→α→Int)(g:β→β→Int)(a b:α×β):Int:=if f a.1 b.1≠0 then f a.1 b.1 else g a.2 b.2
def ordV (a b:q00):Int:=lex xl9 (lex xl9 cmpL) (a.1,a.2.1,a.2.2.1) (b.1,b.2.1,b.2.2.1)
theorem yl5 (N:Nat)(x y:Int):qt2 N x y=some (xl9 x y):=by
 unfold qt2 w29 xl9
 simp only[bne_self_eq_false,Option.bind_some,cond_false]
 by_cases h1:x<y
 ·simp[h1]
 ·by_cases h2:x>y<;>simp[h1,h2]
theorem zc8 (N:Nat)(x y:Int):qk9 N x y=some (xl9 x y):=by
 unfold qk9 w28 xl9
 simp only[bne_self_eq_false,Option.bind_some,cond_false]
 by_cases h1:x<y
 ·simp[h1]
 ·by_cases h2:x>y<;>simp[h1,h2]
theorem y04 (N:Nat)(x y:Int):qi2 N x y=some (xl9 x y):=by
 unfold qi2 qy7 xl9
 simp only[bne_self_eq_false,Option.bind_some,cond_false]
 by_cases h1:x<y
 ·simp[h1]
 ·by_cases h2:x>y<;>simp[h1,h2]
theorem y02 (N:Nat)(x y:List UInt8):qo6 N x y=some (cmpL x y):=by
 unfold qo6 qy6 cmpL
 have h:(!(x==x))=false:=by simp
 have h':(!(y==y))=false:=by simp
 simp only[h,h',bne_self_eq_false,Option.bind_some,cond_false]
 cases h1:Op.bytesLess x y
 ·by_cases h2:x=y
  ·simp[h2]
  ·have h3:(x==y)=false:=by simpa using h2
   simp[h2,h3]
 ·simp
theorem nz (x:Int):(x != 0)=decide (x≠0):=by by_cases h:x=0<;>simp[h]
theorem i1 :q24 1=true:=rfl
theorem i2 :q24 2=true:=rfl
theorem i3 :q24 3=true:=rfl
theorem i4 :q24 4=true:=rfl
theorem cmp_Or3 (N:Nat)(hN:4≤N)(x y z:Int):w65 N [x,y,z]=some (if x≠0 then x else if y≠0 then y else z):=by
 obtain⟨n,rfl⟩:∃ n,N=n+4:=⟨N-4,by omega⟩
 unfold w65 zx7
 by_cases hx:x=0
 ·by_cases hy:y=0
  ·by_cases hz:z=0<;>simp[q80,qw4,inR,q17,nz,hx,hy,hz,i1,i2,i3]
  ·simp[q80,qw4,inR,q17,nz,hx,hy,i1,i2,i3]
 ·simp[q80,qw4,inR,q17,nz,hx]
theorem cmp_Or2 (N:Nat)(hN:4≤N)(x y:Int):w65 N [x,y]=some (if x≠0 then x else y):=by
 obtain⟨n,rfl⟩:∃ n,N=n+4:=⟨N-4,by omega⟩
 unfold w65 zx7
 by_cases hx:x=0
 ·by_cases hy:y=0<;>simp[q80,qw4,inR,q17,nz,hx,hy,i1,i2,i3]
 ·simp[q80,qw4,inR,q17,nz,hx]
theorem ud9 (N:Nat)(hN:4≤N)(a b:q00):wy7 N a b=some (ordV a b):=by
 unfold wy7
 rw[yl5,zc8,y02]
 simp only[Option.bind_some,cmp_Or3 N hN]
 rfl
def byV (v:q00):Nat:=if v.1=1 then 10000 else 1
def qj9 (v:q00):Int:=v.2.1*(byV v:Int)
theorem yu6 (N:Nat)(v:q00)(h:I64 v.2.1):wy8 N v=some (decide (v.2.1<0),((v.2.1.natAbs*byV v/18446744073709551616:Nat):Int),((v.2.1.natAbs*byV v % 18446744073709551616:Nat):Int),()):=by
 have hn:=h.nat
 obtain⟨k,n,s,u⟩:=v
 dsimp only at h hn ⊢
 have e1:n<0→IntKind.u64.wrap (0-IntKind.u64.wrap n)=((n.natAbs:Nat):Int):=fun h2=>by
  obtain⟨a1,a2⟩:=h
  rw[IntKind.wrap_u64,IntKind.wrap_u64];omega
 have e2:¬ n<0→IntKind.u64.wrap n=((n.natAbs:Nat):Int):=fun h2=>by
  obtain⟨a1,a2⟩:=h
  rw[IntKind.wrap_u64];omega
 have m1:=zm2 N n.natAbs 10000 hn (by omega)
 have m2:=zm2 N n.natAbs 1 hn (by omega)
 unfold wy8 byV
 dsimp only
 by_cases hneg:n<0
 ·rw[e1 hneg]
  by_cases hk:k=1
  ·have hk':(k==1)=true:=by simpa using hk
   simp only[hneg,hk',decide_true,cond_true,if_pos hk]
   rw[show (10000:Int)=((10000:Nat):Int) from rfl,m1]
   rfl
  ·have hk':(k==1)=false:=by simpa using hk
   simp only[hneg,hk',decide_true,cond_true,cond_false,if_neg hk]
   rw[show (1:Int)=((1:Nat):Int) from rfl,m2]
   rfl
 ·rw[e2 hneg]
  by_cases hk:k=1
  ·have hk':(k==1)=true:=by simpa using hk
   simp only[hneg,hk',decide_false,cond_true,cond_false,if_pos hk]
   rw[show (10000:Int)=((10000:Nat):Int) from rfl,m1]
   rfl
  ·have hk':(k==1)=false:=by simpa using hk
   simp only[hneg,hk',decide_false,cond_false,if_neg hk]
   rw[show (1:Int)=((1:Nat):Int) from rfl,m2]
   rfl
theorem q71 (N:Nat)(v:q00):q73 N v=some (decide (v.1=1∨v.1=2)):=by
 unfold q73
 by_cases h1:v.1=1
 ·simp[h1]
 ·by_cases h2:v.1=2
  ·simp[h2]
  ·have e1:(v.1==1)=false:=by simpa using h1
   have e2:(v.1==2)=false:=by simpa using h2
   simp[e1,e2,h1,h2]
def q4u (a b:q00):Int×Bool×Unit :=
 if (a.1=1∨a.1=2)∧(b.1=1∨b.1=2) then (xl9 (qj9 a) (qj9 b),true,())
 else if a.1=b.1∧3≤a.1∧a.1≤5 then (ordV a b,true,()) else (0,false,())
theorem cmp128 (X Y:Nat):(if xl9 ((X/18446744073709551616:Nat):Int) ((Y/18446744073709551616:Nat):Int)≠0 then xl9 ((X/18446744073709551616:Nat):Int) ((Y/18446744073709551616:Nat):Int) else xl9 ((X % 18446744073709551616:Nat):Int) ((Y % 18446744073709551616:Nat):Int))=xl9 X Y:=by
 have h1:=Nat.div_add_mod X 18446744073709551616
 have h2:=Nat.div_add_mod Y 18446744073709551616
 have h3:=Nat.mod_lt X (show 18446744073709551616>0 by omega)
 have h4:=Nat.mod_lt Y (show 18446744073709551616>0 by omega)
 generalize X/18446744073709551616=a at *
 generalize X % 18446744073709551616=b at *
 generalize Y/18446744073709551616=c at *
 generalize Y % 18446744073709551616=d at *
 unfold xl9
 (repeat' split)<;>omega
theorem up7 (v:q00):(qj9 v<0↔v.2.1<0)∧(qj9 v).natAbs=v.2.1.natAbs*byV v:=by
 unfold qj9 byV
 split
 ·exact⟨by omega,by omega⟩
 ·exact⟨by omega,by omega⟩
theorem x62 (N:Nat)(hN:4≤N)(a b:q00)(h:¬ ((a.1=1∨a.1=2)∧(b.1=1∨b.1=2)))(u:Unit):wf9 N a.1 a.2.1 a.2.2.1 b.1 b.2.1 b.2.2.1 u=some (q4u a b):=by
 unfold wf9 q4u
 rw[if_neg h]
 have ho:wy7 N (a.1,a.2.1,a.2.2.1,()) (b.1,b.2.1,b.2.2.1,())=some (ordV a b):=ud9 N hN a b
 rw[ho]
 by_cases h1:a.1=b.1
 ·by_cases h2:a.1<3
  ·rw[if_neg (by omega)]
   simp[h1,h1 ▸ h2]
  ·by_cases h3:a.1>5
   ·rw[if_neg (by omega)]
    have h2':¬ b.1<3:=h1 ▸ h2
    have h3':b.1>5:=h1 ▸ h3
    simp[h1,h2',h3']
   ·rw[if_pos (by omega)]
    have h2':¬ b.1<3:=h1 ▸ h2
    have h3':¬ b.1>5:=h1 ▸ h3
    simp[h1,h2',h3']
 ·rw[if_neg (by omega)]
  have e:(a.1 != b.1)=true:=by simpa using h1
  simp[e]
theorem js4 (N:Nat)(hN:4≤N)(a b:q00)(ha:I64 a.2.1)(hb:I64 b.2.1):q93 N a b=some (q4u a b):=by
 unfold q93 zv9
 rw[q71,q71,yu6 N a ha,yu6 N b hb]
 simp only[Option.bind_some,q95 (show 0<N by omega)]
 by_cases h1:a.1=1∨a.1=2
 ·by_cases h2:b.1=1∨b.1=2
  ·simp only[h1,h2,decide_true,cond_true,y04,Option.bind_some,cmp_Or2 N hN]
   have hc:q4u a b=(xl9 (qj9 a) (qj9 b),true,()):=if_pos ⟨h1,h2⟩
   rw[hc]
   obtain⟨s1,s2⟩:=up7 a
   obtain⟨t1,t2⟩:=up7 b
   rw[← s2,← t2,cmp128]
   have hr:=cmpI_cp.rng ((qj9 a).natAbs:Int) ((qj9 b).natAbs:Int)
   have hi:q24 (0-xl9 ((qj9 a).natAbs:Int) ((qj9 b).natAbs:Int))=true:=inI (by omega) (by omega)
   rw[hi]
   by_cases n1:a.2.1<0
   ·by_cases n2:b.2.1<0
    ·simp only[n1,n2,decide_true,beq_self_eq_true,Bool.not_true,cond_false,cond_true]
     have:0-xl9 ((qj9 a).natAbs:Int) ((qj9 b).natAbs:Int)=xl9 (qj9 a) (qj9 b):=by
      have:=s1.2 n1;have:=t1.2 n2
      unfold xl9
      (repeat' split)<;>omega
     rw[this]
    ·simp only[n1,n2,decide_true,decide_false]
     have:xl9 (qj9 a) (qj9 b)=-1:=by
      have:=s1.2 n1;have:¬ qj9 b<0:=fun h=>n2 (t1.1 h)
      unfold xl9
      (repeat' split)<;>omega
     rw[this]
     rfl
   ·by_cases n2:b.2.1<0
    ·simp only[n1,n2,decide_true,decide_false]
     have:xl9 (qj9 a) (qj9 b)=1:=by
      have:=t1.2 n2;have:¬ qj9 a<0:=fun h=>n1 (s1.1 h)
      unfold xl9
      (repeat' split)<;>omega
     rw[this]
     rfl
    ·simp only[n1,n2,decide_false,beq_self_eq_true,Bool.not_true,cond_false]
     have:xl9 ((qj9 a).natAbs:Int) ((qj9 b).natAbs:Int)=xl9 (qj9 a) (qj9 b):=by
      have:¬ qj9 a<0:=fun h=>n1 (s1.1 h);have:¬ qj9 b<0:=fun h=>n2 (t1.1 h)
      unfold xl9
      (repeat' split)<;>omega
     rw[this]
  ·simp only[h1,h2,decide_true,decide_false,cond_true,cond_false]
   exact x62 N hN a b (fun h=>h2 h.2) ()
 ·simp only[h1,decide_false,cond_false]
  exact x62 N hN a b (fun h=>h1 h.1) ()
def u39 :q00:=(0,0,[],())
def we6 (b:Bool):q00:=(4,bif b then 1 else 0,[],())
def vd1 :q00:=(4,1,[],())
theorem qh9 (N:Nat)(b:Bool):q97 N b=some (we6 b):=by cases b<;>rfl
def kf0 (v:q00):q00:=if v.1=4 then we6 (v.2.1==0) else u39
theorem yg1 (N:Nat)(v:q00):zw0 N v=some (kf0 v):=by
 unfold zw0 kf0
 by_cases h:v.1=4
 ·simp[h,qh9]
 ·have e:(v.1 != 4)=true:=by simpa using h
  rw[e,if_neg h];rfl
def allS (out:q00):List q00→q00
 |[]=>out
 |v::l=>if v.1=4∧v.2.1=0∧v.2.2.1=[] then v else allS (if v.1=4 then out else u39) l
theorem getD_drop {α:Type}(l:List α)(k:Nat)(d:α)(h:k<l.length):l.drop k=l.getD k d::l.drop (k+1):=by
 rw[List.drop_eq_getElem_cons h]
 simp[List.getD,h]
theorem q3y (N:Nat)(l:List q00)(hl:l.length≤1000000):∀ (M k:Nat) (out:q00),k≤l.length→l.length-k<M →
  q80 (z94 N l (l.length:Int) 0 0 []) M ((k:Int),out.1,out.2.1,out.2.2.1)=some (allS out (l.drop k))
 |0,k,out,hk,hM=>absurd hM (by omega)
 |M+1,k,out,hk,hM=>by
  have ih:=q3y N l hl M (k+1)
  rw[q80]
  generalize q80 (z94 N l (l.length:Int) 0 0 []) M=K at *
  unfold z94
  simp only[]
  by_cases h:k<l.length
  ·have e1:decide ((k:Int)<(l.length:Int))=true:=by simpa using h
   have e2:inR (k:Int) l.length=true:=by unfold inR;simpa using h
   have e3:q24 ((k:Int)+1)=true:=inI (by omega) (by omega)
   have e4:q17 l (k:Int) q26=l.getD k q26:=rfl
   rw[e1,e2,e3,e4,qh9,getD_drop l k q26 h]
   generalize l.getD k q26=v at *
   simp only[cond_true,Option.bind_some,allS,we6,cond_false,Bool.and_true]
   by_cases h1:v.1=4∧v.2.1=0∧v.2.2.1=[]
   ·rw[if_pos h1]
    obtain⟨h1,h2,h3⟩:=h1
    simp[h1,h2,h3]
   ·rw[if_neg h1]
    have e5:(v.1==4&&(v.2.1==0&&v.2.2.1==[]))=false:=by
     rw[Bool.eq_false_iff];intro h;apply h1;simpa using h
    rw[e5]
    by_cases h2:v.1=4
    ·have e6:(v.1 != 4)=false:=by simpa using h2
     rw[e6,if_pos h2]
     exact ih out (by omega) (by omega)
    ·have e6:(v.1 != 4)=true:=by simpa using h2
     rw[e6,if_neg h2]
     exact ih u39 (by omega) (by omega)
  ·have e1:decide ((k:Int)<(l.length:Int))=false:=by simpa using h
   rw[e1,show l.drop k=[] from List.drop_eq_nil_of_le (by omega)]
   rfl
theorem v94 (N:Nat)(l:List q00)(hl:l.length≤1000000)(hN:l.length<N):wq9 N l=some (allS vd1 l):=by
 unfold wq9 x53
 rw[qh9]
 exact q3y N l hl N 0 vd1 (by omega) (by omega)
theorem q3z (N:Nat)(l:List q00)(hl:l.length≤1000000)(hN:l.length<N):∀ (M k:Nat),k≤l.length→l.length-k<M →
  q80 (z96 N l (l.length:Int) 0 0 []) M ((l.take k).map kf0,(k:Int))=some (kf0 (allS vd1 (l.map kf0)))
 |0,k,hk,hM=>absurd hM (by omega)
 |M+1,k,hk,hM=>by
  have ih:=q3z N l hl hN M (k+1)
  rw[q80]
  generalize q80 (z96 N l (l.length:Int) 0 0 []) M=K at *
  unfold z96
  simp only[]
  by_cases h:k<l.length
  ·have e1:decide ((k:Int)<(l.length:Int))=true:=by simpa using h
   have e2:inR (k:Int) l.length=true:=by unfold inR;simpa using h
   have e3:q24 ((k:Int)+1)=true:=inI (by omega) (by omega)
   have e4:q17 l (k:Int) q26=l.getD k q26:=rfl
   have ih:=ih (by omega) (by omega)
   rw[e1,e2,e3,e4,yg1]
   simp only[cond_true,Option.bind_some]
   have e5:qr1 (((l.take k).map kf0).length+([kf0 (l.getD k q26)]:List q00).length) 4398046511104=true:=by
    unfold qr1
    rw[Nat.ble_eq]
    simp;omega
   rw[e5]
   simp only[cond_true]
   rw[List.take_succ_eq_append_getElem h,List.map_append] at ih
   simp only[List.getD,List.getElem?_eq_getElem h,Option.getD_some]
   exact ih
  ·have e1:decide ((k:Int)<(l.length:Int))=false:=by simpa using h
   rw[e1,List.take_of_length_le (by omega)]
   simp only[cond_false]
   rw[v94 N _ (by simpa using hl) (by simpa using hN)]
   simp only[Option.bind_some,yg1]
theorem ks7 (N:Nat)(l:List q00)(hl:l.length≤1000000)(hN:l.length<N):z95 N l=some (kf0 (allS vd1 (l.map kf0))):=by
 unfold z95 x55
 exact q3z N l hl hN N 0 (by omega) (by omega)
theorem ur2 (N:Nat)(hN:4≤N)(a b:q00)(h:¬ (a.1=1∨a.1=2))(h0:a.1≠0):q98 N [a,b]=some ([],false,8,()):=by
 obtain⟨n,rfl⟩:∃ n,N=n+4:=⟨N-4,by omega⟩
 unfold q98 qq4
 have e:q73 (n+4) a=some false:=by rw[q71];simp[h]
 have e0:(a.1 != 0)=true:=by simpa using h0
 simp[q80,qa1,q99,inR,q17,e,e0]
theorem fits1 :qr1 1 4398046511104=true:=rfl
theorem fits2 :qr1 2 4398046511104=true:=rfl
theorem ku0 (N:Nat)(v:q00)(h:I64 v.2.1)(h1:v.1=1):we9 N v=some (if I64 (v.2.1*10000) then ((2,v.2.1*10000,[],()),0,()) else ((0,0,[],()),9,())):=by
 unfold we9
 rw[kg4 N h]
 have e:(v.1==2)=false:=by rw[h1];rfl
 rw[e]
 by_cases hs:I64 (v.2.1*10000)
 ·rw[uv6 hs,if_pos hs];rfl
 ·rw[yh8 hs,if_neg hs];rfl
theorem q3p (N:Nat)(v:q00)(h1:v.1=2):we9 N v=some (v,0,()):=by
 unfold we9
 have e:(v.1==2)=true:=by rw[h1];rfl
 rw[e];rfl
theorem q7t (N:Nat)(hN:4≤N)(a b:q00)(h1:a.1=1)(h2:b.1=1):q98 N [a,b]=some ([(1,a.2.1,[],()),(1,b.2.1,[],())],false,0,()):=by
 obtain⟨n,rfl⟩:∃ n,N=n+4:=⟨N-4,by omega⟩
 unfold q98 qq4
 have ea:q73 (n+4) a=some true:=by rw[q71];simp[h1]
 have eb:q73 (n+4) b=some true:=by rw[q71];simp[h2]
 simp[q80,qa1,q99,qr4,inR,q17,ea,eb,h1,h2,i1,i2,i3,jl7,fits1,fits2]
def ks1 (x y:q00):Option ((List q00)×Bool×Int×Unit):=some ([(2,x.2.1,[],()),(2,y.2.1,[],())],false,0,())
theorem q7s (N:Nat)(hN:4≤N)(a b x y:q00)(e f:Int)(h1:a.1=1∨a.1=2)(h2:b.1=1∨b.1=2)(h:a.1=2∨b.1=2)
  (hx:we9 N a=some (x,e,())) (hy:we9 N b=some (y,f,())) :
  q98 N [a,b]=if e≠0 then some ([],false,e,()) else if f≠0 then some ([],false,f,()) else ks1 x y:=by
 obtain⟨n,rfl⟩:∃ n,N=n+4:=⟨N-4,by omega⟩
 unfold q98 qq4
 have ea:q73 (n+4) a=some true:=by rw[q71];simp[h1]
 have eb:q73 (n+4) b=some true:=by rw[q71];simp[h2]
 have hm:jl7 (jl7 1 a.1) b.1=2:=by
  rcases h1 with h1|h1<;>rcases h2 with h2|h2<;>first|(exfalso;omega)|(rw[h1,h2];rfl)
 have n1:(a.1==0)=false:=by rcases h1 with h1|h1<;>rw[h1]<;>rfl
 have n2:(b.1==0)=false:=by rcases h2 with h2|h2<;>rw[h2]<;>rfl
 by_cases he:e=0
 ·by_cases hf:f=0
  ·simp[q80,qa1,q99,qr4,inR,q17,ea,eb,n1,n2,i1,i2,i3,hm,fits1,fits2,hx,hy,he,hf,nz,ks1]
  ·simp[q80,qa1,q99,qr4,inR,q17,ea,eb,n1,n2,i1,i2,i3,hm,fits1,fits2,hx,hy,he,hf,nz,ks1]
 ·simp[q80,qa1,q99,qr4,inR,q17,ea,eb,n1,n2,i1,i2,i3,hm,fits1,fits2,hx,hy,he,nz,ks1]
def q7v (v:q00):Prop:=¬ (v.1=1∨v.1=2)∧v.1≠0
instance (v:q00):Decidable (q7v v):=inferInstanceAs (Decidable (_∧_))
instance (n:Int):Decidable (I64 n):=inferInstanceAs (Decidable (_∧_))
def finV (k:Int)(r:Int×Int×Unit):q00×Int×Unit:=if r.2.1≠0 then (u39,r.2.1,()) else ((k,r.1,[],()),0,())
def doS (g h:Int→Int→Int×Int×Unit)(a b:q00):q00×Int×Unit :=
 if q7v a∨q7v b then (u39,8,())
 else if a.1=0∨b.1=0 then (u39,0,())
 else if a.1=1∧b.1=1 then finV 1 (g a.2.1 b.2.1)
 else if ¬ I64 (qj9 a)∨¬ I64 (qj9 b) then (u39,9,())
 else finV 2 (h (qj9 a) (qj9 b))
def alikeS (a b:q00):(List q00)×Bool×Int×Unit :=
 if q7v a∨q7v b then ([],false,8,())
 else if a.1=0∨b.1=0 then ([],true,0,())
 else if a.1=1∧b.1=1 then ([(1,a.2.1,[],()),(1,b.2.1,[],())],false,0,())
 else if ¬ I64 (qj9 a)∨¬ I64 (qj9 b) then ([],false,9,())
 else ([(2,qj9 a,[],()),(2,qj9 b,[],())],false,0,())
theorem worth1 {v:q00}(h:v.1=1):qj9 v=v.2.1*10000:=by unfold qj9 byV;rw[if_pos h];rfl
theorem worth2 {v:q00}(h:v.1=2):qj9 v=v.2.1:=by unfold qj9 byV;rw[if_neg (by omega)];omega
theorem dec_is (N:Nat)(v:q00)(h:I64 v.2.1)(hk:v.1=1∨v.1=2):∃ x:q00,∃ e:Int,we9 N v=some (x,e,())∧(I64 (qj9 v)→e=0∧x.2.1=qj9 v)∧(¬ I64 (qj9 v)→e=9):=by
 rcases hk with h1|h2
 ·rw[ku0 N v h h1,worth1 h1]
  by_cases hs:I64 (v.2.1*10000)
  ·rw[if_pos hs];exact⟨_,_,rfl,fun _=>⟨rfl,rfl⟩,fun h=>absurd hs h⟩
  ·rw[if_neg hs];exact⟨_,_,rfl,fun h=>absurd h hs,fun _=>rfl⟩
 ·rw[q3p N v h2,worth2 h2]
  exact⟨_,_,rfl,fun _=>⟨rfl,rfl⟩,fun hs=>absurd h hs⟩
theorem alike_is (N:Nat)(hN:4≤N)(a b:q00)(ha:I64 a.2.1)(hb:I64 b.2.1):q98 N [a,b]=some (alikeS a b):=by
 unfold alikeS
 by_cases h1:q7v a
 ·rw[if_pos (.inl h1)]
  exact ur2 N hN a b h1.1 h1.2
 have n1:(a.1=1∨a.1=2)∨a.1=0:=by unfold q7v at h1;omega
 by_cases h2:q7v b
 ·rw[if_pos (.inr h2)]
  obtain⟨n,rfl⟩:∃ n,N=n+4:=⟨N-4,by omega⟩
  unfold q98 qq4
  have eb:q73 (n+4) b=some false:=by rw[q71];simp[h2.1]
  have e0:(b.1 != 0)=true:=by simpa using h2.2
  rcases n1 with n1|n1
  ·have ea:q73 (n+4) a=some true:=by rw[q71];simp[n1]
   simp[q80,qa1,q99,inR,q17,ea,eb,e0,i1,i2]
  ·have ea:q73 (n+4) a=some false:=by rw[q71];simp[n1]
   simp[q80,qa1,q99,inR,q17,ea,eb,e0,n1,i1,i2]
 have n2:(b.1=1∨b.1=2)∨b.1=0:=by unfold q7v at h2;omega
 rw[if_neg (fun h=>h.elim h1 h2)]
 by_cases h3:a.1=0∨b.1=0
 ·rw[if_pos h3]
  obtain⟨n,rfl⟩:∃ n,N=n+4:=⟨N-4,by omega⟩
  unfold q98 qq4
  rcases n1 with n1|n1
  ·have ea:q73 (n+4) a=some true:=by rw[q71];simp[n1]
   have hb0:b.1=0:=by omega
   have eb:q73 (n+4) b=some false:=by rw[q71];simp[hb0]
   have z1:(a.1==0)=false:=by rcases n1 with n1|n1<;>rw[n1]<;>rfl
   simp[q80,qa1,q99,inR,q17,ea,eb,hb0,z1,i1,i2,i3]
  ·have ea:q73 (n+4) a=some false:=by rw[q71];simp[n1]
   rcases n2 with n2|n2
   ·have eb:q73 (n+4) b=some true:=by rw[q71];simp[n2]
    simp[q80,qa1,q99,inR,q17,ea,eb,n1,i1,i2,i3]
   ·have eb:q73 (n+4) b=some false:=by rw[q71];simp[n2]
    simp[q80,qa1,q99,inR,q17,ea,eb,n1,n2,i1,i2,i3]
 rw[if_neg h3]
 have n1:a.1=1∨a.1=2:=by omega
 have n2:b.1=1∨b.1=2:=by omega
 by_cases h4:a.1=1∧b.1=1
 ·rw[if_pos h4]
  exact q7t N hN a b h4.1 h4.2
 ·rw[if_neg h4]
  obtain⟨x,e,hx,x1,x2⟩:=dec_is N a ha n1
  obtain⟨y,f,hy,y1,y2⟩:=dec_is N b hb n2
  rw[q7s N hN a b x y e f n1 n2 (by omega) hx hy]
  by_cases k1:I64 (qj9 a)
  ·obtain⟨x0,x3⟩:=x1 k1
   subst x0
   rw[if_neg (by simp)]
   by_cases k2:I64 (qj9 b)
   ·obtain⟨y0,y3⟩:=y1 k2
    subst y0
    rw[if_neg (by simp),if_neg (fun h=>h.elim (fun h=>h k1) (fun h=>h k2))]
    unfold ks1
    rw[x3,y3]
   ·rw[y2 k2,if_pos (by simp),if_pos (.inr k2)]
  ·rw[x2 k1,if_pos (by simp),if_pos (.inl k1)]
def doT (F G:Int→Int→Option (Int×Int×Unit))(r:(List q00)×Bool×Int×Unit):Option (q00×Int×Unit) :=
 bif r.2.1 then
  some ((0,0,[],()),r.2.2.1,())
 else
  bif (r.2.2.1 != 0) then
   some ((0,0,[],()),r.2.2.1,())
  else
   bif inR 0 r.1.length then
   bif (((q17 r.1 0 q26).1)==2) then
    bif inR 0 r.1.length then
    bif inR 1 r.1.length then
    (F ((q17 r.1 0 q26).2.1) ((q17 r.1 1 q26).2.1)).bind fun (r1:Int×Int×Unit) =>
    bif (r1.2.1 != 0) then
     some ((0,0,[],()),r1.2.1,())
    else
     bif inR 0 r.1.length then
     some (((q17 r.1 0 q26).1,r1.1,[],()),0,())
     else none
    else none
    else none
   else
    bif inR 0 r.1.length then
    bif inR 1 r.1.length then
    (G ((q17 r.1 0 q26).2.1) ((q17 r.1 1 q26).2.1)).bind fun (r2:Int×Int×Unit) =>
    bif (r2.2.1 != 0) then
     some ((0,0,[],()),r2.2.1,())
    else
     bif inR 0 r.1.length then
     some (((q17 r.1 0 q26).1,r2.1,[],()),0,())
     else none
    else none
    else none
   else none
theorem do_is (N:Nat)(hN:4≤N){F G:Int→Int→Option (Int×Int×Unit)}{g h:Int→Int→Int×Int×Unit}(hF:∀ a b,I64 a→I64 b→F a b=some (h a b))(hG:∀ a b,I64 a→I64 b→G a b=some (g a b))(a b:q00)(ha:I64 a.2.1)(hb:I64 b.2.1):
  (q98 N [a,b]).bind (doT F G)=some (doS g h a b):=by
 rw[alike_is N hN a b ha hb,Option.bind_some]
 unfold alikeS doS
 by_cases h1:q7v a∨q7v b
 ·rw[if_pos h1,if_pos h1];rfl
 rw[if_neg h1,if_neg h1]
 by_cases h2:a.1=0∨b.1=0
 ·rw[if_pos h2,if_pos h2];rfl
 rw[if_neg h2,if_neg h2]
 by_cases h3:a.1=1∧b.1=1
 ·rw[if_pos h3,if_pos h3]
  have e:=hG _ _ ha hb
  unfold finV
  by_cases hr:(g a.2.1 b.2.1).2.1=0
  ·rw[if_neg (by simpa using hr)]
   simp[doT,inR,q17,e,hr]
  ·rw[if_pos hr]
   simp[doT,inR,q17,e,hr,nz,u39]
 rw[if_neg h3,if_neg h3]
 by_cases h4:¬ I64 (qj9 a)∨¬ I64 (qj9 b)
 ·rw[if_pos h4,if_pos h4];rfl
 rw[if_neg h4,if_neg h4]
 have e:=hF _ _ (Decidable.byContradiction fun h=>h4 (.inl h)) (Decidable.byContradiction fun h=>h4 (.inr h))
 unfold finV
 by_cases hr:(h (qj9 a) (qj9 b)).2.1=0
 ·rw[if_neg (by simpa using hr)]
  simp[doT,inR,q17,e,hr]
 ·rw[if_pos hr]
  simp[doT,inR,q17,e,hr,nz,u39]
def gAdd (a b:Int):=xd3 (a+b)
def gSub (a b:Int):=xd3 (a-b)
def gMul (a b:Int):=xd3 (a*b)
def hMul (a b:Int):=xd3 (evenV (a*b) 10000)
def gQuo (a b:Int):Int×Int×Unit:=if b=0 then (0,10,()) else xd3 (a.tdiv b)
def hQuo (a b:Int):Int×Int×Unit:=if b=0 then (0,10,()) else xd3 (evenV (a*10000) b)
theorem vg5 {α:Type}(o:Option α):(o.bind fun r=>some r)=o:=by cases o<;>rfl
theorem ks3 (N:Nat)(hN:10≤N)(a b:q00)(ha:I64 a.2.1)(hb:I64 b.2.1):je5 N a b=some (doS gAdd gAdd a b):=by
 unfold je5
 rw[vg5]
 exact do_is N (by omega) (F:=ya4 N) (G:=ya4 N) (fun a b ha hb=>uh4 N ha hb) (fun a b ha hb=>uh4 N ha hb) a b ha hb
theorem va1 (N:Nat)(hN:10≤N)(a b:q00)(ha:I64 a.2.1)(hb:I64 b.2.1):zw1 N a b=some (doS gSub gSub a b):=by
 unfold zw1
 rw[vg5]
 exact do_is N (by omega) (F:=ya6 N) (G:=ya6 N) (fun a b ha hb=>uh6 N ha hb) (fun a b ha hb=>uh6 N ha hb) a b ha hb
theorem kt5 (N:Nat)(hN:10≤N)(a b:q00)(ha:I64 a.2.1)(hb:I64 b.2.1):je7 N a b=some (doS gMul hMul a b):=by
 unfold je7
 rw[vg5]
 exact do_is N (by omega) (F:=zo2 N) (G:=yz0 N) (fun a b ha hb=>by rw[uw7 N hN ha hb,ui1 a b (by omega)];rfl) (fun a b ha hb=>uh5 N ha hb) a b ha hb
theorem kt0 (N:Nat)(hN:10≤N)(a b:q00)(ha:I64 a.2.1)(hb:I64 b.2.1):je6 N a b=some (doS gQuo hQuo a b):=by
 unfold je6
 rw[vg5]
 refine do_is N (by omega) (F:=zo1 N) (G:=xp7 N) (fun a b ha hb=>?_) (fun a b ha hb=>?_) a b ha hb
 ·unfold hQuo
  by_cases h:b=0
  ·subst h;rfl
  ·rw[uw4 N hN ha hb h,ui1 a 10000 h,if_neg h]
 ·unfold gQuo
  by_cases h:b=0
  ·subst h;rfl
  ·rw[q8x N ha hb h,if_neg h]
end Go.Proofs.YtgicljncknbgcaaGreat.Abs
