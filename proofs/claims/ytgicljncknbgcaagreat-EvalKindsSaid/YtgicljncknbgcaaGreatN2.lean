/- Division of 128 bits: the numbers. -/
import Derived.Test.YtgicljncknbgcaaGreatN1
set_option linter.unusedVariables false
set_option linter.unusedSimpArgs false
set_option linter.unusedSectionVars false
namespace Go.Proofs.YtgicljncknbgcaaGreat.Abs
open Go
theorem q_le (u c y1 y0 B:Nat)(hB:B=4294967296)(hy1:2147483648≤y1)(hy0:y0<B)(hc:c<B)(hu:u<y1*B+y0):
  (u*B+c)/(y1*B+y0)≤u/y1∧u/y1≤4294967297∧(u*B+c)/(y1*B+y0)<B:=by
 subst hB
 refine⟨?_,?_,?_⟩
 ·rw[Nat.le_div_iff_mul_le (by omega)]
  have h:=Nat.div_mul_le_self (u*4294967296+c) (y1*4294967296+y0)
  generalize (u*4294967296+c)/(y1*4294967296+y0)=Q at *
  have h1:Q*(y1*4294967296+y0)=Q*y1*4294967296+Q*y0:=by rw[Nat.mul_add,← Nat.mul_assoc]
  have h2:0≤Q*y0:=Nat.zero_le _
  rw[h1] at h
  generalize Q*y1=a at *
  generalize Q*y0=b at *
  omega
 ·have:u/y1<4294967298:=by
   rw[Nat.div_lt_iff_lt_mul (by omega)]
   omega
  omega
 ·rw[Nat.div_lt_iff_lt_mul (by omega)]
  omega
theorem found (u c y1 y0 q:Nat)(hy:0<y1*4294967296+y0)(hq:(u*4294967296+c)/(y1*4294967296+y0)≤q)(hu:q*y1≤u)
  (ht:q*y0≤4294967296*(u-q*y1)+c):q=(u*4294967296+c)/(y1*4294967296+y0):=by
 refine Nat.le_antisymm ?_ hq
 rw[Nat.le_div_iff_mul_le hy,Nat.mul_add,← Nat.mul_assoc]
 generalize q*y1=a at *
 generalize q*y0=b at *
 omega
theorem lower (u c y1 y0 q:Nat)(hy:0<y1*4294967296+y0)(hu:q*y1≤u)
  (ht:4294967296*(u-q*y1)+c<q*y0):(u*4294967296+c)/(y1*4294967296+y0)≤q-1∧1≤q:=by
 have h:(u*4294967296+c)/(y1*4294967296+y0)<q:=by
  rw[Nat.div_lt_iff_lt_mul hy,Nat.mul_add,← Nat.mul_assoc]
  generalize q*y1=a at *
  generalize q*y0=b at *
  omega
 generalize (u*4294967296+c)/(y1*4294967296+y0)=Q at *
 omega
theorem div_start (hi lo y s:Nat)(h0:0<hi)(h1:lo<18446744073709551616)(h3:hi<y)(hs:s≤63)(hy1:9223372036854775808≤y*2 ^ s)(hy2:y*2 ^ s<18446744073709551616):
  (hi*18446744073709551616+lo)*2 ^ s % 18446744073709551616=lo*2 ^ s % 18446744073709551616 ∧
  (hi*2 ^ s) ||| (lo/2 ^ (64-s))=(hi*18446744073709551616+lo)*2 ^ s/18446744073709551616∧hi*2 ^ s+2 ^ s≤y*2 ^ s ∧
  (hi*18446744073709551616+lo)*2 ^ s/18446744073709551616<y*2 ^ s:=by
 have e64:2 ^ s*2 ^ (64-s)=18446744073709551616:=by rw[← Nat.pow_add,show s+(64-s)=64 by omega]
 have hp:0<2 ^ s:=Nat.two_pow_pos s
 have hp2:0<2 ^ (64-s):=Nat.two_pow_pos _
 have hle:hi*2 ^ s+2 ^ s≤y*2 ^ s:=by
  have:(hi+1)*2 ^ s≤y*2 ^ s:=Nat.mul_le_mul_right _ h3
  rw[Nat.add_mul,Nat.one_mul] at this;exact this
 have hlo:lo/2 ^ (64-s)<2 ^ s:=by
  rw[Nat.div_lt_iff_lt_mul hp2,e64];exact h1
 have ex:(hi*18446744073709551616+lo)*2 ^ s=18446744073709551616*(hi*2 ^ s)+lo*2 ^ s:=by
  rw[Nat.add_mul,Nat.mul_right_comm,Nat.mul_comm (hi*2 ^ s)]
 have ed:lo*2 ^ s/18446744073709551616=lo/2 ^ (64-s):=by
  rw[← e64,Nat.mul_comm (2 ^ s) (2 ^ (64-s)),Nat.mul_div_mul_right _ _ hp]
 have eq2:(hi*18446744073709551616+lo)*2 ^ s/18446744073709551616=hi*2 ^ s+lo/2 ^ (64-s):=by
  rw[ex,Nat.mul_add_div (by omega),ed]
 refine⟨?_,?_,hle,?_⟩
 ·rw[ex,Nat.mul_add_mod]
 ·rw[eq2,Nat.mul_comm hi,← Nat.two_pow_add_eq_or_of_lt hlo]
 ·rw[eq2];omega
def w2k (U c Y q:Nat):Prop:=q=(U*4294967296+c)/Y
theorem w2k.rest {U c Y q:Nat}(h:w2k U c Y q)(hY:0<Y)(hU:U<Y)(hc:c<4294967296):q*Y≤U*4294967296+c∧U*4294967296+c-q*Y<Y∧q<4294967296∧U*4294967296+c-q*Y=(U*4294967296+c) % Y:=by
 unfold w2k at h
 have h1:=Nat.div_add_mod (U*4294967296+c) Y
 have h2:=Nat.mod_lt (U*4294967296+c) hY
 have h3:(U*4294967296+c)/Y<4294967296:=by
  rw[Nat.div_lt_iff_lt_mul hY]
  omega
 rw[← h,Nat.mul_comm] at h1
 generalize q*Y=a at *
 omega
theorem div_down {U c Y1 Y0 q r:Nat}(hY1:2147483648≤Y1)(hY0:Y0<4294967296)(hr:q*Y1+r=U)(hq:q≤4294967297)(hc:c<4294967296)
  (hQ:(U*4294967296+c)/(Y1*4294967296+Y0)<4294967296)
  (h:4294967296≤q∨4294967296*r+c<q*Y0):1≤q∧(U*4294967296+c)/(Y1*4294967296+Y0)≤q-1∧(q-1)*Y1+(r+Y1)=U ∧
   (4294967296≤r+Y1→w2k U c (Y1*4294967296+Y0) (q-1)):=by
 have h1:1≤q∧(U*4294967296+c)/(Y1*4294967296+Y0)≤q-1:=by
  rcases h with h|h
  ·omega
  ·have:=lower U c Y1 Y0 q (by omega) (by omega) (by rw[show U-q*Y1=r by omega];exact h)
   omega
 have h2:(q-1)*Y1+(r+Y1)=U:=by
  obtain⟨p,rfl⟩:∃ p,q=p+1:=⟨q-1,by omega⟩
  rw[Nat.add_sub_cancel]
  rw[Nat.add_mul] at hr
  omega
 refine⟨h1.1,h1.2,h2,fun h3=>found U c Y1 Y0 (q-1) (by omega) h1.2 (by omega) ?_⟩
 rw[show U-(q-1)*Y1=r+Y1 by omega]
 have h4:(q-1)*Y0≤4294967296*4294967295:=Nat.mul_le_mul (by omega) (by omega)
 omega
theorem div_here {U c Y1 Y0 q r:Nat}(hY1:2147483648≤Y1)(hr:q*Y1+r=U)(hQ:(U*4294967296+c)/(Y1*4294967296+Y0)≤q)(h:q*Y0≤4294967296*r+c):w2k U c (Y1*4294967296+Y0) q :=
 found U c Y1 Y0 q (by omega) hQ (by omega) (by rw[show U-q*Y1=r by omega];exact h)
theorem kb7 {U c Y1 Y0:Nat}(hY1:2147483648≤Y1)(hY1':Y1<4294967296)(hY0:Y0<4294967296)(hc:c<4294967296)(hU:U<Y1*4294967296+Y0):
  ∃ q P:Nat,(U:Int)/Y1=q∧(q:Int)*Y1=P∧q*Y1=P∧P≤U∧U<P+Y1∧q≤4294967297∧(U*4294967296+c)/(Y1*4294967296+Y0)≤q∧(U*4294967296+c)/(Y1*4294967296+Y0)<4294967296:=by
 obtain⟨c1,c2,c3⟩:=q_le U c Y1 Y0 4294967296 rfl hY1 hY0 hc hU
 exact⟨U/Y1,U/Y1*Y1,by simp,by simp,rfl,Nat.div_mul_le_self _ _,Nat.lt_div_mul_add (by omega),c2,c1,c3⟩
theorem div_ends {hi lo y s U L1 L0 q1 q0:Nat}(hy:0<y)(hh:hi<y)(hl:lo<18446744073709551616)(hs:(hi*18446744073709551616+lo)*2 ^ s=U*18446744073709551616+L1*4294967296+L0)
  (h1:w2k U L1 (y*2 ^ s) q1) (h0:w2k (U*4294967296+L1-q1*(y*2 ^ s)) L0 (y*2 ^ s) q0) :
  q1*4294967296+q0=(hi*18446744073709551616+lo)/y∧q1*4294967296+q0<18446744073709551616 ∧
   ((U*4294967296+L1-q1*(y*2 ^ s))*4294967296+L0-q0*(y*2 ^ s))/2 ^ s=(hi*18446744073709551616+lo) % y:=by
 have hp:0<2 ^ s:=Nat.two_pow_pos s
 have hY:0<y*2 ^ s:=Nat.mul_pos hy hp
 unfold w2k at h1 h0
 have a1:=Nat.div_add_mod (U*4294967296+L1) (y*2 ^ s)
 have m1:=Nat.mod_lt (U*4294967296+L1) hY
 rw[← h1,Nat.mul_comm] at a1
 have a0:=Nat.div_add_mod ((U*4294967296+L1-q1*(y*2 ^ s))*4294967296+L0) (y*2 ^ s)
 have m0:=Nat.mod_lt ((U*4294967296+L1-q1*(y*2 ^ s))*4294967296+L0) hY
 rw[← h0,Nat.mul_comm] at a0
 have hd:=Nat.mul_div_mul_right (hi*18446744073709551616+lo) y hp
 have hm:=Nat.mul_mod_mul_right (2 ^ s) (hi*18446744073709551616+lo) y
 have hN:(hi*18446744073709551616+lo)/y<18446744073709551616:=by
  rw[Nat.div_lt_iff_lt_mul hy]
  have:(hi+1)*18446744073709551616≤y*18446744073709551616:=Nat.mul_le_mul_right _ hh
  omega
 rw[hs] at hd hm
 have he:U*18446744073709551616+L1*4294967296+L0=((U*4294967296+L1-q1*(y*2 ^ s))*4294967296+L0-q0*(y*2 ^ s))+(y*2 ^ s)*(q1*4294967296+q0):=by
  have e2:(y*2 ^ s)*(q1*4294967296+q0)=q1*(y*2 ^ s)*4294967296+q0*(y*2 ^ s):=by
   generalize y*2 ^ s=Y
   rw[Nat.mul_add,← Nat.mul_assoc,Nat.mul_comm Y q1,Nat.mul_comm Y q0]
  rw[e2]
  generalize q1*(y*2 ^ s)=a at *
  generalize q0*(y*2 ^ s)=b at *
  omega
 have hr:(U*4294967296+L1-q1*(y*2 ^ s))*4294967296+L0-q0*(y*2 ^ s)<y*2 ^ s:=by
  generalize q1*(y*2 ^ s)=a at *
  generalize q0*(y*2 ^ s)=b at *
  omega
 rw[he,Nat.add_mul_div_left _ _ hY,Nat.div_eq_of_lt hr,Nat.zero_add] at hd
 rw[he,Nat.add_mul_mod_self_left,Nat.mod_eq_of_lt hr] at hm
 refine⟨hd,by omega,?_⟩
 rw[hm,Nat.mul_div_cancel _ hp]
theorem wu {n:Int}(h1:0≤n)(h2:n≤18446744073709551615):IntKind.u64.wrap n=n:=by rw[IntKind.wrap_u64];omega
theorem z03 (a:Nat)(h:a<18446744073709551616):IntKind.u64.wrap (a:Int)=(a:Int):=by rw[IntKind.wrap_u64];omega
theorem xe1 (a:Nat)(h:a<18446744073709551616):(BitVec.ofInt 64 (a:Int)).toNat=a:=by
 rw[BitVec.ofInt_natCast,BitVec.toNat_ofNat]
 exact Nat.mod_eq_of_lt h
theorem q5g (a b:Nat)(ha:a<18446744073709551616)(hb:b<18446744073709551616):za6 .and .u64 (a:Int) (b:Int)=((a &&& b:Nat):Int):=by
 show IntKind.u64.wrap (((BitVec.ofInt 64 (a:Int) &&& BitVec.ofInt 64 (b:Int)).toNat:Nat):Int)=_
 rw[BitVec.toNat_and,xe1 a ha,xe1 b hb]
 exact z03 _ (Nat.lt_of_le_of_lt Nat.and_le_left ha)
theorem iOr_nat (a b:Nat)(ha:a<18446744073709551616)(hb:b<18446744073709551616):za6 .or .u64 (a:Int) (b:Int)=((a ||| b:Nat):Int):=by
 show IntKind.u64.wrap (((BitVec.ofInt 64 (a:Int) ||| BitVec.ofInt 64 (b:Int)).toNat:Nat):Int)=_
 rw[BitVec.toNat_or,xe1 a ha,xe1 b hb]
 exact z03 _ (Nat.or_lt_two_pow (n:=64) ha hb)
theorem xd2 (a:Nat)(ha:a<18446744073709551616):za6 .and .u64 (a:Int) 4294967295=((a % 4294967296:Nat):Int):=by
 have h:=q5g a 4294967295 ha (by omega)
 rw[Nat.and_two_pow_sub_one_eq_mod a 32] at h
 exact h
theorem iAnd_one (a:Nat)(ha:a<18446744073709551616):za6 .and .u64 (a:Int) 1=((a % 2:Nat):Int):=by
 have h:=q5g a 1 ha (by omega)
 rw[Nat.and_two_pow_sub_one_eq_mod a 1] at h
 exact h
theorem yh7 (a s:Nat)(hs:s≤64):qn3 .u64 (a:Int) (s:Int)=((a/2 ^ s:Nat):Int):=by
 show (a:Int).fdiv (2 ^ (min (s:Int).toNat 64))=_
 rw[Int.toNat_natCast,Nat.min_eq_left hs,Int.fdiv_eq_ediv_of_nonneg _ (Int.le_of_lt (Int.pow_pos (by omega)))]
 simp
theorem uv5 (a s:Nat)(hs:s≤64):ku5 .u64 (a:Int) (s:Int)=IntKind.u64.wrap ((a*2 ^ s:Nat):Int):=by
 show IntKind.u64.wrap ((a:Int)*2 ^ (min (s:Int).toNat 64))=_
 rw[Int.toNat_natCast,Nat.min_eq_left hs]
 simp
theorem vp2 (a:Nat):qn3 .u64 (a:Int) (32:Int)=((a/4294967296:Nat):Int):=yh7 a 32 (by omega)
theorem ui3 {a b:Nat}(ha:a<4294967296)(hb:b<4294967296):a*b≤18446744065119617025:=Nat.mul_le_mul (show a≤4294967295 by omega) (show b≤4294967295 by omega)
theorem wmul {a b:Nat}(ha:a<4294967296)(hb:b<4294967296):IntKind.u64.wrap ((a:Int)*(b:Int))=((a*b:Nat):Int):=by
 have:=ui3 ha hb
 rw[← Int.natCast_mul]
 exact z03 _ (by omega)
theorem wadd {a b:Nat}(h:a+b<18446744073709551616):IntKind.u64.wrap ((a:Int)+(b:Int))=((a+b:Nat):Int):=by
 rw[← Int.natCast_add]
 exact z03 _ h
theorem zm2 (N x y:Nat)(hx:x<18446744073709551616)(hy:y<18446744073709551616):qz6 N (x:Int) (y:Int)=some (((x*y/18446744073709551616:Nat):Int),((x*y % 18446744073709551616:Nat):Int),()):=by
 unfold qz6
 rw[xd2 x hx,xd2 y hy,vp2 x,vp2 y]
 obtain⟨a,ha⟩:∃ a,a=x/4294967296:=⟨_,rfl⟩
 obtain⟨b,hb⟩:∃ b,b=x % 4294967296:=⟨_,rfl⟩
 obtain⟨c,hc⟩:∃ c,c=y/4294967296:=⟨_,rfl⟩
 obtain⟨d,hd⟩:∃ d,d=y % 4294967296:=⟨_,rfl⟩
 have h1:a<4294967296:=by omega
 have h2:b<4294967296:=by omega
 have h3:c<4294967296:=by omega
 have h4:d<4294967296:=by omega
 have ex:x=a*4294967296+b:=by omega
 have ey:y=c*4294967296+d:=by omega
 rw[← ha,← hb,← hc,← hd]
 have p1:=ui3 h2 h4
 have p2:=ui3 h1 h4
 have p3:=ui3 h2 h3
 have p4:=ui3 h1 h3
 have exy:x*y=(a*c)*18446744073709551616+(a*d+b*c)*4294967296+b*d:=by
  rw[ex,ey,Nat.add_mul,Nat.mul_add,Nat.mul_add]
  have e1:a*4294967296*(c*4294967296)=a*c*18446744073709551616:=by
   rw[Nat.mul_mul_mul_comm]
  have e2:a*4294967296*d=a*d*4294967296:=by rw[Nat.mul_right_comm]
  have e3:b*(c*4294967296)=b*c*4294967296:=by rw[Nat.mul_assoc]
  rw[e1,e2,e3]
  omega
 rw[wmul h2 h4,wmul h1 h4,wmul h2 h3,wmul h1 h3,vp2 (b*d)]
 rw[wadd (a:=a*d) (b:=b*d/4294967296) (by omega),vp2,xd2 _ (by omega)]
 rw[wadd (a:=(a*d+b*d/4294967296) % 4294967296) (b:=b*c) (by omega),vp2]
 rw[wadd (a:=a*c) (b:=(a*d+b*d/4294967296)/4294967296) (by omega)]
 rw[wadd (a:=a*c+(a*d+b*d/4294967296)/4294967296) (b:=((a*d+b*d/4294967296) % 4294967296+b*c)/4294967296) (by omega)]
 rw[← Int.natCast_mul,exy]
 generalize a*c=S at *
 generalize a*d=Q at *
 generalize b*c=R at *
 generalize b*d=T at *
 have e1:S+(Q+T/4294967296)/4294967296+((Q+T/4294967296) % 4294967296+R)/4294967296=(S*18446744073709551616+(Q+R)*4294967296+T)/18446744073709551616:=by omega
 rw[e1,IntKind.wrap_u64]
 congr 3
def j54 (x:Nat):Nat:=if x=0 then 0 else Nat.log2 x+1
theorem x81 (x:Nat)(h:0<x):1≤j54 x∧2 ^ (j54 x-1)≤x∧x<2 ^ j54 x:=by
 unfold j54
 rw[if_neg (by omega)]
 exact⟨by omega,by simpa using Nat.log2_self_le (by omega),Nat.lt_log2_self⟩
theorem us4 (x k:Nat)(h:2 ^ k≤x):k+j54 (x/2 ^ k)=j54 x:=by
 have hp:0<2 ^ k:=Nat.two_pow_pos k
 have h1:0<x/2 ^ k:=Nat.div_pos h hp
 obtain⟨a1,a2,a3⟩:=x81 _ h1
 obtain⟨b1,b2,b3⟩:=x81 x (by omega)
 have c1:x<2 ^ (k+j54 (x/2 ^ k)):=by
  rw[Nat.pow_add,Nat.mul_comm]
  exact(Nat.div_lt_iff_lt_mul hp).1 a3
 have c2:2 ^ (k+j54 (x/2 ^ k)-1)≤x:=by
  rw[show k+j54 (x/2 ^ k)-1=(j54 (x/2 ^ k)-1)+k by omega,Nat.pow_add]
  exact(Nat.le_div_iff_mul_le hp).1 a2
 have d1:k+j54 (x/2 ^ k)-1<j54 x:=(Nat.pow_lt_pow_iff_right (a:=2) (by omega)).1 (Nat.lt_of_le_of_lt c2 b3)
 have d2:j54 x-1<k+j54 (x/2 ^ k):=(Nat.pow_lt_pow_iff_right (a:=2) (by omega)).1 (Nat.lt_of_le_of_lt b2 c1)
 omega
theorem len8 :∀ i:Fin 256,q37 q74 (i.val:Int)=(j54 i.val:Int):=by decide +kernel
theorem len8l :q74.length=256:=by decide +kernel
theorem len8' (i:Nat)(h:i<256):q37 q74 (i:Int)=(j54 i:Int):=len8 ⟨i,h⟩
theorem wu8 (i:Nat)(h:i<256):IntKind.u8.wrap (i:Int)=(i:Int):=by rw[IntKind.wrap_u8];omega
theorem blen_le (x k:Nat)(h:x<2 ^ k):j54 x≤k:=by
 by_cases h0:x=0
 ·subst h0;simp[j54]
 ·obtain⟨a1,a2,a3⟩:=x81 x (by omega)
  have:=(Nat.pow_lt_pow_iff_right (a:=2) (by omega)).1 (Nat.lt_of_le_of_lt a2 h)
  omega
theorem zy7 {tab:List UInt8}{z x:Nat}{q:Int}(k:Nat)(hq:q=(k:Int))(ht:q37 tab (z:Int)=(j54 z:Int))(hl:tab.length=256)(hz:z<256)(hk:k≤56)(e:k+j54 z=j54 x):Tells (bif inR (IntKind.u8.wrap (z:Int)) tab.length then bif q24 (q37 tab (IntKind.u8.wrap (z:Int))) then bif q24 (q+q37 tab (IntKind.u8.wrap (z:Int))) then some (q+q37 tab (IntKind.u8.wrap (z:Int))) else none else none else none) (fun r=>r=(j54 x:Int)):=by
 have hb:=blen_le z 8 (by omega)
 rw[wu8 z hz,ht]
 refine Tells.ok (qi0 (by omega) (by rw[hl];omega)) (Tells.ok (inI (by omega) (by omega)) (Tells.ok (inI (by omega) (by omega)) (Tells.some ?_)))
 omega
set_option maxRecDepth 100000 in
set_option maxHeartbeats 2000000 in
theorem us2 (N x:Nat)(hx:x<18446744073709551616):Tells (j53 N (x:Int)) fun r=>r=(j54 x:Int):=by
 have s32:=yh7 x 32 (by omega)
 have s16:=fun a=>yh7 a 16 (by omega)
 have s8:=fun a=>yh7 a 8 (by omega)
 have s32:qn3 .u64 (x:Int) (32:Int)=((x/4294967296:Nat):Int):=s32
 have s16:∀ a:Nat,qn3 .u64 (a:Int) (16:Int)=((a/65536:Nat):Int):=s16
 have s8:∀ a:Nat,qn3 .u64 (a:Int) (8:Int)=((a/256:Nat):Int):=s8
 have b32:4294967296≤x→32+j54 (x/4294967296)=j54 x:=fun h=>us4 x 32 h
 have b16:∀ a,65536≤a→16+j54 (a/65536)=j54 a:=fun a h=>us4 a 16 h
 have b8:∀ a,256≤a→8+j54 (a/256)=j54 a:=fun a h=>us4 a 8 h
 unfold j53
 obtain⟨tab,htab,htl,ht8⟩:∃ tab,tab=q74∧tab.length=256∧∀ i:Nat,i<256→q37 tab (i:Int)=(j54 i:Int):=⟨q74,rfl,len8l,len8'⟩
 rw[← htab]
 clear htab
 rw[s32,s16,s16,s8,s8,s8,s8]
 refine Tells.dec (fun c1=>?_) (fun c1=>?_)
 ·have h32:=b32 (by omega)
  obtain⟨y,hy⟩:∃ y,y=x/4294967296:=⟨_,rfl⟩
  have hy2:y<4294967296:=by omega
  rw[← hy] at h32 ⊢
  clear hy s32 s16 s8 b32
  refine Tells.dec (fun c2=>?_) (fun c2=>?_)
  ·have h16:=b16 y (by omega)
   have h8:=b8 (y/65536)
   clear b16 b8
   refine Tells.dec (fun c3=>?_) (fun c3=>?_)
   ·refine zy7 56 rfl ?_ htl ?_ (by omega) ?_
    ·exact ht8 _ (by omega)
    ·omega
    ·have:=h8 (by omega);omega
   ·refine zy7 48 rfl ?_ htl ?_ (by omega) ?_
    ·exact ht8 _ (by omega)
    ·omega
    ·omega
  ·have h8:=b8 y
   clear b16 b8
   refine Tells.dec (fun c3=>?_) (fun c3=>?_)
   ·refine zy7 40 rfl ?_ htl ?_ (by omega) ?_
    ·exact ht8 _ (by omega)
    ·omega
    ·have:=h8 (by omega);omega
   ·refine zy7 32 rfl ?_ htl ?_ (by omega) ?_
    ·exact ht8 _ (by omega)
    ·omega
    ·omega
 ·clear b32 s32 s16 s8
  refine Tells.dec (fun c2=>?_) (fun c2=>?_)
  ·have h16:=b16 x (by omega)
   have h8:=b8 (x/65536)
   clear b16 b8
   refine Tells.dec (fun c3=>?_) (fun c3=>?_)
   ·refine zy7 24 rfl ?_ htl ?_ (by omega) ?_
    ·exact ht8 _ (by omega)
    ·omega
    ·have:=h8 (by omega);omega
   ·refine zy7 16 rfl ?_ htl ?_ (by omega) ?_
    ·exact ht8 _ (by omega)
    ·omega
    ·omega
  ·have h8:=b8 x
   clear b16 b8
   refine Tells.dec (fun c3=>?_) (fun c3=>?_)
   ·refine zy7 8 rfl ?_ htl ?_ (by omega) ?_
    ·exact ht8 _ (by omega)
    ·omega
    ·have:=h8 (by omega);omega
   ·refine zy7 0 rfl ?_ htl ?_ (by omega) ?_
    ·exact ht8 _ (by omega)
    ·omega
    ·omega
theorem jt5 (N x:Nat)(h0:0<x)(h1:x<18446744073709551616):∃ s:Nat,ql7 N (x:Int)=some (s:Int)∧s≤63∧9223372036854775808≤x*2 ^ s∧x*2 ^ s<18446744073709551616:=by
 have hb:=x81 x h0
 have hle:j54 x≤64:=blen_le x 64 h1
 have h1':1≤j54 x:=hb.1
 have e64:2 ^ j54 x*2 ^ (64-j54 x)=18446744073709551616:=by rw[← Nat.pow_add,show j54 x+(64-j54 x)=64 by omega]
 have e63:2 ^ (j54 x-1)*2 ^ (64-j54 x)=9223372036854775808:=by rw[← Nat.pow_add,show j54 x-1+(64-j54 x)=63 by omega]
 refine⟨64-j54 x,?_,by omega,?_,?_⟩
 ·refine Tells.get ?_
  unfold ql7
  refine Tells.bind (us2 N x h1) fun r hr=>?_
  subst hr
  exact Tells.ok (inI (by omega) (by omega)) (Tells.some (by omega))
 ·rw[← e63];exact Nat.mul_le_mul_right _ hb.2.1
 ·rw[← e64];exact Nat.mul_lt_mul_of_pos_right hb.2.2 (Nat.two_pow_pos _)
theorem wrap3 (U c q Y R:Nat)(h:q*Y+R=U*4294967296+c)(hR:R<18446744073709551616):
  IntKind.u64.wrap (IntKind.u64.wrap (IntKind.u64.wrap ((U:Int)*4294967296)+(c:Int))-IntKind.u64.wrap ((q:Int)*(Y:Int)))=(R:Int):=by
 simp only[IntKind.wrap_u64]
 have e:(q:Int)*(Y:Int)=((q*Y:Nat):Int):=by simp
 rw[e]
 generalize q*Y=a at *
 omega
structure DigI (U c Y1 Y0 q r:Nat):Prop where
 sum:q*Y1+r=U
 r:r<4294967296
 le:(U*4294967296+c)/(Y1*4294967296+Y0)≤q
 lim:q≤4294967297
theorem kb6 {β:Type}{P:β→Prop}{U c Y1 Y0 q r:Nat}{done:Int→Option β}{K:Int→Int→Option β}(hY1:2147483648≤Y1)(hY1':Y1<4294967296)(hY0:Y0<4294967296)(hc:c<4294967296)(hQ:(U*4294967296+c)/(Y1*4294967296+Y0)<4294967296)(h:DigI U c Y1 Y0 q r)
  (hd:∀ p:Nat,w2k U c (Y1*4294967296+Y0) p→Tells (done (p:Int)) P) (hk:∀ p s:Nat,DigI U c Y1 Y0 p s→s=r+Y1→Tells (K (p:Int) (s:Int)) P) :
  Tells (bif decide ((q:Int)≥4294967296) then bif decide (IntKind.u64.wrap ((r:Int)+(Y1:Int))≥4294967296) then done (IntKind.u64.wrap ((q:Int)-1)) else K (IntKind.u64.wrap ((q:Int)-1)) (IntKind.u64.wrap ((r:Int)+(Y1:Int)))
   else bif decide (IntKind.u64.wrap ((q:Int)*(Y0:Int))>IntKind.u64.wrap (IntKind.u64.wrap (4294967296*(r:Int))+(c:Int))) then bif decide (IntKind.u64.wrap ((r:Int)+(Y1:Int))≥4294967296) then done (IntKind.u64.wrap ((q:Int)-1)) else K (IntKind.u64.wrap ((q:Int)-1)) (IntKind.u64.wrap ((r:Int)+(Y1:Int)))
   else done (q:Int)) P:=by
 obtain⟨h1,h2,h3,h4⟩:=h
 have hr:=wadd (a:=r) (b:=Y1) (by omega)
 rw[hr]
 have low:(4294967296≤q∨4294967296*r+c<q*Y0)→Tells (bif decide (((r+Y1:Nat):Int)≥4294967296) then done (IntKind.u64.wrap ((q:Int)-1)) else K (IntKind.u64.wrap ((q:Int)-1)) ((r+Y1:Nat):Int)) P:=by
  intro hh
  obtain⟨t1,t2,t3,t4⟩:=div_down (c:=c) hY1 hY0 h1 h4 hc hQ hh
  have e:IntKind.u64.wrap ((q:Int)-1)=((q-1:Nat):Int):=by rw[wu (by omega) (by omega)];omega
  rw[e]
  refine Tells.dec (fun c1=>hd _ (t4 (by omega))) (fun c1=>hk _ _ ⟨t3,by omega,t2,by omega⟩ rfl)
 refine Tells.dec (fun c1=>low (.inl (by omega))) (fun c1=>?_)
 have hA:q*Y0≤18446744065119617025:=ui3 (by omega) hY0
 have e1:IntKind.u64.wrap ((q:Int)*(Y0:Int))=((q*Y0:Nat):Int):=by rw[← Int.natCast_mul];exact z03 _ (by omega)
 have e2:IntKind.u64.wrap (IntKind.u64.wrap (4294967296*(r:Int))+(c:Int))=((4294967296*r+c:Nat):Int):=by
  rw[wu (n:=4294967296*(r:Int)) (by omega) (by omega),wu (by omega) (by omega)]
  omega
 rw[e1,e2]
 refine Tells.dec (fun c2=>low (.inr (by omega))) (fun c2=>hd _ (div_here hY1 h1 h3 (by omega)))
theorem q7z (N:Nat){U c Y Y1 Y0 s q1 A B:Nat}(hN:10≤N)(hY:Y=Y1*4294967296+Y0)(hY1:2147483648≤Y1)(hY1':Y1<4294967296)(hY0:Y0<4294967296)(hc:c<4294967296)(hU:U<Y)(hs:s≤63)(hq1:q1<4294967296)
  (hAB:∀ p R:Nat,w2k U c Y p→p*Y+R=U*4294967296+c→R<Y→q1*4294967296+p=A∧R/2 ^ s=B) :
  Tells (q80 (w62 N (Y:Int) (s:Int) (Y1:Int) (Y0:Int) (c:Int) (q1:Int) (U:Int)) N (IntKind.u64.wrap ((U:Int)-IntKind.u64.wrap (IntKind.u64.wrap (Int.tdiv (U:Int) (Y1:Int))*(Y1:Int))),IntKind.u64.wrap (Int.tdiv (U:Int) (Y1:Int)))) fun r=>r=((A:Int),(B:Int),()):=by
 obtain⟨q0,P0,d1,d2,d3,d4,d5,d6,d7,d8⟩:=kb7 (c:=c) hY1 hY1' hY0 hc (by rw[← hY];exact hU)
 have hdone:∀ p:Nat,w2k U c (Y1*4294967296+Y0) p→Tells (bif !(decide ((s:Int)<0)) then some ((IntKind.u64.wrap ((IntKind.u64.wrap ((q1:Int)*4294967296))+(p:Int))),(qn3 .u64 (IntKind.u64.wrap ((IntKind.u64.wrap ((IntKind.u64.wrap ((U:Int)*4294967296))+(c:Int)))-(IntKind.u64.wrap ((p:Int)*(Y:Int))))) (s:Int)),()) else none) fun r=>r=((A:Int),(B:Int),()):=by
  intro p hp
  rw[← hY] at hp
  obtain⟨t1,t2,t3,t4⟩:=hp.rest (by omega) hU hc
  obtain⟨R,hR⟩:∃ R,R=U*4294967296+c-p*Y:=⟨_,rfl⟩
  have hsum:p*Y+R=U*4294967296+c:=by omega
  obtain⟨a1,a2⟩:=hAB p R hp hsum (by omega)
  rw[wrap3 U c p Y R hsum (by omega),yh7 R s (by omega),a2]
  refine Tells.ok (by simp) (Tells.some ?_)
  rw[wu (n:=(q1:Int)*4294967296) (by omega) (by omega),wu (by omega) (by omega)]
  rw[show (q1:Int)*4294967296+(p:Int)=(A:Int) by omega]
 refine Tells.iter (fun e=>∃ q r:Nat,e=((r:Int),(q:Int))∧DigI U c Y1 Y0 q r) (fun e=>((4294967296-e.1)/2147483648).toNat) ?_ N _ ⟨q0,U-P0,?_,⟨by omega,by omega,d7,d6⟩⟩ ?_
 ·rintro K ⟨e1,e2⟩ ⟨q,r,he,hI⟩ hK
  cases he
  unfold w62
  simp only
  have:=kb6 (done:=fun p=>(bif !(decide ((s:Int)<0)) then some ((IntKind.u64.wrap ((IntKind.u64.wrap ((q1:Int)*4294967296))+p)),(qn3 .u64 (IntKind.u64.wrap ((IntKind.u64.wrap ((IntKind.u64.wrap ((U:Int)*4294967296))+(c:Int)))-(IntKind.u64.wrap (p*(Y:Int))))) (s:Int)),()) else none)) (K:=fun p s=>K (s,p)) (P:=fun r=>r=((A:Int),(B:Int),())) hY1 hY1' hY0 hc d8 hI hdone (fun p t hp ht=>hK _ ⟨p,t,rfl,hp⟩ (by simp only;have:=hI.r;have:=hp.r;omega))
  exact this
 ·rw[xz5 (by omega),d1,wu (n:=(q0:Int)) (by omega) (by omega),d2,wu (n:=(P0:Int)) (by omega) (by omega),wu (by omega) (by omega)]
  congr 1
  omega
 ·rw[xz5 (by omega),d1,wu (n:=(q0:Int)) (by omega) (by omega),d2,wu (n:=(P0:Int)) (by omega) (by omega),wu (by omega) (by omega)]
  simp only
  omega
theorem ur6 (N hi lo y : Nat) (hN : 10 ≤ N) (h1 : lo < 18446744073709551616) (h2 : y < 18446744073709551616) (h3 : hi < y) :
    zn9 N (hi : Int) (lo : Int) (y : Int) = some ((((hi * 18446744073709551616 + lo) / y : Nat) : Int), (((hi * 18446744073709551616 + lo) % y : Nat) : Int), ()) := by
  refine Tells.get ?_
  unfold zn9 jz1
  refine Tells.no (by simp; omega) (Tells.no (by simp; omega) ?_)
  refine Tells.ite (fun c => ?_) (fun c => ?_)
  · have c : hi = 0 := by have : (hi : Int) = 0 := by simpa using c
                          omega
    subst c
    refine Tells.ok (by simp; omega) (Tells.ok (by simp; omega) (Tells.some ?_))
    rw [Nat.zero_mul, Nat.zero_add, xz5 (by omega), tmodE (by omega)]
    have h4 : lo / y ≤ lo := Nat.div_le_self _ _
    rw [show (lo : Int) / (y : Int) = ((lo / y : Nat) : Int) by simp, z03 _ (by omega)]
    simp
  · have h0 : 0 < hi := by
      have : ¬ (hi : Int) = 0 := by simpa using c
      omega
    obtain ⟨s, e0, hs, hy1, hy2⟩ := jt5 N y (by omega) h2
    refine Tells.bindE e0 ?_
    have es : IntKind.u64.wrap (s : Int) = (s : Int) := z03 _ (by omega)
    have es2 : IntKind.u64.wrap (64 - (s : Int)) = ((64 - s : Nat) : Int) := by rw [wu (by omega) (by omega)]; omega
    rw [es, es2]
    obtain ⟨hm, hor, hle, hlt⟩ := div_start hi lo y s h0 h1 h3 hs hy1 hy2
    have hpos : 0 < 2 ^ s := Nat.two_pow_pos s
    have hH : hi * 2 ^ s < 18446744073709551616 := by omega
    have hD : lo / 2 ^ (64 - s) < 18446744073709551616 := Nat.lt_of_le_of_lt (Nat.div_le_self _ _) h1
    rw [uv5 y s (by omega), uv5 hi s (by omega), uv5 lo s (by omega), yh7 lo (64 - s) (by omega), z03 _ hy2, z03 _ hH]
    have eL : IntKind.u64.wrap ((lo * 2 ^ s : Nat) : Int) = ((lo * 2 ^ s % 18446744073709551616 : Nat) : Int) := by rw [IntKind.wrap_u64]; omega
    rw [eL, iOr_nat _ _ hH hD, hor]
    have hsplit := Nat.div_add_mod ((hi * 18446744073709551616 + lo) * 2 ^ s) 18446744073709551616
    rw [hm] at hsplit
    obtain ⟨Y, hY⟩ : ∃ Y, Y = y * 2 ^ s := ⟨_, rfl⟩
    obtain ⟨U, hU⟩ : ∃ U, U = (hi * 18446744073709551616 + lo) * 2 ^ s / 18446744073709551616 := ⟨_, rfl⟩
    obtain ⟨M, hM⟩ : ∃ M, M = lo * 2 ^ s % 18446744073709551616 := ⟨_, rfl⟩
    rw [← hY, ← hU] at hlt
    rw [← hU, ← hM] at hsplit
    have hM2 : M < 18446744073709551616 := by omega
    rw [← hY, ← hU, ← hM, vp2, vp2, xd2 Y (by omega), xd2 M hM2]
    obtain ⟨Y1, eY1⟩ : ∃ Y1, Y1 = Y / 4294967296 := ⟨_, rfl⟩
    obtain ⟨Y0, eY0⟩ : ∃ Y0, Y0 = Y % 4294967296 := ⟨_, rfl⟩
    obtain ⟨L1, eL1⟩ : ∃ L1, L1 = M / 4294967296 := ⟨_, rfl⟩
    obtain ⟨L0, eL0⟩ : ∃ L0, L0 = M % 4294967296 := ⟨_, rfl⟩
    rw [← eY1, ← eY0, ← eL1, ← eL0]
    have b1 : Y = Y1 * 4294967296 + Y0 := by omega
    have b2 : 2147483648 ≤ Y1 := by omega
    have b3 : Y1 < 4294967296 := by omega
    have b4 : Y0 < 4294967296 := by omega
    have b5 : L1 < 4294967296 := by omega
    have b6 : L0 < 4294967296 := by omega
    have b7 : (hi * 18446744073709551616 + lo) * 2 ^ s = U * 18446744073709551616 + L1 * 4294967296 + L0 := by omega
    clear hsplit hm hor hle hH hD eL hU hM es es2 e0 c eY1 eY0 eL1 eL0
    refine Tells.ok (by simp) (Tells.ok (by simp) (Tells.ok (by simp) (Tells.ok (by simp) (Tells.ok (by simp; omega) ?_))))
    obtain ⟨q0, P0, d1, d2, d3, d4, d5, d6, d7, d8⟩ := kb7 (c := L1) b2 b3 b4 b5 (by rw [← b1]; exact hlt)
    rw [xz5 (by omega), d1, wu (n := (q0 : Int)) (by omega) (by omega), d2, wu (n := (P0 : Int)) (by omega) (by omega), wu (n := (U : Int) - (P0 : Int)) (by omega) (by omega)]
    refine Tells.iter (fun e => ∃ q r : Nat, e = ((q : Int), (r : Int)) ∧ DigI U L1 Y1 Y0 q r) (fun e => ((4294967296 - e.2) / 2147483648).toNat) ?_ N _ ⟨q0, U - P0, by congr 1; omega, ⟨by omega, by omega, d7, d6⟩⟩ (by simp only; omega)
    rintro K ⟨e1, e2⟩ ⟨q, r, he, hI⟩ hK
    cases he
    unfold zm0 j16
    simp only
    have hdone : ∀ p : Nat, w2k U L1 (Y1 * 4294967296 + Y0) p → Tells (bif (decide ((Y1 : Int) ≠ 0) && true) then q80 (w62 N (Y : Int) (s : Int) (Y1 : Int) (Y0 : Int) (L0 : Int) (p : Int) (IntKind.u64.wrap ((IntKind.u64.wrap ((IntKind.u64.wrap ((U : Int) * 4294967296)) + (L1 : Int))) - (IntKind.u64.wrap ((p : Int) * (Y : Int)))))) N
        ((IntKind.u64.wrap ((IntKind.u64.wrap ((IntKind.u64.wrap ((IntKind.u64.wrap ((U : Int) * 4294967296)) + (L1 : Int))) - (IntKind.u64.wrap ((p : Int) * (Y : Int))))) - (IntKind.u64.wrap ((IntKind.u64.wrap (Int.tdiv (IntKind.u64.wrap ((IntKind.u64.wrap ((IntKind.u64.wrap ((U : Int) * 4294967296)) + (L1 : Int))) - (IntKind.u64.wrap ((p : Int) * (Y : Int))))) (Y1 : Int))) * (Y1 : Int))))), (IntKind.u64.wrap (Int.tdiv (IntKind.u64.wrap ((IntKind.u64.wrap ((IntKind.u64.wrap ((U : Int) * 4294967296)) + (L1 : Int))) - (IntKind.u64.wrap ((p : Int) * (Y : Int))))) (Y1 : Int)))) else none) fun r => r = ((((hi * 18446744073709551616 + lo) / y : Nat) : Int), (((hi * 18446744073709551616 + lo) % y : Nat) : Int), ()) := by
      intro p hp
      rw [← b1] at hp
      obtain ⟨t1, t2, t3, t4⟩ := hp.rest (by omega) hlt b5
      obtain ⟨R, hR⟩ : ∃ R, R = U * 4294967296 + L1 - p * Y := ⟨_, rfl⟩
      have hsum : p * Y + R = U * 4294967296 + L1 := by omega
      rw [wrap3 U L1 p Y R hsum (by omega)]
      refine Tells.ok (by simp; omega) (q7z N hN b1 b2 b3 b4 b6 (by omega) hs t3 ?_)
      intro p0 R0 g1 g2 g3
      have hE := div_ends (q1 := p) (q0 := p0) (by omega) h3 h1 b7 (by rw [← hY]; exact hp) (by rw [← hY, ← hR]; exact g1)
      rw [← hY, ← hR] at hE
      exact ⟨hE.1, by rw [← hE.2.2]; congr 1; omega⟩
    have := kb6 (done := fun p => (bif (decide ((Y1 : Int) ≠ 0) && true) then q80 (w62 N (Y : Int) (s : Int) (Y1 : Int) (Y0 : Int) (L0 : Int) p (IntKind.u64.wrap ((IntKind.u64.wrap ((IntKind.u64.wrap ((U : Int) * 4294967296)) + (L1 : Int))) - (IntKind.u64.wrap (p * (Y : Int)))))) N
        ((IntKind.u64.wrap ((IntKind.u64.wrap ((IntKind.u64.wrap ((IntKind.u64.wrap ((U : Int) * 4294967296)) + (L1 : Int))) - (IntKind.u64.wrap (p * (Y : Int))))) - (IntKind.u64.wrap ((IntKind.u64.wrap (Int.tdiv (IntKind.u64.wrap ((IntKind.u64.wrap ((IntKind.u64.wrap ((U : Int) * 4294967296)) + (L1 : Int))) - (IntKind.u64.wrap (p * (Y : Int))))) (Y1 : Int))) * (Y1 : Int))))), (IntKind.u64.wrap (Int.tdiv (IntKind.u64.wrap ((IntKind.u64.wrap ((IntKind.u64.wrap ((U : Int) * 4294967296)) + (L1 : Int))) - (IntKind.u64.wrap (p * (Y : Int))))) (Y1 : Int)))) else none))
      (K := fun p s => K (p, s)) (P := fun r => r = ((((hi * 18446744073709551616 + lo) / y : Nat) : Int), (((hi * 18446744073709551616 + lo) % y : Nat) : Int), ())) b2 b3 b4 b5 d8 hI hdone (fun p t hp ht => hK _ ⟨p, t, rfl, hp⟩ (by simp only; have := hI.r; have := hp.r; omega))
    exact this
abbrev I64 (n:Int):Prop:=-9223372036854775808≤n∧n≤9223372036854775807
theorem wi {n:Int}(h1:-9223372036854775808≤n)(h2:n≤9223372036854775807):IntKind.i64.wrap n=n:=by rw[IntKind.wrap_i64];omega
theorem uv6 {v:Int}(h:I64 v):xd3 v=(v,0,()):=if_pos h
theorem yh8 {v:Int}(h:¬ I64 v):xd3 v=(0,9,()):=if_neg h
theorem qx9 (N:Nat){n:Int}(h:I64 n):w72 N n=some (n.natAbs:Int):=by
 refine Tells.get ?_
 unfold w72
 refine Tells.dec (fun c=>Tells.some ?_) (fun c=>Tells.some ?_)
 ·rw[IntKind.wrap_u64,IntKind.wrap_u64];omega
 ·rw[IntKind.wrap_u64];omega
theorem wn9 (N:Nat){neg:Bool}{hi lo:Int}(h1:0≤hi)(h2:0≤lo)(h3:lo≤18446744073709551615):ql0 N neg hi lo=some (xd3 (sg neg (hi*18446744073709551616+lo))):=by
 refine Tells.get ?_
 unfold ql0
 have out:¬ I64 (sg neg (hi*18446744073709551616+lo))→Tells (some ((0,9,()):Int×Int×Unit)) fun r=>r=xd3 (sg neg (hi*18446744073709551616+lo)):=fun h=>Tells.some (yh8 h).symm
 have ins:∀ v:Int,v=sg neg (hi*18446744073709551616+lo)→I64 v→Tells (some ((v,0,()):Int×Int×Unit)) fun r=>r=xd3 (sg neg (hi*18446744073709551616+lo)):=fun v h hv=>Tells.some (by rw[← h,uv6 hv])
 have w1:lo≤9223372036854775808→IntKind.i64.wrap (0-IntKind.i64.wrap lo)=-lo:=fun h=>by rw[IntKind.wrap_i64,IntKind.wrap_i64];omega
 refine Tells.dec (fun c=>out ?_) (fun c=>?_)
 ·unfold sg I64;split<;>omega
 have hz:hi=0:=by omega
 subst hz
 simp only[Int.zero_mul,Int.zero_add] at out ins ⊢
 refine Tells.dec (fun c=>out ?_) (fun c=>?_)
 ·unfold sg I64;split<;>omega
 refine Tells.ite (fun c2=>?_) (fun c2=>?_)
 ·have c2:lo=9223372036854775808:=by simpa using c2
  cases neg with
  |true =>
   refine Tells.no rfl (Tells.ok rfl ?_)
   rw[w1 (by omega)]
   exact ins _ rfl ⟨by omega,by omega⟩
  |false=>exact Tells.ok rfl (out (by simp only[sg];rw[if_neg (by simp)];unfold I64;omega))
 ·have c2:lo≠9223372036854775808:=by simpa using c2
  cases neg with
  |true =>
   refine Tells.ok rfl ?_
   rw[w1 (by omega)]
   exact ins _ rfl ⟨by omega,by omega⟩
  |false =>
   refine Tells.no rfl ?_
   rw[wi (by omega) (by omega)]
   exact ins _ rfl ⟨by omega,by omega⟩
theorem uh4 (N:Nat){a b:Int}(ha:I64 a)(hb:I64 b):ya4 N a b=some (xd3 (a+b)):=by
 refine Tells.get ?_
 unfold ya4
 obtain⟨a1,a2⟩:=ha
 obtain⟨b1,b2⟩:=hb
 by_cases h:I64 (a+b)
 ·rw[wi h.1 h.2,uv6 h]
  refine Tells.ite (fun c=>Tells.ite (fun c2=>?_) (fun c2=>Tells.some rfl)) (fun c=>Tells.some rfl)
  simp only[beq_iff_eq,decide_eq_decide] at c
  exfalso
  simp only[Bool.not_eq_true',beq_eq_false_iff_ne,ne_eq,decide_eq_decide] at c2
  omega
 ·have e:IntKind.i64.wrap (a+b)<0↔¬ a<0:=by
   rw[IntKind.wrap_i64]
   unfold I64 at h
   omega
  rw[yh8 h]
  unfold I64 at h
  refine Tells.ok ?_ (Tells.ok ?_ (Tells.some rfl))
  ·simp only[beq_iff_eq,decide_eq_decide];omega
  ·simp only[Bool.not_eq_true',beq_eq_false_iff_ne,ne_eq,decide_eq_decide,e];omega
theorem uh6 (N:Nat){a b:Int}(ha:I64 a)(hb:I64 b):ya6 N a b=some (xd3 (a-b)):=by
 refine Tells.get ?_
 unfold ya6
 obtain⟨a1,a2⟩:=ha
 obtain⟨b1,b2⟩:=hb
 by_cases h:I64 (a-b)
 ·rw[wi h.1 h.2,uv6 h]
  refine Tells.ite (fun c=>Tells.ite (fun c2=>?_) (fun c2=>Tells.some rfl)) (fun c=>Tells.some rfl)
  simp only[Bool.not_eq_true',beq_eq_false_iff_ne,ne_eq,decide_eq_decide] at c c2
  exfalso
  omega
 ·have e:IntKind.i64.wrap (a-b)<0↔¬ a<0:=by
   rw[IntKind.wrap_i64]
   unfold I64 at h
   omega
  rw[yh8 h]
  unfold I64 at h
  refine Tells.ok ?_ (Tells.ok ?_ (Tells.some rfl))
  ·simp only[Bool.not_eq_true',beq_eq_false_iff_ne,ne_eq,decide_eq_decide];omega
  ·simp only[Bool.not_eq_true',beq_eq_false_iff_ne,ne_eq,decide_eq_decide,e];omega
theorem I64.nat {n:Int}(h:I64 n):n.natAbs<18446744073709551616:=by unfold I64 at h;omega
theorem uh5 (N:Nat){a b:Int}(ha:I64 a)(hb:I64 b):yz0 N a b=some (xd3 (a*b)):=by
 unfold yz0
 rw[qx9 N ha,qx9 N hb]
 simp only[Option.bind_some]
 rw[zm2 N _ _ ha.nat hb.nat]
 simp only[Option.bind_some]
 rw[wn9 N (by omega) (by omega) (by omega)]
 simp only[Option.bind_some]
 congr 2
 rw[← sgn_mul a b _ rfl]
 congr 1
 have:=Nat.div_add_mod (a.natAbs*b.natAbs) 18446744073709551616
 omega
theorem kg4 (N:Nat){a:Int}(ha:I64 a):ya5 N a=some (xd3 (a*10000)):=by
 unfold ya5
 rw[uh5 N ha (by unfold I64;omega)]
 rfl
theorem q8x (N:Nat){a b:Int}(ha:I64 a)(hb:I64 b)(h0:b≠0):xp7 N a b=some (xd3 (a.tdiv b)):=by
 refine Tells.get ?_
 unfold xp7
 refine Tells.no (by simpa using h0) ?_
 refine Tells.bindE (qx9 N ha) (Tells.bindE (qx9 N hb) ?_)
 refine Tells.ok (by simp;omega) ?_
 rw[xz5 (by omega),show (a.natAbs:Int)/(b.natAbs:Int)=((a.natAbs/b.natAbs:Nat):Int) by simp]
 have hle:a.natAbs/b.natAbs≤a.natAbs:=Nat.div_le_self _ _
 have:=ha.nat
 rw[← q7a a b]
 generalize a.natAbs/b.natAbs=Q at *
 rw[z03 _ (by omega)]
 refine Tells.bindE (wn9 N (by omega) (by omega) (by omega)) (Tells.some ?_)
 congr 1
 simp only[Int.zero_mul,Int.zero_add]
 rfl
def ux4 (a b d:Int):Int:=sg ((decide (a<0) != decide (b<0)) != decide (d<0)) (rneN (a.natAbs*b.natAbs) d.natAbs:Nat)
theorem vr1 (N:Nat)(hN:10≤N){a b d:Int}(ha:I64 a)(hb:I64 b)(hd:I64 d)(h0:d≠0):yh9 N a b d=some (xd3 (ux4 a b d)):=by
 refine Tells.get ?_
 unfold yh9
 refine Tells.bindE (qx9 N ha) (Tells.bindE (qx9 N hb) (Tells.bindE (zm2 N _ _ ha.nat hb.nat) (Tells.bindE (qx9 N hd) ?_)))
 obtain⟨X,hX⟩:∃ X,X=a.natAbs*b.natAbs:=⟨_,rfl⟩
 obtain⟨D,hD⟩:∃ D,D=d.natAbs:=⟨_,rfl⟩
 have hD0:0<D:=by omega
 have hD1:D≤9223372036854775808:=by unfold I64 at hd;omega
 have hsplit:=Nat.div_add_mod X 18446744073709551616
 simp only[← hX,← hD]
 obtain⟨hi,hhi⟩:∃ hi,hi=X/18446744073709551616:=⟨_,rfl⟩
 obtain⟨lo,hlo⟩:∃ lo,lo=X % 18446744073709551616:=⟨_,rfl⟩
 rw[← hhi,← hlo] at hsplit ⊢
 have hlo2:lo<18446744073709551616:=by omega
 have hov:ux4 a b d=sg ((decide (a<0) != decide (b<0)) != decide (d<0)) (rneN X D:Nat):=by unfold ux4;rw[hX,hD]
 have hq:=Nat.div_add_mod X D
 have hr:=Nat.mod_lt X hD0
 refine Tells.dec (fun c=>Tells.some ?_) (fun c=>?_)
 ·symm
  refine yh8 ?_
  have hbig:18446744073709551616≤X/D:=by
   rw[Nat.le_div_iff_mul_le hD0]
   have:18446744073709551616*D≤18446744073709551616*hi:=Nat.mul_le_mul_left _ (by omega)
   omega
  have:X/D≤rneN X D:=by unfold rneN;split<;>omega
  rw[hov]
  unfold sg I64
  split<;>omega
 have hlt:hi<D:=by omega
 have hX2:hi*18446744073709551616+lo=X:=by omega
 refine Tells.bindE (ur6 N hi lo D hN hlo2 (by omega) hlt) ?_
 simp only
 rw[hX2]
 obtain⟨Q,hQ⟩:∃ Q,Q=X/D:=⟨_,rfl⟩
 obtain⟨R,hR⟩:∃ R,R=X % D:=⟨_,rfl⟩
 have hQ1:Q<18446744073709551616:=by
  rw[hQ,Nat.div_lt_iff_lt_mul hD0]
  have:(hi+1)*18446744073709551616≤D*18446744073709551616:=Nat.mul_le_mul_right _ hlt
  rw[Nat.mul_comm]
  omega
 rw[← hQ,← hR] at hq ⊢
 rw[← hR] at hr
 have hrne:rneN X D=if D<2*R∨(2*R=D∧Q % 2=1) then Q+1 else Q:=by unfold rneN;rw[← hQ,← hR]
 have ew:IntKind.u64.wrap ((D:Int)-(R:Int))=((D-R:Nat):Int):=by rw[wu (by omega) (by omega)];omega
 have ew2:IntKind.u64.wrap ((Q:Int)+1)=if Q=18446744073709551615 then 0 else ((Q+1:Nat):Int):=by
  rw[IntKind.wrap_u64];split<;>omega
 rw[ew,ew2,iAnd_one Q hQ1]
 have more:(D<2*R∨(2*R=D∧Q % 2=1))→Tells (bif ((if Q=18446744073709551615 then (0:Int) else ((Q+1:Nat):Int))==0) then some ((0,9,()):Int×Int×Unit) else
   ((ql0 N (!((!((decide (a<0))==(decide (b<0))))==(decide (d<0)))) 0 (if Q=18446744073709551615 then (0:Int) else ((Q+1:Nat):Int))).bind fun (r5:Int×Int×Unit)=>some r5)) fun r=>r=xd3 (ux4 a b d):=by
  intro h
  rw[if_pos h] at hrne
  by_cases hm:Q=18446744073709551615
  ·rw[if_pos hm]
   refine Tells.ok rfl (Tells.some ?_)
   symm
   refine yh8 ?_
   rw[hov,hrne]
   unfold sg I64
   split<;>omega
  ·rw[if_neg hm]
   refine Tells.no (by simp;omega) (Tells.bindE (wn9 N (by omega) (by omega) (by omega)) (Tells.some ?_))
   rw[hov,hrne]
   simp only[Int.zero_mul,Int.zero_add]
   rfl
 have same:¬ (D<2*R∨(2*R=D∧Q % 2=1))→Tells ((ql0 N (!((!((decide (a<0))==(decide (b<0))))==(decide (d<0)))) 0 (Q:Int)).bind fun (r5:Int×Int×Unit)=>some r5) fun r=>r=xd3 (ux4 a b d):=by
  intro h
  rw[if_neg h] at hrne
  refine Tells.bindE (wn9 N (by omega) (by omega) (by omega)) (Tells.some ?_)
  rw[hov,hrne]
  simp only[Int.zero_mul,Int.zero_add]
  rfl
 refine Tells.dec (fun c1=>more (by omega)) (fun c1=>Tells.ite (fun c2=>?_) (fun c2=>?_))
 ·have c2:(R:Int)=((D-R:Nat):Int):=by simpa using c2
  refine Tells.ite (fun c3=>more ?_) (fun c3=>same ?_)
  ·have:((Q % 2:Nat):Int)=1:=by simpa using c3
   omega
  ·have:¬ ((Q % 2:Nat):Int)=1:=by simpa using c3
   omega
 ·have c2:(R:Int)≠((D-R:Nat):Int):=by simpa using c2
  exact same (by omega)
theorem uw7 (N:Nat)(hN:10≤N){a b:Int}(ha:I64 a)(hb:I64 b):zo2 N a b=some (xd3 (ux4 a b 10000)):=by
 unfold zo2
 rw[vr1 N hN ha hb (by unfold I64;omega) (by omega)]
 rfl
theorem uw4 (N:Nat)(hN:10≤N){a b:Int}(ha:I64 a)(hb:I64 b)(h0:b≠0):zo1 N a b=some (xd3 (ux4 a 10000 b)):=by
 refine Tells.get ?_
 unfold zo1
 refine Tells.no (by simpa using h0) (Tells.bindE (vr1 N hN ha (by unfold I64;omega) hb h0) (Tells.some rfl))
theorem kq9 {d:Nat}(h:0<d):rneN 0 d=0:=by
 unfold rneN
 rw[Nat.zero_mod,Nat.zero_div,if_neg (by omega)]
theorem ui1 (a b:Int){d:Int}(hd:d≠0):ux4 a b d=evenV (a*b) d:=by
 unfold ux4 evenV
 rw[Int.natAbs_mul]
 by_cases ha:a=0
 ·subst ha
  rw[Int.natAbs_zero,Nat.zero_mul,kq9 (by omega)]
  simp[sg]
 ·by_cases hb:b=0
  ·subst hb
   rw[Int.natAbs_zero,Nat.mul_zero,kq9 (by omega)]
   simp[sg]
  ·have e:decide (a*b<0)=(decide (a<0) != decide (b<0)):=by
    by_cases h1:a<0<;>by_cases h2:b<0
    ·have:=Int.mul_pos_of_neg_of_neg h1 h2
     simp[h1,h2];omega
    ·have:=Int.mul_neg_of_neg_of_pos h1 (show 0<b by omega)
     simp[h1,h2];omega
    ·have:=Int.mul_neg_of_pos_of_neg (show 0<a by omega) h2
     simp[h1,h2];omega
    ·have:=Int.mul_pos (show 0<a by omega) (show 0<b by omega)
     simp[h1,h2];omega
   rw[e]
theorem xm4 {s:List UInt8}{k:Nat}(h:k<s.length):q37 s (k:Int)=((s[k]).toNat:Int):=by
 simp[q37,q17,List.getD,h]
theorem q4p {s:List UInt8}{p:UInt8→Bool}{k:Nat}(h:k<s.length)(h1:(s.take k).any p=false)(h2:p (s[k])=false):(s.take (k+1)).any p=false:=by
 rw[List.take_succ_eq_append_getElem h,List.any_append,h1]
 simp[h2]
theorem any_at {s:List UInt8}{p:UInt8→Bool}{k:Nat}(h:k<s.length)(h2:p (s[k])=true):s.any p=true:=List.any_eq_true.2 ⟨_,List.getElem_mem h,h2⟩
theorem w2a (N:Nat)(k n:Int)(s:List UInt8)(hs:s.length<N)(hm:s.length≤9223372036854775807):Tells (q80 (xe9 N k n s) N 0) fun r=>r=((n==0)&&xi7 s):=by
 refine Tells.iter (fun (i:Int)=>∃ j:Nat,i=(j:Int)∧j≤s.length∧(s.take j).any oddB=false) (fun (i:Int)=>s.length-i.toNat) ?_ N 0 ⟨0,rfl,by omega,by simp⟩ (by simpa using hs)
 rintro K i ⟨j,rfl,hj,hany⟩ hK
 unfold xe9
 refine Tells.dec (fun c=>?_) (fun c=>?_)
 ·have hj:j<s.length:=by omega
  refine Tells.ok (qi0 (by omega) (by omega)) ?_
  rw[xm4 hj]
  have bad:oddB s[j]=true→((n==0)&&xi7 s)=false:=fun h=>by unfold xi7;rw[any_at hj h];simp
  refine Tells.dec (fun c1=>Tells.some (bad (by unfold oddB;rw[decide_eq_true (by omega)];rfl)).symm) (fun c1=>?_)
  refine Tells.ok (qi0 (by omega) (by omega)) ?_
  refine Tells.dec (fun c2=>Tells.some (bad (by unfold oddB;rw[decide_eq_true (p:=126<_) (by omega)];simp)).symm) (fun c2=>?_)
  refine Tells.ok (inI (by omega) (by omega)) ?_
  exact hK _ ⟨j+1,rfl,by omega,q4p hj hany (by unfold oddB;rw[decide_eq_false (by omega),decide_eq_false (by omega)];rfl)⟩ (by omega)
 ·have e:s.take j=s:=List.take_of_length_le (by omega)
  rw[e] at hany
  refine Tells.ite (fun c1=>Tells.some ?_) (fun c1=>Tells.some ?_)
  ·rw[c1];unfold xi7;rw[hany];simp;omega
  ·rw[c1];rfl
theorem q8s (N : Nat) (s : List UInt8) (hN : 100 ≤ N) : Tells (xr6 N s) fun r => r = ya2 s := by
  unfold xr6 vu9
  have len0 : xp3 s = true → 1 ≤ s.length ∧ s.length ≤ 12 := by
    cases s with
    | nil => intro h; cases h
    | cons c l => intro h; unfold xp3 at h; simp at h; simp; omega
  have badh : xp3 s = false → ya2 s = false := fun h => by unfold ya2; rw [h]; rfl
  have hd : ¬ (1 ≤ s.length ∧ s.length ≤ 12) → ya2 s = false := fun h => badh (by cases hh : xp3 s <;> first | rfl | exact absurd (len0 hh) h)
  refine Tells.dec (fun c => Tells.some (hd (by omega)).symm) (fun c => Tells.dec (fun c2 => Tells.some (hd (by omega)).symm) (fun c2 => ?_))
  have h0 : 0 < s.length := by omega
  have hh : xp3 s = (decide (97 ≤ (s[0]).toNat) && decide ((s[0]).toNat ≤ 122)) := by
    cases s with
    | nil => simp at h0
    | cons x l => unfold xp3; simp at c2; simp; omega
  refine Tells.iter (fun (i : Int) => ∃ j : Nat, i = (j : Int) ∧ j ≤ s.length ∧ (0 < j → xp3 s = true) ∧ (s.take j).any wq4 = false) (fun (i : Int) => s.length - i.toNat) ?_ N 0 ⟨0, rfl, by omega, fun h => absurd h (by omega), by simp⟩ (by omega)
  rintro K i ⟨j, rfl, hj, hhead, hany⟩ hK
  unfold xr7
  refine Tells.dec (fun c => ?_) (fun c => ?_)
  · have hj : j < s.length := by omega
    have bt := xm4 hj
    have hr : inR (j : Int) s.length = true := qi0 (by omega) (by omega)
    have hi : q24 ((j : Int) + 1) = true := inI (by omega) (by omega)
    have bad : wq4 s[j] = true → ya2 s = false := fun h => by unfold ya2; rw [any_at hj h]; simp
    have next : (0 < j + 1 → xp3 s = true) → wq4 s[j] = false → Tells (K ((j : Int) + 1)) fun r => r = ya2 s := fun h1 h2 => hK _ ⟨j + 1, rfl, by omega, h1, q4p hj hany h2⟩ (by omega)
    have lt256 : (s[j]).toNat < 256 := UInt8.toNat_lt _
    refine Tells.ok hr ?_
    rw [bt]
    refine Tells.dec (fun c1 => ?_) (fun c1 => ?_)
    · refine Tells.ok hr ?_
      by_cases c3 : ((s[j]).toNat : Int) ≤ 122
      · refine Tells.no (by rw [decide_eq_true c3]; rfl) (Tells.ok hi (next (fun _ => ?_) (by unfold wq4; rw [decide_eq_false (by omega), decide_eq_false (by omega)]; rfl)))
        by_cases hj0 : 0 < j
        · exact hhead hj0
        · have : j = 0 := by omega
          subst this
          rw [hh, decide_eq_true (by omega), decide_eq_true (by omega)]; rfl
      · refine Tells.ok (by rw [decide_eq_false c3]; rfl) ?_
        have hb : wq4 s[j] = true := by unfold wq4; rw [decide_eq_true (p := 122 < _) (by omega), decide_eq_true (p := 57 < _) (by omega)]; simp
        refine Tells.ite (fun _ => Tells.some (bad hb).symm) (fun _ => Tells.ok hr (Tells.dec (fun _ => Tells.some (bad hb).symm) (fun _ => Tells.ok hr (Tells.dec (fun _ => Tells.some (bad hb).symm) (fun h => absurd h (by omega))))))
    · refine Tells.ite (fun c3 => Tells.some ?_) (fun c3 => ?_)
      · have : j = 0 := by have : (j : Int) = 0 := by simpa using c3
                           omega
        subst this
        exact (badh (by rw [hh, decide_eq_false (by omega)]; rfl)).symm
      · have hj0 : 0 < j := by have : (j : Int) ≠ 0 := by simpa using c3
                               omega
        have e : decide ((s[j]).toNat < 97) = true := by rw [decide_eq_true]; omega
        refine Tells.ok hr (Tells.dec (fun c4 => Tells.some (bad ?_).symm) (fun c4 => Tells.ok hr (Tells.dec (fun c5 => Tells.some (bad ?_).symm) (fun c5 => Tells.ok hi (next (fun _ => hhead hj0) ?_)))))
        · unfold wq4; rw [e, decide_eq_true (p := (s[j]).toNat < 48) (by omega)]; rfl
        · unfold wq4; rw [e, decide_eq_true (p := 57 < _) (by omega)]; simp
        · unfold wq4; rw [decide_eq_false (p := (s[j]).toNat < 48) (by omega), decide_eq_false (p := 57 < _) (by omega)]; simp
  · have e : s.take j = s := List.take_of_length_le (by omega)
    rw [e] at hany
    refine Tells.some ?_
    unfold ya2
    rw [hhead (by omega), hany]; rfl
theorem x63 (N:Nat)(v:q00)(hs:v.2.2.1.length<N)(hm:v.2.2.1.length≤9223372036854775807)(hN:100≤N):∃ r,qz3 N v=some r∧zl0 N v=some r:=by
 have ht:=w2a N v.1 v.2.1 v.2.2.1 hs hm
 have hn:=q8s N v.2.2.1 hN
 obtain⟨k,n,s,u⟩:=v
 dsimp only at *
 unfold qz3 zl0 uz7 wl0 wk9
 dsimp only
 obtain⟨t,ht,rfl⟩:=ht
 obtain⟨m,hn,rfl⟩:=hn
 rw[hn]
 by_cases h0:k=0
 ·subst h0
  by_cases h:n=0
  ·subst h;exact⟨_,rfl,by simp⟩
  ·have e:(n==0)=false:=by simpa using h
   exact⟨_,rfl,by simp[e]⟩
 have e0:(k==0)=false:=by simpa using h0
 rw[e0]
 by_cases h1:k=1
 ·subst h1;exact⟨_,rfl,rfl⟩
 have e1:(k==1)=false:=by simpa using h1
 rw[e1]
 by_cases h2:k=2
 ·subst h2;exact⟨_,rfl,rfl⟩
 have e2:(k==2)=false:=by simpa using h2
 rw[e2]
 by_cases h3:k=3
 ·subst h3
  refine⟨_,?_,ht⟩
  cases h:n==0<;>rfl
 have e3:(k==3)=false:=by simpa using h3
 rw[e3]
 by_cases h4:k=4
 ·subst h4
  cases s==[]<;>cases n==0<;>exact⟨_,rfl,rfl⟩
 have e4:(k==4)=false:=by simpa using h4
 rw[e4]
 cases k==5<;>cases n==0<;>exact⟨_,rfl,rfl⟩
end Go.Proofs.YtgicljncknbgcaaGreat.Abs
