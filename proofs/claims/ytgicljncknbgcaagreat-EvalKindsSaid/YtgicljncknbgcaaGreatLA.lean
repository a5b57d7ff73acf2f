/- The library's functions that are told by contract: texts and names of package value. -/
import Derived.Test.YtgicljncknbgcaaGreatL7
import Derived.Test.YtgicljncknbgcaaGreatL8
import Derived.Test.YtgicljncknbgcaaGreatL9
import Derived.Laws.RangeAny
import Derived.Shelf.Strings.FuncGrows
import Derived.Shelf.Lay
import Derived.Test.YtgicljncknbgcaaGreatShelf
import Derived.WalkKit
import Derived.ProofKit
set_option linter.unusedVariables false
set_option linter.unusedSimpArgs false
set_option linter.unusedSectionVars false
namespace Go.Proofs.YtgicljncknbgcaaGreat.Abs
open Go Go.Proofs Go.ChangeShapes Go.WideShapes Go.ChangeAt Go.RowKit Go.Shelf Go.Lib
theorem wz0 {P:Program}{f:FuncId}{pts rts:List Ty}{m:Els pts→Option (RT rts)}(hen:z06 P f=true)
  (h:∀ x r,m x=some r→∀ (G:Gh) (w:World) (cargs:List Value),GI P G w→q61 G w (dns (qb7 pts x)) cargs→Calls P f cargs.toArray w fun e w'=>∃ v,e=.returned v∧(∀ (G':Gh) (w2:World),VR0 G' w2 (dn (encR rts r)) v)∧Below w.heap.size w w') :
  q16 P f (q29 pts rts m):=by
 intro β args s k b hE
 unfold q29 at hE
 split at hE
 case h_2=>cases hE
 rename_i x hx
 split at hE
 case h_2=>cases hE
 rename_i r hr
 refine⟨hen,encR rts r,s,?_,hE⟩
 intro M G w cargs hS hG hv
 refine(h x r hr G w cargs hG ((x97 hx).VRs0 hv)).mono ?_
 rintro e w' ⟨v,rfl,hv',hb⟩
 have hg:w.grownBy w' none:=⟨hb.os,hb.tape,hb.output,hb.size,fun k hk _=>hb.block k hk⟩
 have hm:q4e G w G:=⟨Nat.le_refl _,fun _ _=>rfl,fun _ _=>rfl,fun i h1 h2=>by omega,fun _ _=>rfl,fun _ _=>rfl,fun _ _=>rfl⟩
 exact⟨v,G,rfl,hv' G w',hS.toS.grow hg hm rfl,(Ext.grow hg hm).mono fun _ _ h=>h.elim⟩
theorem idx_any (p:Nat→Bool)(hp:∀ n,128≤n→p n=true)(s:ByteArray):∀ (f pos:Nat),s.size-pos≤f→(0≤Lib.idxFuncFrom p true s f pos↔(s.data.toList.drop pos).any (fun b=>p b.toNat)=true)
 |0,pos,h=>by
  have e:s.size=s.data.toList.length:=rfl
  rw[List.drop_eq_nil_of_le (by omega)]
  simp[Lib.idxFuncFrom]
 |f+1,pos,h=>by
  have e:s.size=s.data.toList.length:=rfl
  unfold Lib.idxFuncFrom
  by_cases hlt:pos<s.size
  ·rw[if_pos hlt,List.drop_eq_getElem_cons (by omega)]
   have eg:s.data.toList[pos]=s[pos]:=by rfl
   rw[eg,List.any_cons]
   by_cases ha:(s[pos]).toNat<128
   ·rw[decode_ascii s pos hlt ha]
    by_cases hb:p (s[pos]).toNat=true
    ·rw[if_pos hb];simp[hb]
    ·rw[if_neg hb]
     have hb':p (s[pos]).toNat=false:=by simpa using hb
     rw[hb',Bool.false_or]
     exact idx_any p hp s f (pos+1) (by omega)
   ·obtain⟨h1,h2⟩:=decode_high s pos hlt (by omega)
    rw[if_pos (hp _ h1),hp (s[pos]).toNat (by omega)]
    simp
  ·rw[if_neg hlt,List.drop_eq_nil_of_le (by omega)]
   simp
theorem q5h (p:Nat→Bool)(hp:∀ n,128≤n→p n=true)(s:ByteArray):decide (0≤Lib.idxFunc p true s)=s.data.toList.any (fun b=>p b.toNat):=by
 rw[Bool.eq_iff_iff,decide_eq_true_eq]
 exact idx_any p hp s s.size 0 (by omega)
open Abs.Walks in
theorem oddR_high (n:Nat)(h:128≤n):oddR n=true:=by unfold oddR;simp;omega
open Abs.Walks in
theorem q8r (n:Nat)(h:128≤n):ke9 n=true:=by unfold ke9;simp;omega
def oddB (b:UInt8):Bool:=decide (b.toNat<32)||decide (126<b.toNat)
def wq4 (b:UInt8):Bool:=(decide (b.toNat<97)||decide (122<b.toNat))&&(decide (b.toNat<48)||decide (57<b.toNat))
def xi7 (s:List UInt8):Bool:=decide (s.length≤200)&&!s.any oddB
def xp3 :List UInt8→Bool
 |[]=>false
 |c::l=>decide (l.length<12)&&(decide (97≤c.toNat)&&decide (c.toNat≤122))
def ya2 (s:List UInt8):Bool:=xp3 s&&!s.any wq4
theorem xz0 (s:List UInt8):(⟨s.toArray⟩:ByteArray).size=s.length:=by show s.toArray.size=_;simp
open Abs.Walks in
theorem q8l (s:List UInt8):yy7 ⟨s.toArray⟩=xi7 s:=by
 unfold yy7 xi7
 rw[q5h oddR oddR_high,xz0]
 rfl
open Abs.Walks in
theorem q8k (s:List UInt8):wu5 ⟨s.toArray⟩=ya2 s:=by
 unfold wu5 ya2
 rw[q5h ke9 q8r]
 have e:v40 ⟨s.toArray⟩=xp3 s:=by
  unfold v40
  cases s with
  |nil=>rw[dif_neg (by rw[xz0];simp)];rfl
  |cons c l =>
   have h:0<(⟨(c::l).toArray⟩:ByteArray).size:=by rw[xz0];simp
   rw[dif_pos h]
   unfold xp3
   have e0:(⟨(c::l).toArray⟩:ByteArray)[0]=c:=rfl
   rw[e0,xz0]
   have e1:decide ((c::l).length≤12)=decide (l.length<12):=by simp;omega
   rw[e1,Bool.eq_iff_iff]
   simp only[Bool.and_eq_true,decide_eq_true_eq]
   omega
 rw[e]
 rfl
def wl0 (N:Nat)(s:List UInt8):Option Bool:=some (xi7 s)
def v08 (m:(List UInt8)→Option Bool):Ent:=q29 [.str] [.bool] fun (x:Els [.str])=>m x.1
def js7 (N:Nat):Ent:=v08 (wl0 N)
theorem xk7 (N:Nat):q16 Tryz.prog 180 (js7 N):=by
 refine wz0 (pts:=[.str]) (rts:=[.bool]) (m:=fun (x:Els [.str])=>wl0 N x.1) (by kernel_rfl) fun x r hx G w cargs _ hv=>?_
 obtain⟨s,u⟩:=x
 have hx:some (xi7 s)=some r:=hx
 cases hx
 change List UInt8 at s
 simp only[qb7,dns,dn,ks0,q61,VR0] at hv
 obtain⟨v,vs,rfl,rfl,rfl⟩:=hv
 refine(Abs.Walks.istext_calls ⟨s.toArray⟩ w).mono ?_
 rintro e w' ⟨rfl,hb⟩
 exact⟨_,rfl,fun G' w2=>by rw[q8l];rfl,hb⟩
def wk9 (N:Nat)(s:List UInt8):Option Bool:=some (ya2 s)
def v06 (m:(List UInt8)→Option Bool):Ent:=q29 [.str] [.bool] fun (x:Els [.str])=>m x.1
def js5 (N:Nat):Ent:=v06 (wk9 N)
theorem xk5 (N:Nat):q16 Tryz.prog 181 (js5 N):=by
 refine wz0 (pts:=[.str]) (rts:=[.bool]) (m:=fun (x:Els [.str])=>wk9 N x.1) (by kernel_rfl) fun x r hx G w cargs _ hv=>?_
 obtain⟨s,u⟩:=x
 have hx:some (ya2 s)=some r:=hx
 cases hx
 change List UInt8 at s
 simp only[qb7,dns,dn,ks0,q61,VR0] at hv
 obtain⟨v,vs,rfl,rfl,rfl⟩:=hv
 refine(Abs.Walks.isname_calls ⟨s.toArray⟩ w).mono ?_
 rintro e w' ⟨rfl,hb⟩
 exact⟨_,rfl,fun G' w2=>by rw[q8k];rfl,hb⟩
theorem gi_cell {w:World}{G:Gh}(h:GI Tryz.prog G w):∃ m,w.cell? ⟨0,0,none⟩=some (.int .i64 m):=(h (by kernel_rfl)).1
def wf8 (N:Nat)(s sub:List UInt8):Option Bool:=bif Nat.blt s.length 4294967281 then some (Lib.contains s sub) else none
def ye8 (m:(List UInt8)→(List UInt8)→Option Bool):Ent:=q29 [.str,.str] [.bool] fun (x:Els [.str,.str])=>m x.1 x.2.1
def zl5 (N:Nat):Ent:=ye8 (wf8 N)
theorem jy6 (N:Nat):q16 Tryz.prog 91 (zl5 N):=by
 refine wz0 (pts:=[.str,.str]) (rts:=[.bool]) (m:=fun (x:Els [.str,.str])=>wf8 N x.1 x.2.1) (by kernel_rfl) fun x r hx G w cargs hG hv=>?_
 obtain⟨s,t,u⟩:=x
 change List UInt8 at s
 change List UInt8 at t
 have hx:(bif Nat.blt s.length 4294967281 then some (Lib.contains s t) else none)=some r:=hx
 have hl:s.length<4294967281:=by
  cases h:Nat.blt s.length 4294967281
  ·rw[h] at hx;cases hx
  ·rwa[Nat.blt_eq] at h
 rw[show Nat.blt s.length 4294967281=true by rw[Nat.blt_eq];exact hl] at hx
 cases hx
 simp only[qb7,dns,dn,ks0,q61,VR0] at hv
 obtain⟨v,vs,rfl,rfl,v2,vs2,rfl,rfl,rfl⟩:=hv
 obtain⟨m,hm⟩:=gi_cell hG
 refine(Tryz.strings_Contains ⟨s.toArray⟩ ⟨t.toArray⟩ m w (by rw[xz0];exact hl) hm).mono ?_
 rintro e w' ⟨rfl,rfl⟩
 exact⟨_,rfl,fun G' w2=>rfl,Below.refl _ _⟩
def yh4 (N:Nat)(l:List (Int×Int×(List UInt8)×Unit)):Option ((Int×Int×(List UInt8)×Unit)×Int×Unit):=match l with
 |v::_=>bif Nat.ble v.2.2.1.length 9223372036854775807 then some ((3,0,v.2.2.1.map Abs.Upper.upB,()),0,()) else none
 |[]=>none
abbrev t_V :Ty:=.st [(.int .u8),(.int .i64),.str]
abbrev t_A :Ty:=.st [t_V,(.int .i64)]
def vo6 (m:(List (Int×Int×(List UInt8)×Unit))→Option ((Int×Int×(List UInt8)×Unit)×Int×Unit)):Ent:=q29 [(.list t_V)] [t_A] fun (x:Els [(.list t_V)])=>m x.1
def ys4 (N:Nat):Ent:=vo6 (yh4 N)
theorem vc9 (N:Nat):q16 Tryz.prog 111 (ys4 N):=by
 refine wz0 (pts:=[(.list t_V)]) (rts:=[t_A]) (m:=fun (x:Els [(.list t_V)])=>yh4 N x.1) (by kernel_rfl) fun x r hx G w cargs hG hv=>?_
 obtain⟨l,u⟩:=x
 change List (Int×Int×(List UInt8)×Unit) at l
 cases l with
 |nil=>cases hx
 |cons v l =>
  obtain⟨k,n,s,z⟩:=v
  have hx:(bif Nat.ble s.length 9223372036854775807 then some (((3:Int),(0:Int),s.map Abs.Upper.upB,()),(0:Int),()) else none)=some r:=hx
  have hl:s.length≤9223372036854775807:=by
   cases h:Nat.ble s.length 9223372036854775807
   ·rw[h] at hx;cases hx
   ·exact Nat.le_of_ble_eq_true h
  rw[Nat.ble_eq_true_of_le hl] at hx
  cases hx
  simp only[qb7,dns,dn,ks0,q61,VR0] at hv
  obtain⟨v,vs,rfl,⟨A,cap,rfl,hcap,_,hrow⟩,rfl⟩:=hv
  rcases hrow with hrow|⟨b,o,vs,rfl,hseen,hcells,hvs⟩
  ·cases hrow
  ·simp only[List.flatMap_cons,q50,qb9,List.cons_append,List.nil_append,q61,VR0] at hvs
   obtain⟨v0,vs0,rfl,rfl,v1,vs1,rfl,rfl,v2,vs2,rfl,rfl,hvs⟩:=hvs
   have hc:=hcells 2 (.string ⟨s.toArray⟩) rfl
   refine(Abs.Upper.upper_calls ⟨s.toArray⟩ (by rw[xz0];exact hl) b o _ cap w hseen.1 (Nat.succ_pos _) hc).mono ?_
   rintro e w' ⟨rfl,hb⟩
   exact⟨_,rfl,fun G' w2=>⟨[.int .u8 3,.int .i64 0,.string ⟨(s.map Abs.Upper.upB).toArray⟩,.int .i64 0],rfl,⟨_,_,rfl,rfl,_,_,rfl,rfl,_,_,rfl,rfl,_,_,rfl,rfl,rfl⟩⟩,hb⟩
end Go.Proofs.YtgicljncknbgcaaGreat.Abs
