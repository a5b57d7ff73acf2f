/- The library's functions that are told by contract: texts and names of package value. -/
import Derived.Test.YtgicljncknbgcaaGreatL7
import Derived.Test.YtgicljncknbgcaaGreatL8
import Derived.Test.YtgicljncknbgcaaGreatL9
import Derived.Laws.RangeAny
import Derived.Shelf.Strings.FuncGrows
import Derived.Shelf.Lay
import Derived.Test.YtgicljncknbgcaaGreatShelf
import Derived.WalkKit
import Derived.ProofKit
set_option linter.unusedVariables false
set_option linter.unusedSimpArgs false
set_option linter.unusedSectionVars false
namespace Go.Proofs.YtgicljncknbgcaaGreat.Abs
open Go Go.Proofs Go.ChangeShapes Go.WideShapes Go.ChangeAt Go.RowKit Go.Shelf Go.Lib
theorem ws8 {P:Program}{f:FuncId}{pts rts:List Ty}{m:Els pts→Option (RT rts)}(hen:wx5 P f=true)
  (h:∀ x r,m x=some r→∀ (G:Gh) (w:World) (cargs:List Value),GI P G w→q55 G w (dns (qd2 pts x)) cargs→Calls P f cargs.toArray w fun e w'=>∃ v,e=.returned v∧(∀ (G':Gh) (w2:World),VR0 G' w2 (dn (encR rts r)) v)∧Below w.heap.size w w') :
  q16 P f (q35 pts rts m):=by
 intro β args s k b hE
 unfold q35 at hE
 split at hE
 case h_2=>cases hE
 rename_i x hx
 split at hE
 case h_2=>cases hE
 rename_i r hr
 refine ⟨hen,encR rts r,s,?_,hE⟩
 intro M G w cargs hS hG hv
 refine (h x r hr G w cargs hG ((yx1 hx).VRs0 hv)).mono ?_
 rintro e w' ⟨v,rfl,hv',hb⟩
 have hg:w.grownBy w' none:=⟨hb.os,hb.tape,hb.output,hb.size,fun k hk _=>hb.block k hk⟩
 have hm:kh1 G w G:=⟨Nat.le_refl _,fun _ _=>rfl,fun _ _=>rfl,fun i h1 h2=>by omega,fun _ _=>rfl,fun _ _=>rfl,fun _ _=>rfl⟩
 exact ⟨v,G,rfl,hv' G w',hS.toS.grow hg hm rfl,(Ext.grow hg hm).mono fun _ _ h=>h.elim⟩
theorem idx_any (p:Nat→Bool)(hp:∀ n,128≤n→p n=true)(s:ByteArray):∀ (f pos:Nat),s.size - pos≤f→(0≤Lib.idxFuncFrom p true s f pos↔(s.data.toList.drop pos).any (fun b=>p b.toNat)=true)
 | 0,pos,h=>by
  have e:s.size=s.data.toList.length:=rfl
  rw [List.drop_eq_nil_of_le (by omega)]
  simp [Lib.idxFuncFrom]
 | f + 1,pos,h=>by
  have e:s.size=s.data.toList.length:=rfl
  unfold Lib.idxFuncFrom
  by_cases hlt:pos < s.size
  ·rw [if_pos hlt,List.drop_eq_getElem_cons (by omega)]
   have eg:s.data.toList[pos]=s[pos]:=by rfl
   rw [eg,List.any_cons]
   by_cases ha:(s[pos]).toNat < 128
   ·rw [decode_ascii s pos hlt ha]
    by_cases hb:p (s[pos]).toNat=true
    ·rw [if_pos hb]; simp [hb]
    ·rw [if_neg hb]
     have hb':p (s[pos]).toNat=false:=by simpa using hb
     rw [hb',Bool.false_or]
     exact idx_any p hp s f (pos + 1) (by omega)
   ·obtain ⟨h1,h2⟩:=decode_high s pos hlt (by omega)
    rw [if_pos (hp _ h1),hp (s[pos]).toNat (by omega)]
    simp
  ·rw [if_neg hlt,List.drop_eq_nil_of_le (by omega)]
   simp
theorem kn3 (p:Nat→Bool)(hp:∀ n,128≤n→p n=true)(s:ByteArray):decide (0≤Lib.idxFunc p true s)=s.data.toList.any (fun b=>p b.toNat):=by
 rw [Bool.eq_iff_iff,decide_eq_true_eq]
 exact idx_any p hp s s.size 0 (by omega)
open Abs.Walks in
theorem oddR_high (n:Nat)(h:128≤n):oddR n=true:=by unfold oddR; simp; omega
open Abs.Walks in
theorem kq3 (n:Nat)(h:128≤n):uw5 n=true:=by unfold uw5; simp; omega
def oddB (b:UInt8):Bool:=decide (b.toNat < 32) || decide (126 < b.toNat)
def ws7 (b:UInt8):Bool:=(decide (b.toNat < 97) || decide (122 < b.toNat)) && (decide (b.toNat < 48) || decide (57 < b.toNat))
def uz7 (s:List UInt8):Bool:=decide (s.length≤200) && !s.any oddB
def v57 :List UInt8→Bool
 | []=>false
 | c :: l=>decide (l.length < 12) && (decide (97≤c.toNat) && decide (c.toNat≤122))
def xt8 (s:List UInt8):Bool:=v57 s && !s.any ws7
theorem xc3 (s:List UInt8):(⟨s.toArray⟩:ByteArray).size=s.length:=by show s.toArray.size=_; simp
open Abs.Walks in
theorem kq8 (s:List UInt8):yl5 ⟨s.toArray⟩=uz7 s:=by
 unfold yl5 uz7
 rw [kn3 oddR oddR_high,xc3]
 rfl
open Abs.Walks in
theorem kp9 (s:List UInt8):wq9 ⟨s.toArray⟩=xt8 s:=by
 unfold wq9 xt8
 rw [kn3 uw5 kq3]
 have e:xp6 ⟨s.toArray⟩=v57 s:=by
  unfold xp6
  cases s with
  | nil=>rw [dif_neg (by rw [xc3]; simp)]; rfl
  | cons c l =>
   have h:0 < (⟨(c :: l).toArray⟩:ByteArray).size:=by rw [xc3]; simp
   rw [dif_pos h]
   unfold v57
   have e0:(⟨(c :: l).toArray⟩:ByteArray)[0]=c:=rfl
   rw [e0,xc3]
   have e1:decide ((c :: l).length≤12)=decide (l.length < 12):=by simp; omega
   rw [e1,Bool.eq_iff_iff]
   simp only [Bool.and_eq_true,decide_eq_true_eq]
   omega
 rw [e]
 rfl
def wt5 (N:Nat)(s:List UInt8):Option Bool:=some (uz7 s)
def xh8 (m:(List UInt8)→Option Bool):Ent:=q35 [.str] [.bool] fun (x:Els [.str])=>m x.1
def ji6 (N:Nat):Ent:=xh8 (wt5 N)
theorem x09 (N:Nat):q16 Tryz.prog 180 (ji6 N):=by
 refine ws8 (pts:=[.str]) (rts:=[.bool]) (m:=fun (x:Els [.str])=>wt5 N x.1) (by kernel_rfl) fun x r hx G w cargs _ hv=>?_
 obtain ⟨s,u⟩:=x
 have hx:some (uz7 s)=some r:=hx
 cases hx
 change List UInt8 at s
 simp only [qd2,dns,dn,kf3,q55,VR0] at hv
 obtain ⟨v,vs,rfl,rfl,rfl⟩:=hv
 refine (Abs.Walks.istext_calls ⟨s.toArray⟩ w).mono ?_
 rintro e w' ⟨rfl,hb⟩
 exact ⟨_,rfl,fun G' w2=>by rw [kq8]; rfl,hb⟩
def wu2 (N:Nat)(s:List UInt8):Option Bool:=some (xt8 s)
def xj5 (m:(List UInt8)→Option Bool):Ent:=q35 [.str] [.bool] fun (x:Els [.str])=>m x.1
def ji2 (N:Nat):Ent:=xj5 (wu2 N)
theorem yw2 (N:Nat):q16 Tryz.prog 181 (ji2 N):=by
 refine ws8 (pts:=[.str]) (rts:=[.bool]) (m:=fun (x:Els [.str])=>wu2 N x.1) (by kernel_rfl) fun x r hx G w cargs _ hv=>?_
 obtain ⟨s,u⟩:=x
 have hx:some (xt8 s)=some r:=hx
 cases hx
 change List UInt8 at s
 simp only [qd2,dns,dn,kf3,q55,VR0] at hv
 obtain ⟨v,vs,rfl,rfl,rfl⟩:=hv
 refine (Abs.Walks.isname_calls ⟨s.toArray⟩ w).mono ?_
 rintro e w' ⟨rfl,hb⟩
 exact ⟨_,rfl,fun G' w2=>by rw [kp9]; rfl,hb⟩
theorem gi_cell {w:World}{G:Gh}(h:GI Tryz.prog G w):∃ m,w.cell? ⟨0,0,none⟩=some (.int .i64 m):=(h (by kernel_rfl)).1
def wb3 (N:Nat)(s sub:List UInt8):Option Bool:=bif Nat.blt s.length 4294967281 then some (Lib.contains s sub) else none
def jo8 (m:(List UInt8)→(List UInt8)→Option Bool):Ent:=q35 [.str,.str] [.bool] fun (x:Els [.str,.str])=>m x.1 x.2.1
def z55 (N:Nat):Ent:=jo8 (wb3 N)
theorem jl7 (N:Nat):q16 Tryz.prog 91 (z55 N):=by
 refine ws8 (pts:=[.str,.str]) (rts:=[.bool]) (m:=fun (x:Els [.str,.str])=>wb3 N x.1 x.2.1) (by kernel_rfl) fun x r hx G w cargs hG hv=>?_
 obtain ⟨s,t,u⟩:=x
 change List UInt8 at s
 change List UInt8 at t
 have hx:(bif Nat.blt s.length 4294967281 then some (Lib.contains s t) else none)=some r:=hx
 have hl:s.length < 4294967281:=by
  cases h:Nat.blt s.length 4294967281
  ·rw [h] at hx; cases hx
  ·rwa [Nat.blt_eq] at h
 rw [show Nat.blt s.length 4294967281=true by rw [Nat.blt_eq]; exact hl] at hx
 cases hx
 simp only [qd2,dns,dn,kf3,q55,VR0] at hv
 obtain ⟨v,vs,rfl,rfl,v2,vs2,rfl,rfl,rfl⟩:=hv
 obtain ⟨m,hm⟩:=gi_cell hG
 refine (Tryz.strings_Contains ⟨s.toArray⟩ ⟨t.toArray⟩ m w (by rw [xc3]; exact hl) hm).mono ?_
 rintro e w' ⟨rfl,rfl⟩
 exact ⟨_,rfl,fun G' w2=>rfl,Below.refl _ _⟩
def y79 (N:Nat)(l:List (Int×Int×(List UInt8)×Unit)):Option ((Int×Int×(List UInt8)×Unit)×Int×Unit):=match l with
 | v :: _=>bif Nat.ble v.2.2.1.length 9223372036854775807 then some ((3,0,v.2.2.1.map Abs.Upper.upB,()),0,()) else none
 | []=>none
abbrev t_V :Ty:=.st [(.int .u8),(.int .i64),.str]
abbrev t_A :Ty:=.st [t_V,(.int .i64)]
def v98 (m:(List (Int×Int×(List UInt8)×Unit))→Option ((Int×Int×(List UInt8)×Unit)×Int×Unit)):Ent:=q35 [(.list t_V)] [t_A] fun (x:Els [(.list t_V)])=>m x.1
def yf3 (N:Nat):Ent:=v98 (y79 N)
theorem xv0 (N:Nat):q16 Tryz.prog 111 (yf3 N):=by
 refine ws8 (pts:=[(.list t_V)]) (rts:=[t_A]) (m:=fun (x:Els [(.list t_V)])=>y79 N x.1) (by kernel_rfl) fun x r hx G w cargs hG hv=>?_
 obtain ⟨l,u⟩:=x
 change List (Int×Int×(List UInt8)×Unit) at l
 cases l with
 | nil=>cases hx
 | cons v l =>
  obtain ⟨k,n,s,z⟩:=v
  have hx:(bif Nat.ble s.length 9223372036854775807 then some (((3:Int),(0:Int),s.map Abs.Upper.upB,()),(0:Int),()) else none)=some r:=hx
  have hl:s.length≤9223372036854775807:=by
   cases h:Nat.ble s.length 9223372036854775807
   ·rw [h] at hx; cases hx
   ·exact Nat.le_of_ble_eq_true h
  rw [Nat.ble_eq_true_of_le hl] at hx
  cases hx
  simp only [qd2,dns,dn,kf3,q55,VR0] at hv
  obtain ⟨v,vs,rfl,⟨A,cap,rfl,hcap,_,hrow⟩,rfl⟩:=hv
  rcases hrow with hrow | ⟨b,o,vs,rfl,hseen,hcells,hvs⟩
  ·cases hrow
  ·simp only [List.flatMap_cons,q47,qc0,List.cons_append,List.nil_append,q55,VR0] at hvs
   obtain ⟨v0,vs0,rfl,rfl,v1,vs1,rfl,rfl,v2,vs2,rfl,rfl,hvs⟩:=hvs
   have hc:=hcells 2 (.string ⟨s.toArray⟩) rfl
   refine (Abs.Upper.upper_calls ⟨s.toArray⟩ (by rw [xc3]; exact hl) b o _ cap w hseen.1 (Nat.succ_pos _) hc).mono ?_
   rintro e w' ⟨rfl,hb⟩
   exact ⟨_,rfl,fun G' w2=>⟨[.int .u8 3,.int .i64 0,.string ⟨(s.map Abs.Upper.upB).toArray⟩,.int .i64 0],rfl,⟨_,_,rfl,rfl,_,_,rfl,rfl,_,_,rfl,rfl,_,_,rfl,rfl,rfl⟩⟩,hb⟩
end Go.Proofs.YtgicljncknbgcaaGreat.Abs
