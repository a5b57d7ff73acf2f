/- The library's functions that are told by contract: texts and names of package value. -/
import Derived.Test.YtgicljncknbgcaaGreatL7
import Derived.Test.YtgicljncknbgcaaGreatL8
import Derived.Test.YtgicljncknbgcaaGreatL9
import Derived.Laws.RangeAny
import Derived.Shelf.Strings.FuncGrows
import Derived.Shelf.Lay
import Derived.Test.YtgicljncknbgcaaGreatShelf
import Derived.WalkKit
import Derived.ProofKit
set_option linter.unusedVariables false
set_option linter.unusedSimpArgs false
set_option linter.unusedSectionVars false
namespace Go.Proofs.YtgicljncknbgcaaGreat.Abs
open Go Go.Proofs Go.ChangeShapes Go.WideShapes Go.ChangeAt Go.RowKit Go.Shelf Go.Lib
theorem wt2 {P:Program}{f:FuncId}{pts rts:List Ty}{m:Els pts→Option (RT rts)}(hen:z04 P f=true)
  (h:∀ x r,m x=some r→∀ (G:Gh) (w:World) (cargs:List Value),GI P G w→q56 G w (dns (qd4 pts x)) cargs→Calls P f cargs.toArray w fun e w'=>∃ v,e=.returned v∧(∀ (G':Gh) (w2:World),VR0 G' w2 (dn (encR rts r)) v)∧Below w.heap.size w w') :
  q17 P f (q37 pts rts m):=by
 intro β args s k b hE
 unfold q37 at hE
 split at hE
 case h_2=>cases hE
 rename_i x hx
 split at hE
 case h_2=>cases hE
 rename_i r hr
 refine ⟨hen,encR rts r,s,?_,hE⟩
 intro M G w cargs hS hG hv
 refine (h x r hr G w cargs hG ((yy3 hx).VRs0 hv)).mono ?_
 rintro e w' ⟨v,rfl,hv',hb⟩
 have hg:w.grownBy w' none:=⟨hb.os,hb.tape,hb.output,hb.size,fun k hk _=>hb.block k hk⟩
 have hm:ko5 G w G:=⟨Nat.le_refl _,fun _ _=>rfl,fun _ _=>rfl,fun i h1 h2=>by omega,fun _ _=>rfl,fun _ _=>rfl,fun _ _=>rfl⟩
 exact ⟨v,G,rfl,hv' G w',hS.toS.grow hg hm rfl,(Ext.grow hg hm).mono fun _ _ h=>h.elim⟩
theorem idx_any (p:Nat→Bool)(hp:∀ n,128≤n→p n=true)(s:ByteArray):∀ (f pos:Nat),s.size - pos≤f→(0≤Lib.idxFuncFrom p true s f pos↔(s.data.toList.drop pos).any (fun b=>p b.toNat)=true)
 | 0,pos,h=>by
  have e:s.size=s.data.toList.length:=rfl
  rw [List.drop_eq_nil_of_le (by omega)]
  simp [Lib.idxFuncFrom]
 | f + 1,pos,h=>by
  have e:s.size=s.data.toList.length:=rfl
  unfold Lib.idxFuncFrom
  by_cases hlt:pos < s.size
  ·rw [if_pos hlt,List.drop_eq_getElem_cons (by omega)]
   have eg:s.data.toList[pos]=s[pos]:=by rfl
   rw [eg,List.any_cons]
   by_cases ha:(s[pos]).toNat < 128
   ·rw [decode_ascii s pos hlt ha]
    by_cases hb:p (s[pos]).toNat=true
    ·rw [if_pos hb]; simp [hb]
    ·rw [if_neg hb]
     have hb':p (s[pos]).toNat=false:=by simpa using hb
     rw [hb',Bool.false_or]
     exact idx_any p hp s f (pos + 1) (by omega)
   ·obtain ⟨h1,h2⟩:=decode_high s pos hlt (by omega)
    rw [if_pos (hp _ h1),hp (s[pos]).toNat (by omega)]
    simp
  ·rw [if_neg hlt,List.drop_eq_nil_of_le (by omega)]
   simp
theorem km0 (p:Nat→Bool)(hp:∀ n,128≤n→p n=true)(s:ByteArray):decide (0≤Lib.idxFunc p true s)=s.data.toList.any (fun b=>p b.toNat):=by
 rw [Bool.eq_iff_iff,decide_eq_true_eq]
 exact idx_any p hp s s.size 0 (by omega)
open Abs.Walks in
theorem oddR_high (n:Nat)(h:128≤n):oddR n=true:=by unfold oddR; simp; omega
open Abs.Walks in
theorem kx1 (n:Nat)(h:128≤n):ux4 n=true:=by unfold ux4; simp; omega
def oddB (b:UInt8):Bool:=decide (b.toNat < 32) || decide (126 < b.toNat)
def wt9 (b:UInt8):Bool:=(decide (b.toNat < 97) || decide (122 < b.toNat)) && (decide (b.toNat < 48) || decide (57 < b.toNat))
def us3 (s:List UInt8):Bool:=decide (s.length≤200) && !s.any oddB
def ve9 :List UInt8→Bool
 | []=>false
 | c :: l=>decide (l.length < 12) && (decide (97≤c.toNat) && decide (c.toNat≤122))
def xz1 (s:List UInt8):Bool:=ve9 s && !s.any wt9
theorem xd2 (s:List UInt8):(⟨s.toArray⟩:ByteArray).size=s.length:=by show s.toArray.size=_; simp
open Abs.Walks in
theorem kz5 (s:List UInt8):yl0 ⟨s.toArray⟩=us3 s:=by
 unfold yl0 us3
 rw [km0 oddR oddR_high,xd2]
 rfl
open Abs.Walks in
theorem kw5 (s:List UInt8):wr6 ⟨s.toArray⟩=xz1 s:=by
 unfold wr6 xz1
 rw [km0 ux4 kx1]
 have e:xp6 ⟨s.toArray⟩=ve9 s:=by
  unfold xp6
  cases s with
  | nil=>rw [dif_neg (by rw [xd2]; simp)]; rfl
  | cons c l =>
   have h:0 < (⟨(c :: l).toArray⟩:ByteArray).size:=by rw [xd2]; simp
   rw [dif_pos h]
   unfold ve9
   have e0:(⟨(c :: l).toArray⟩:ByteArray)[0]=c:=rfl
   rw [e0,xd2]
   have e1:decide ((c :: l).length≤12)=decide (l.length < 12):=by simp; omega
   rw [e1,Bool.eq_iff_iff]
   simp only [Bool.and_eq_true,decide_eq_true_eq]
   omega
 rw [e]
 rfl
def wx4 (N:Nat)(s:List UInt8):Option Bool:=some (us3 s)
def xe6 (m:(List UInt8)→Option Bool):Ent:=q37 [.str] [.bool] fun (x:Els [.str])=>m x.1
def ji0 (N:Nat):Ent:=xe6 (wx4 N)
theorem x59 (N:Nat):q17 Tryz.prog 180 (ji0 N):=by
 refine wt2 (pts:=[.str]) (rts:=[.bool]) (m:=fun (x:Els [.str])=>wx4 N x.1) (by kernel_rfl) fun x r hx G w cargs _ hv=>?_
 obtain ⟨s,u⟩:=x
 have hx:some (us3 s)=some r:=hx
 cases hx
 change List UInt8 at s
 simp only [qd4,dns,dn,k30,q56,VR0] at hv
 obtain ⟨v,vs,rfl,rfl,rfl⟩:=hv
 refine (Abs.Walks.istext_calls ⟨s.toArray⟩ w).mono ?_
 rintro e w' ⟨rfl,hb⟩
 exact ⟨_,rfl,fun G' w2=>by rw [kz5]; rfl,hb⟩
def wy0 (N:Nat)(s:List UInt8):Option Bool:=some (xz1 s)
def xd9 (m:(List UInt8)→Option Bool):Ent:=q37 [.str] [.bool] fun (x:Els [.str])=>m x.1
def ji3 (N:Nat):Ent:=xd9 (wy0 N)
theorem x91 (N:Nat):q17 Tryz.prog 181 (ji3 N):=by
 refine wt2 (pts:=[.str]) (rts:=[.bool]) (m:=fun (x:Els [.str])=>wy0 N x.1) (by kernel_rfl) fun x r hx G w cargs _ hv=>?_
 obtain ⟨s,u⟩:=x
 have hx:some (xz1 s)=some r:=hx
 cases hx
 change List UInt8 at s
 simp only [qd4,dns,dn,k30,q56,VR0] at hv
 obtain ⟨v,vs,rfl,rfl,rfl⟩:=hv
 refine (Abs.Walks.isname_calls ⟨s.toArray⟩ w).mono ?_
 rintro e w' ⟨rfl,hb⟩
 exact ⟨_,rfl,fun G' w2=>by rw [kw5]; rfl,hb⟩
theorem gi_cell {w:World}{G:Gh}(h:GI Tryz.prog G w):∃ m,w.cell? ⟨0,0,none⟩=some (.int .i64 m):=(h (by kernel_rfl)).1
def wd2 (N:Nat)(s sub:List UInt8):Option Bool:=bif Nat.blt s.length 4294967281 then some (Lib.contains s sub) else none
def jt9 (m:(List UInt8)→(List UInt8)→Option Bool):Ent:=q37 [.str,.str] [.bool] fun (x:Els [.str,.str])=>m x.1 x.2.1
def z88 (N:Nat):Ent:=jt9 (wd2 N)
theorem jm1 (N:Nat):q17 Tryz.prog 91 (z88 N):=by
 refine wt2 (pts:=[.str,.str]) (rts:=[.bool]) (m:=fun (x:Els [.str,.str])=>wd2 N x.1 x.2.1) (by kernel_rfl) fun x r hx G w cargs hG hv=>?_
 obtain ⟨s,t,u⟩:=x
 change List UInt8 at s
 change List UInt8 at t
 have hx:(bif Nat.blt s.length 4294967281 then some (Lib.contains s t) else none)=some r:=hx
 have hl:s.length < 4294967281:=by
  cases h:Nat.blt s.length 4294967281
  ·rw [h] at hx; cases hx
  ·rwa [Nat.blt_eq] at h
 rw [show Nat.blt s.length 4294967281=true by rw [Nat.blt_eq]; exact hl] at hx
 cases hx
 simp only [qd4,dns,dn,k30,q56,VR0] at hv
 obtain ⟨v,vs,rfl,rfl,v2,vs2,rfl,rfl,rfl⟩:=hv
 obtain ⟨m,hm⟩:=gi_cell hG
 refine (Tryz.strings_Contains ⟨s.toArray⟩ ⟨t.toArray⟩ m w (by rw [xd2]; exact hl) hm).mono ?_
 rintro e w' ⟨rfl,rfl⟩
 exact ⟨_,rfl,fun G' w2=>rfl,Below.refl _ _⟩
def y89 (N:Nat)(l:List (Int×Int×(List UInt8)×Unit)):Option ((Int×Int×(List UInt8)×Unit)×Int×Unit):=match l with
 | v :: _=>bif Nat.ble v.2.2.1.length 9223372036854775807 then some ((3,0,v.2.2.1.map Abs.Upper.upB,()),0,()) else none
 | []=>none
abbrev t_V :Ty:=.st [(.int .u8),(.int .i64),.str]
abbrev t_A :Ty:=.st [t_V,(.int .i64)]
def v46 (m:(List (Int×Int×(List UInt8)×Unit))→Option ((Int×Int×(List UInt8)×Unit)×Int×Unit)):Ent:=q37 [(.list t_V)] [t_A] fun (x:Els [(.list t_V)])=>m x.1
def yh4 (N:Nat):Ent:=v46 (y89 N)
theorem xx1 (N:Nat):q17 Tryz.prog 111 (yh4 N):=by
 refine wt2 (pts:=[(.list t_V)]) (rts:=[t_A]) (m:=fun (x:Els [(.list t_V)])=>y89 N x.1) (by kernel_rfl) fun x r hx G w cargs hG hv=>?_
 obtain ⟨l,u⟩:=x
 change List (Int×Int×(List UInt8)×Unit) at l
 cases l with
 | nil=>cases hx
 | cons v l =>
  obtain ⟨k,n,s,z⟩:=v
  have hx:(bif Nat.ble s.length 9223372036854775807 then some (((3:Int),(0:Int),s.map Abs.Upper.upB,()),(0:Int),()) else none)=some r:=hx
  have hl:s.length≤9223372036854775807:=by
   cases h:Nat.ble s.length 9223372036854775807
   ·rw [h] at hx; cases hx
   ·exact Nat.le_of_ble_eq_true h
  rw [Nat.ble_eq_true_of_le hl] at hx
  cases hx
  simp only [qd4,dns,dn,k30,q56,VR0] at hv
  obtain ⟨v,vs,rfl,⟨A,cap,rfl,hcap,_,hrow⟩,rfl⟩:=hv
  rcases hrow with hrow | ⟨b,o,vs,rfl,hseen,hcells,hvs⟩
  ·cases hrow
  ·simp only [List.flatMap_cons,q48,qc0,List.cons_append,List.nil_append,q56,VR0] at hvs
   obtain ⟨v0,vs0,rfl,rfl,v1,vs1,rfl,rfl,v2,vs2,rfl,rfl,hvs⟩:=hvs
   have hc:=hcells 2 (.string ⟨s.toArray⟩) rfl
   refine (Abs.Upper.upper_calls ⟨s.toArray⟩ (by rw [xd2]; exact hl) b o _ cap w hseen.1 (Nat.succ_pos _) hc).mono ?_
   rintro e w' ⟨rfl,hb⟩
   exact ⟨_,rfl,fun G' w2=>⟨[.int .u8 3,.int .i64 0,.string ⟨(s.map Abs.Upper.upB).toArray⟩,.int .i64 0],rfl,⟨_,_,rfl,rfl,_,_,rfl,rfl,_,_,rfl,rfl,_,_,rfl,rfl,rfl⟩⟩,hb⟩
end Go.Proofs.YtgicljncknbgcaaGreat.Abs
