/- The functions of the program, told on typed values, printed by a program: each tells what the reckoning of its body tells. -/
import Derived.Test.YtgicljncknbgcaaGreatL7
import Derived.Test.YtgicljncknbgcaaGreatG5
import Derived.Test.YtgicljncknbgcaaGreatLA
import Derived.Test.YtgicljncknbgcaaGreatProg
set_option linter.unusedVariables false
set_option linter.unusedSimpArgs false
set_option linter.unusedSectionVars false
namespace Go.Proofs.YtgicljncknbgcaaGreat.Abs
set_option maxRecDepth 100000
open Go Go.Proofs
def k72 :FH:=⟨[],[],[],[],false,[],[]⟩
noncomputable def v51 (N:Nat):q49:=tab [(164,xr9 N)]
theorem uq2 (N:Nat):q14 Tryz.prog (v51 N):=q06 (vw1 N) <| q28 _
def j31 (N:Nat)(a b:q00):Option OX3 :=
 (uh6 N a b).bind fun r =>
 some r
noncomputable def kf9 (N:Nat)(a b:q00):Option (RT [q05,(.int .i64)]):=q24 DR Tryz.prog N (v51 N) k72 Tryz.f95 (q13 Tryz.f95) (RT [q05,(.int .i64)]) (qd4 [q05,q05] (a,b,())) [] (q42 [q05,(.int .i64)])
theorem ui9 (N:Nat)(a b:q00):kf9 N a b=j31 N a b:=by kernel_rfl
def vx4 (m:q00→q00→Option OX3):Ent:=q37 [q05,q05] [q05,(.int .i64)] fun (x:Els [q05,q05])=>m x.1 x.2.1
def x86 (N:Nat):Ent:=vx4 (j31 N)
theorem v95 (N:Nat):q17 Tryz.prog 95 (x86 N):=q16 (uq2 N) Tryz.func95 rfl (by kernel_rfl) fun (x:Els [q05,q05])=>ui9 N x.1 x.2.1
def k99 :FH:=⟨[],[],[],[],false,[],[]⟩
noncomputable def vj5 (N:Nat):q49:=tab []
theorem ux2 (N:Nat):q14 Tryz.prog (vj5 N):=q28 _
def qd1 (N:Nat)(v:q00)(e_:Int):Option q03 :=
 bif (e_ != 0) then
  some ((0,0,[],()),e_,())
 else
  some (v,0,())
noncomputable def kh6 (N:Nat)(v:q00)(e_:Int):Option (RT [q07]):=q24 DR Tryz.prog N (vj5 N) k99 Tryz.f101 (q13 Tryz.f101) (RT [q07]) (qd4 [q05,(.int .i64)] (v,e_,())) [] (q42 [q07])
theorem ul9 (N:Nat)(v:q00)(e_:Int):kh6 N v e_=qd1 N v e_:=by kernel_rfl
def vv9 (m:q00→Int→Option q03):Ent:=q37 [q05,(.int .i64)] [q07] fun (x:Els [q05,(.int .i64)])=>m x.1 x.2.1
def qh0 (N:Nat):Ent:=vv9 (qd1 N)
theorem qd6 (N:Nat):q17 Tryz.prog 101 (qh0 N):=q16 (ux2 N) Tryz.func101 rfl (by kernel_rfl) fun (x:Els [q05,(.int .i64)])=>ul9 N x.1 x.2.1
noncomputable def zi8 (N:Nat):q49:=tab [(95,x86 N),(101,qh0 N)]
theorem ye5 (N:Nat):q14 Tryz.prog (zi8 N):=q06 (v95 N) <| q06 (qd6 N) <| q28 _
noncomputable def wy1 (N:Nat):Ent:=z63 Tryz.prog N (zi8 N) ⟨[],[],[(1,⟨10,15,0,[],[]⟩)],[],false,[],[]⟩ Tryz.f163 (q13 Tryz.f163)
theorem jc9 (N:Nat):q17 Tryz.prog 163 (wy1 N):=qb4 (ye5 N) Tryz.func163 rfl (by kernel_rfl)
def ze7 :LH:=⟨[(2,.asis),(3,.asis),(6,.asis),(7,.own q05 507 26 3),(10,.int .i64),(11,.int .i64)],[],[.cells [.lst q07,.lst .bool],.cells [.int .u8,.int .i64,.str,.int .i64]]⟩
def qw5 :FH:=⟨[ze7],[],[],[],false,[],[]⟩
noncomputable def we4 (N:Nat):q49:=tab [(153,q53 N),(163,wy1 N)]
theorem yd1 (N:Nat):q14 Tryz.prog (we4 N):=q06 (q50 N) <| q06 (jc9 N) <| q28 _
noncomputable def zb4 :Sc:=wm4 Tryz.prog qw5
noncomputable def z81 (N:Nat):Cfg:=⟨N,we4 N,0⟩
noncomputable def jr1 (N:Nat):Exit→List TV→List TOb→Option q03:=fin Tryz.prog 0 Tryz.f99.results.toList (q42 [q07])
def w79 (n:Int)(k_l:List q03)(q09:List Bool)(q04 q21:Int)(q22:List UInt8)(q63:Int)(e:List q00×Int):List TV:=match e with
 | (l,t11)=>frm 30 [(2,.func (.func 163) [.ep [.func (.func 95) []] 0]),(3,.ref 0 0),(6,.ref 1 0),(7,.tl q05 l (.own 507 26 3)),(10,.int .i64 n),(11,.int .i64 t11)]
def wa0 (n:Int)(k_l:List q03)(q09:List Bool)(q04 q21:Int)(q22:List UInt8)(q63:Int)(e:List q00×Int):List TOb:=match e with
 | (l,t11)=>[.cells [.tl q07 k_l .unk,.tl .bool q09 .unk] 118 true,.cells [.int .u8 q04,.int .i64 q21,.str q22,.int .i64 q63] 115 true]
noncomputable def z90 (N:Nat):(List TV→List TOb→Option q03)→List TV→List TOb→Option q03:=w66 DR zb4 (z81 N) (qm3 (qc6 (q08 (q88 (q08 (q08 (q13 Tryz.f99))))))) ze7 (qw5.loops.drop 1) (qj9 0 (qc5 DR zb4 (z81 N) (q08 (q08 (q08 (q13 Tryz.f99)))) (qw5.loops.drop 1) (jr1 N)))
def w93 (N:Nat)(n:Int)(k_l:List q03)(q09:List Bool)(q04 q21:Int)(q22:List UInt8)(q63:Int)(K0:(List q00×Int)→Option q03)(e:List q00×Int):Option q03 :=
 match e with
 | (l,t11) =>
  bif decide (t11 < n) then
   (q59 N (k_l,q09,()) t11).bind fun r =>
   bif (r.2.1 != 0) then
    some r
   else
    bif w33 (l.length + ([r.1]:List q00).length) 4398046511104 then
    bif q27 (t11 + 1) then
    K0 ((l ++ ([r.1]:List q00)),t11 + 1)
    else none
    else none
  else
   bif inR 0 l.length then
   bif inR 1 l.length then
   (j31 N (q25 l 0 q30) (q25 l 1 q30)).bind fun r1 =>
   (qd1 N r1.1 r1.2.1).bind fun r2 =>
   some r2
   else none
   else none
theorem ye3 (N:Nat)(n:Int)(k_l:List q03)(q09:List Bool)(q04 q21:Int)(q22:List UInt8)(q63:Int)(n_:Nat)(e:List q00×Int):q58 (z90 N ) n_ ((w79 n k_l q09 q04 q21 q22 q63) e) ((wa0 n k_l q09 q04 q21 q22 q63) e)=q87 (w93 N n k_l q09 q04 q21 q22 q63 ) n_ e :=
 q41 (w79 n k_l q09 q04 q21 q22 q63) (wa0 n k_l q09 q04 q21 q22 q63) (by intro K e; obtain ⟨l,t11⟩:=e; kernel_rfl) n_ e
def zl7 (N:Nat)(k:q34)(n:Int)(l1:Int→(List q03)→(List Bool)→Int→Int→(List UInt8)→Int→(List q00×Int)→Option q03):Option q03 :=
 l1 n k.1 k.2.1 0 0 [] 0 ([],0)
def qt5 (N:Nat)(k:q34)(n:Int):Option q03:=zl7 N k n (fun n k_l q09 q04 q21 q22 q63 e=>q87 (w93 N n k_l q09 q04 q21 q22 q63) N e)
abbrev ze0 :List PK:=[.val q66,.val (.int .i64),.fn 163 1,.ep 1,.fn 95 0]
noncomputable def zp1 (N:Nat)(k:q34)(n:Int):Option (RT [q07]):=q24 DR Tryz.prog N (we4 N) qw5 Tryz.f99 (q13 Tryz.f99) (RT [q07]) (qy6 ze0 (k,n,())) [] (q42 [q07])
theorem jr5 (N:Nat)(k:q34)(n:Int):zp1 N k n=qt5 N k n:=by
 have h:zp1 N k n=zl7 N k n (fun n k_l q09 q04 q21 q22 q63 e=>q58 (z90 N ) N (w79 n k_l q09 q04 q21 q22 q63 e) (wa0 n k_l q09 q04 q21 q22 q63 e)):=by kernel_rfl
 rw [h]
 simp only [qt5,ye3] <;> rfl
def jp7 (m:q34→Int→Option q03):Ent:=qf3 ze0 [q07] fun (x:Els [q66,(.int .i64)])=>m x.1 x.2.1
def z33 (N:Nat):Ent:=jp7 (qt5 N)
theorem j89 (N:Nat):q17 Tryz.prog 99 (z33 N):=q52 (yd1 N) Tryz.func99 rfl (by kernel_rfl) (by kernel_rfl) fun (x:Els [q66,(.int .i64)])=>jr5 N x.1 x.2.1
def num_Sub_H :FH:=⟨[],[],[],[],true,[],[]⟩
noncomputable def uu2 (N:Nat):q49:=tab []
theorem ku6 (N:Nat):q14 Tryz.prog (uu2 N):=q28 _
def y76 (N:Nat)(a b:Int):Option (Int×Int×Unit) :=
 bif (!((decide (a < 0)) == (decide (b < 0)))) then
  bif (!((decide ((IntKind.i64.wrap (a - b)) < 0)) == (decide (a < 0)))) then
   some (0,9,())
  else
   some ((IntKind.i64.wrap (a - b)),0,())
 else
  some ((IntKind.i64.wrap (a - b)),0,())
noncomputable def num_Sub_C (N:Nat)(a b:Int):Option (RT [(.int .i64),(.int .i64)]):=q24 DR Tryz.prog N (uu2 N) num_Sub_H Tryz.f166 (q13 Tryz.f166) (RT [(.int .i64),(.int .i64)]) (qd4 [(.int .i64),(.int .i64)] (a,b,())) [] (q42 [(.int .i64),(.int .i64)])
theorem k96 (N:Nat)(a b:Int):num_Sub_C N a b=y76 N a b:=by kernel_rfl
def us8 (m:Int→Int→Option (Int×Int×Unit)):Ent:=q37 [(.int .i64),(.int .i64)] [(.int .i64),(.int .i64)] fun (x:Els [(.int .i64),(.int .i64)])=>m x.1 x.2.1
def v62 (N:Nat):Ent:=us8 (y76 N)
theorem uc0 (N:Nat):q17 Tryz.prog 166 (v62 N):=q16 (ku6 N) Tryz.func166 rfl (by kernel_rfl) fun (x:Els [(.int .i64),(.int .i64)])=>k96 N x.1 x.2.1
def uj1 :FH:=⟨[],[],[(8,⟨16,54,0,[],[]⟩)],[],false,[],[]⟩
noncomputable def yx6 (N:Nat):q49:=tab [(217,qs0 N),(166,v62 N),(218,qx3 N)]
theorem vu3 (N:Nat):q14 Tryz.prog (yx6 N):=q06 (qt6 N) <| q06 (uc0 N) <| q06 (qz2 N) <| q28 _
def yt1 (N:Nat)(a b:q00):Option OX3 :=
 (q96 N ([a,b]:List q00)).bind fun r =>
 bif r.2.1 then
  some ((0,0,[],()),r.2.2.1,())
 else
  bif (r.2.2.1 != 0) then
   some ((0,0,[],()),r.2.2.1,())
  else
   bif inR 0 r.1.length then
   bif (((q25 r.1 0 q30).1) == 2) then
    bif inR 0 r.1.length then
    bif inR 1 r.1.length then
    (y76 N ((q25 r.1 0 q30).2.1) ((q25 r.1 1 q30).2.1)).bind fun r1 =>
    bif (r1.2.1 != 0) then
     some ((0,0,[],()),r1.2.1,())
    else
     bif inR 0 r.1.length then
     some (((q25 r.1 0 q30).1,r1.1,[],()),0,())
     else none
    else none
    else none
   else
    bif inR 0 r.1.length then
    bif inR 1 r.1.length then
    (y76 N ((q25 r.1 0 q30).2.1) ((q25 r.1 1 q30).2.1)).bind fun r2 =>
    bif (r2.2.1 != 0) then
     some ((0,0,[],()),r2.2.1,())
    else
     bif inR 0 r.1.length then
     some (((q25 r.1 0 q30).1,r2.1,[],()),0,())
     else none
    else none
    else none
   else none
abbrev yj3 :List PK:=[.val q05,.val q05,.fn 166 0,.fn 166 0]
noncomputable def u98 (N:Nat)(a b:q00):Option (RT [q05,(.int .i64)]):=q24 DR Tryz.prog N (yx6 N) uj1 Tryz.f164 (q13 Tryz.f164) (RT [q05,(.int .i64)]) (qy6 yj3 (a,b,())) [] (q42 [q05,(.int .i64)])
theorem vc2 (N:Nat)(a b:q00):u98 N a b=yt1 N a b:=by kernel_rfl
def xw7 (m:q00→q00→Option OX3):Ent:=qf3 yj3 [q05,(.int .i64)] fun (x:Els [q05,q05])=>m x.1 x.2.1
def ju2 (N:Nat):Ent:=xw7 (yt1 N)
theorem xi1 (N:Nat):q17 Tryz.prog 164 (ju2 N):=q52 (vu3 N) Tryz.func164 rfl (by kernel_rfl) (by kernel_rfl) fun (x:Els [q05,q05])=>vc2 N x.1 x.2.1
def kf2 :FH:=⟨[],[],[],[],false,[],[]⟩
noncomputable def vd9 (N:Nat):q49:=tab [(164,ju2 N)]
theorem up9 (N:Nat):q14 Tryz.prog (vd9 N):=q06 (xi1 N) <| q28 _
def zi5 (N:Nat)(a b:q00):Option OX3 :=
 (yt1 N a b).bind fun r =>
 some r
noncomputable def kb6 (N:Nat)(a b:q00):Option (RT [q05,(.int .i64)]):=q24 DR Tryz.prog N (vd9 N) kf2 Tryz.f96 (q13 Tryz.f96) (RT [q05,(.int .i64)]) (qd4 [q05,q05] (a,b,())) [] (q42 [q05,(.int .i64)])
theorem um1 (N:Nat)(a b:q00):kb6 N a b=zi5 N a b:=by kernel_rfl
def vv4 (m:q00→q00→Option OX3):Ent:=q37 [q05,q05] [q05,(.int .i64)] fun (x:Els [q05,q05])=>m x.1 x.2.1
def jd6 (N:Nat):Ent:=vv4 (zi5 N)
theorem y09 (N:Nat):q17 Tryz.prog 96 (jd6 N):=q16 (up9 N) Tryz.func96 rfl (by kernel_rfl) fun (x:Els [q05,q05])=>um1 N x.1 x.2.1
noncomputable def z74 (N:Nat):q49:=tab [(96,jd6 N),(101,qh0 N)]
theorem y37 (N:Nat):q14 Tryz.prog (z74 N):=q06 (y09 N) <| q06 (qd6 N) <| q28 _
noncomputable def wn3 (N:Nat):Ent:=z63 Tryz.prog N (z74 N) ⟨[],[],[(1,⟨10,15,0,[],[]⟩)],[],false,[],[]⟩ Tryz.f163 (q13 Tryz.f163)
theorem j68 (N:Nat):q17 Tryz.prog 163 (wn3 N):=qb4 (y37 N) Tryz.func163 rfl (by kernel_rfl)
def zd1 :LH:=⟨[(2,.asis),(3,.asis),(6,.asis),(7,.own q05 507 26 3),(10,.int .i64),(11,.int .i64)],[],[.cells [.lst q07,.lst .bool],.cells [.int .u8,.int .i64,.str,.int .i64]]⟩
def qv6 :FH:=⟨[zd1],[],[],[],false,[],[]⟩
noncomputable def wf6 (N:Nat):q49:=tab [(153,q53 N),(163,wn3 N)]
theorem ya7 (N:Nat):q14 Tryz.prog (wf6 N):=q06 (q50 N) <| q06 (j68 N) <| q28 _
noncomputable def ze6 :Sc:=wm4 Tryz.prog qv6
noncomputable def z98 (N:Nat):Cfg:=⟨N,wf6 N,0⟩
noncomputable def js8 (N:Nat):Exit→List TV→List TOb→Option q03:=fin Tryz.prog 0 Tryz.f99.results.toList (q42 [q07])
def w73 (n:Int)(k_l:List q03)(q09:List Bool)(q04 q21:Int)(q22:List UInt8)(q63:Int)(e:List q00×Int):List TV:=match e with
 | (l,t11)=>frm 30 [(2,.func (.func 163) [.ep [.func (.func 96) []] 0]),(3,.ref 0 0),(6,.ref 1 0),(7,.tl q05 l (.own 507 26 3)),(10,.int .i64 n),(11,.int .i64 t11)]
def w64 (n:Int)(k_l:List q03)(q09:List Bool)(q04 q21:Int)(q22:List UInt8)(q63:Int)(e:List q00×Int):List TOb:=match e with
 | (l,t11)=>[.cells [.tl q07 k_l .unk,.tl .bool q09 .unk] 118 true,.cells [.int .u8 q04,.int .i64 q21,.str q22,.int .i64 q63] 115 true]
noncomputable def za6 (N:Nat):(List TV→List TOb→Option q03)→List TV→List TOb→Option q03:=w66 DR ze6 (z98 N) (qm3 (qc6 (q08 (q88 (q08 (q08 (q13 Tryz.f99))))))) zd1 (qv6.loops.drop 1) (qj9 0 (qc5 DR ze6 (z98 N) (q08 (q08 (q08 (q13 Tryz.f99)))) (qv6.loops.drop 1) (js8 N)))
def w84 (N:Nat)(n:Int)(k_l:List q03)(q09:List Bool)(q04 q21:Int)(q22:List UInt8)(q63:Int)(K0:(List q00×Int)→Option q03)(e:List q00×Int):Option q03 :=
 match e with
 | (l,t11) =>
  bif decide (t11 < n) then
   (q59 N (k_l,q09,()) t11).bind fun r =>
   bif (r.2.1 != 0) then
    some r
   else
    bif w33 (l.length + ([r.1]:List q00).length) 4398046511104 then
    bif q27 (t11 + 1) then
    K0 ((l ++ ([r.1]:List q00)),t11 + 1)
    else none
    else none
  else
   bif inR 0 l.length then
   bif inR 1 l.length then
   (zi5 N (q25 l 0 q30) (q25 l 1 q30)).bind fun r1 =>
   (qd1 N r1.1 r1.2.1).bind fun r2 =>
   some r2
   else none
   else none
theorem yf4 (N:Nat)(n:Int)(k_l:List q03)(q09:List Bool)(q04 q21:Int)(q22:List UInt8)(q63:Int)(n_:Nat)(e:List q00×Int):q58 (za6 N ) n_ ((w73 n k_l q09 q04 q21 q22 q63) e) ((w64 n k_l q09 q04 q21 q22 q63) e)=q87 (w84 N n k_l q09 q04 q21 q22 q63 ) n_ e :=
 q41 (w73 n k_l q09 q04 q21 q22 q63) (w64 n k_l q09 q04 q21 q22 q63) (by intro K e; obtain ⟨l,t11⟩:=e; kernel_rfl) n_ e
def zi3 (N:Nat)(k:q34)(n:Int)(l1:Int→(List q03)→(List Bool)→Int→Int→(List UInt8)→Int→(List q00×Int)→Option q03):Option q03 :=
 l1 n k.1 k.2.1 0 0 [] 0 ([],0)
def qs5 (N:Nat)(k:q34)(n:Int):Option q03:=zi3 N k n (fun n k_l q09 q04 q21 q22 q63 e=>q87 (w84 N n k_l q09 q04 q21 q22 q63) N e)
abbrev z69 :List PK:=[.val q66,.val (.int .i64),.fn 163 1,.ep 1,.fn 96 0]
noncomputable def zl2 (N:Nat)(k:q34)(n:Int):Option (RT [q07]):=q24 DR Tryz.prog N (wf6 N) qv6 Tryz.f99 (q13 Tryz.f99) (RT [q07]) (qy6 z69 (k,n,())) [] (q42 [q07])
theorem y45 (N:Nat)(k:q34)(n:Int):zl2 N k n=qs5 N k n:=by
 have h:zl2 N k n=zi3 N k n (fun n k_l q09 q04 q21 q22 q63 e=>q58 (za6 N ) N (w73 n k_l q09 q04 q21 q22 q63 e) (w64 n k_l q09 q04 q21 q22 q63 e)):=by kernel_rfl
 rw [h]
 simp only [qs5,yf4] <;> rfl
def jl5 (m:q34→Int→Option q03):Ent:=qf3 z69 [q07] fun (x:Els [q66,(.int .i64)])=>m x.1 x.2.1
def wz2 (N:Nat):Ent:=jl5 (qs5 N)
theorem je4 (N:Nat):q17 Tryz.prog 99 (wz2 N):=q52 (ya7 N) Tryz.func99 rfl (by kernel_rfl) (by kernel_rfl) fun (x:Els [q66,(.int .i64)])=>y45 N x.1 x.2.1
def us4 :FH:=⟨[],[],[],[],false,[],[]⟩
noncomputable def xp3 (N:Nat):q49:=tab []
theorem uk0 (N:Nat):q14 Tryz.prog (xp3 N):=q28 _
def j57 (N:Nat)(x:Int):Option Int :=
 bif decide (x ≥ 4294967296) then
  bif decide ((qm5 .u64 x (32:Int)) ≥ 65536) then
   bif decide ((qm5 .u64 (qm5 .u64 x (32:Int)) (16:Int)) ≥ 256) then
    bif inR (IntKind.u8.wrap (qm5 .u64 (qm5 .u64 (qm5 .u64 x (32:Int)) (16:Int)) (8:Int))) q73.length then
    bif q27 (q38 q73 (IntKind.u8.wrap (qm5 .u64 (qm5 .u64 (qm5 .u64 x (32:Int)) (16:Int)) (8:Int)))) then
    bif q27 (56 + (q38 q73 (IntKind.u8.wrap (qm5 .u64 (qm5 .u64 (qm5 .u64 x (32:Int)) (16:Int)) (8:Int))))) then
    some (56 + (q38 q73 (IntKind.u8.wrap (qm5 .u64 (qm5 .u64 (qm5 .u64 x (32:Int)) (16:Int)) (8:Int)))))
    else none
    else none
    else none
   else
    bif inR (IntKind.u8.wrap (qm5 .u64 (qm5 .u64 x (32:Int)) (16:Int))) q73.length then
    bif q27 (q38 q73 (IntKind.u8.wrap (qm5 .u64 (qm5 .u64 x (32:Int)) (16:Int)))) then
    bif q27 (48 + (q38 q73 (IntKind.u8.wrap (qm5 .u64 (qm5 .u64 x (32:Int)) (16:Int))))) then
    some (48 + (q38 q73 (IntKind.u8.wrap (qm5 .u64 (qm5 .u64 x (32:Int)) (16:Int)))))
    else none
    else none
    else none
  else
   bif decide ((qm5 .u64 x (32:Int)) ≥ 256) then
    bif inR (IntKind.u8.wrap (qm5 .u64 (qm5 .u64 x (32:Int)) (8:Int))) q73.length then
    bif q27 (q38 q73 (IntKind.u8.wrap (qm5 .u64 (qm5 .u64 x (32:Int)) (8:Int)))) then
    bif q27 (40 + (q38 q73 (IntKind.u8.wrap (qm5 .u64 (qm5 .u64 x (32:Int)) (8:Int))))) then
    some (40 + (q38 q73 (IntKind.u8.wrap (qm5 .u64 (qm5 .u64 x (32:Int)) (8:Int)))))
    else none
    else none
    else none
   else
    bif inR (IntKind.u8.wrap (qm5 .u64 x (32:Int))) q73.length then
    bif q27 (q38 q73 (IntKind.u8.wrap (qm5 .u64 x (32:Int)))) then
    bif q27 (32 + (q38 q73 (IntKind.u8.wrap (qm5 .u64 x (32:Int))))) then
    some (32 + (q38 q73 (IntKind.u8.wrap (qm5 .u64 x (32:Int)))))
    else none
    else none
    else none
 else
  bif decide (x ≥ 65536) then
   bif decide ((qm5 .u64 x (16:Int)) ≥ 256) then
    bif inR (IntKind.u8.wrap (qm5 .u64 (qm5 .u64 x (16:Int)) (8:Int))) q73.length then
    bif q27 (q38 q73 (IntKind.u8.wrap (qm5 .u64 (qm5 .u64 x (16:Int)) (8:Int)))) then
    bif q27 (24 + (q38 q73 (IntKind.u8.wrap (qm5 .u64 (qm5 .u64 x (16:Int)) (8:Int))))) then
    some (24 + (q38 q73 (IntKind.u8.wrap (qm5 .u64 (qm5 .u64 x (16:Int)) (8:Int)))))
    else none
    else none
    else none
   else
    bif inR (IntKind.u8.wrap (qm5 .u64 x (16:Int))) q73.length then
    bif q27 (q38 q73 (IntKind.u8.wrap (qm5 .u64 x (16:Int)))) then
    bif q27 (16 + (q38 q73 (IntKind.u8.wrap (qm5 .u64 x (16:Int))))) then
    some (16 + (q38 q73 (IntKind.u8.wrap (qm5 .u64 x (16:Int)))))
    else none
    else none
    else none
  else
   bif decide (x ≥ 256) then
    bif inR (IntKind.u8.wrap (qm5 .u64 x (8:Int))) q73.length then
    bif q27 (q38 q73 (IntKind.u8.wrap (qm5 .u64 x (8:Int)))) then
    bif q27 (8 + (q38 q73 (IntKind.u8.wrap (qm5 .u64 x (8:Int))))) then
    some (8 + (q38 q73 (IntKind.u8.wrap (qm5 .u64 x (8:Int)))))
    else none
    else none
    else none
   else
    bif inR (IntKind.u8.wrap x) q73.length then
    bif q27 (q38 q73 (IntKind.u8.wrap x)) then
    bif q27 (0 + (q38 q73 (IntKind.u8.wrap x))) then
    some (0 + (q38 q73 (IntKind.u8.wrap x)))
    else none
    else none
    else none
noncomputable def uo9 (N:Nat)(x:Int):Option (RT [(.int .i64)]):=q24 DR Tryz.prog N (xp3 N) us4 Tryz.f288 (q13 Tryz.f288) (RT [(.int .i64)]) (qd4 [(.int .u64)] (x,())) [] (q42 [(.int .i64)])
theorem vs4 (N:Nat)(x:Int):uo9 N x=j57 N x:=by kernel_rfl
def va9 (m:Int→Option Int):Ent:=q37 [(.int .u64)] [(.int .i64)] fun (x:Els [(.int .u64)])=>m x.1
def yi0 (N:Nat):Ent:=va9 (j57 N)
theorem xx6 (N:Nat):q17 Tryz.prog 288 (yi0 N):=q16 (uk0 N) Tryz.func288 rfl (by kernel_rfl) fun (x:Els [(.int .u64)])=>vs4 N x.1
def js0 :FH:=⟨[],[],[],[],false,[],[]⟩
noncomputable def wy7 (N:Nat):q49:=tab [(288,yi0 N)]
theorem jk9 (N:Nat):q14 Tryz.prog (wy7 N):=q06 (xx6 N) <| q28 _
def ql3 (N:Nat)(x:Int):Option Int :=
 (j57 N x).bind fun r =>
 bif q27 (64 - r) then
 some (64 - r)
 else none
noncomputable def y39 (N:Nat)(x:Int):Option (RT [(.int .i64)]):=q24 DR Tryz.prog N (wy7 N) js0 Tryz.f284 (q13 Tryz.f284) (RT [(.int .i64)]) (qd4 [(.int .u64)] (x,())) [] (q42 [(.int .i64)])
theorem jb3 (N:Nat)(x:Int):y39 N x=ql3 N x:=by kernel_rfl
def j54 (m:Int→Option Int):Ent:=q37 [(.int .u64)] [(.int .i64)] fun (x:Els [(.int .u64)])=>m x.1
def wk7 (N:Nat):Ent:=j54 (ql3 N)
theorem zw7 (N:Nat):q17 Tryz.prog 284 (wk7 N):=q16 (jk9 N) Tryz.func284 rfl (by kernel_rfl) fun (x:Els [(.int .u64)])=>jb3 N x.1
def x21 :LH:=⟨[(2,.int .u64),(8,.int .u64),(9,.int .u64),(10,.int .u64),(11,.int .u64),(13,.int .u64),(14,.int .u64),(15,.int .u64),(16,.int .u64)],[],[]⟩
def zf9 :LH:=⟨[(2,.int .u64),(8,.int .u64),(9,.int .u64),(10,.int .u64),(14,.int .u64),(15,.int .u64),(16,.int .u64),(17,.int .u64),(18,.int .u64)],[],[]⟩
def qj6 :FH:=⟨[x21,zf9],[],[(6,⟨7,135,0,[],[]⟩)],[],false,[],[]⟩
noncomputable def jv7 (N:Nat):q49:=tab [(284,wk7 N)]
theorem u89 (N:Nat):q14 Tryz.prog (jv7 N):=q06 (zw7 N) <| q28 _
noncomputable def qo8 :Sc:=wm4 Tryz.prog qj6
noncomputable def qp0 (N:Nat):Cfg:=⟨N,jv7 N,0⟩
noncomputable def wu1 (N:Nat):Exit→List TV→List TOb→Option (Int×Int×Unit):=fin Tryz.prog 0 Tryz.f259.results.toList (q42 [(.int .u64),(.int .u64)])
def wh6 (y1 s yn1 yn0 un32 un1 un0:Int)(e:Int×Int):List TV:=match e with
 | (q1,rhat)=>frm 135 [(2,.int .u64 y1),(8,.int .u64 s),(9,.int .u64 yn1),(10,.int .u64 yn0),(11,.int .u64 un32),(13,.int .u64 un1),(14,.int .u64 un0),(15,.int .u64 q1),(16,.int .u64 rhat)]
def wl0 (y1 s yn1 yn0 un32 un1 un0:Int)(e:Int×Int):List TOb:=match e with
 | (q1,rhat)=>[]
def jd8 (y1 s yn1 yn0 un0 q1 un212:Int)(e:Int×Int):List TV:=match e with
 | (rhat3,q02)=>frm 135 [(2,.int .u64 y1),(8,.int .u64 s),(9,.int .u64 yn1),(10,.int .u64 yn0),(14,.int .u64 un0),(15,.int .u64 q1),(16,.int .u64 rhat3),(17,.int .u64 un212),(18,.int .u64 q02)]
def jh2 (y1 s yn1 yn0 un0 q1 un212:Int)(e:Int×Int):List TOb:=match e with
 | (rhat3,q02)=>[]
def ja0 (y1 s yn1 yn0 un0 q12 un211:Int)(e:Int×Int):List TV:=match e with
 | (rhat2,q01)=>frm 135 [(2,.int .u64 y1),(8,.int .u64 s),(9,.int .u64 yn1),(10,.int .u64 yn0),(14,.int .u64 un0),(15,.int .u64 q12),(16,.int .u64 rhat2),(17,.int .u64 un211),(18,.int .u64 q01)]
def jf3 (y1 s yn1 yn0 un0 q12 un211:Int)(e:Int×Int):List TOb:=match e with
 | (rhat2,q01)=>[]
def jg4 (y1 s yn1 yn0 un0 q11 un21:Int)(e:Int×Int):List TV:=match e with
 | (rhat1,q0)=>frm 135 [(2,.int .u64 y1),(8,.int .u64 s),(9,.int .u64 yn1),(10,.int .u64 yn0),(14,.int .u64 un0),(15,.int .u64 q11),(16,.int .u64 rhat1),(17,.int .u64 un21),(18,.int .u64 q0)]
def jd7 (y1 s yn1 yn0 un0 q11 un21:Int)(e:Int×Int):List TOb:=match e with
 | (rhat1,q0)=>[]
noncomputable def x64 (N:Nat):(List TV→List TOb→Option (Int×Int×Unit))→List TV→List TOb→Option (Int×Int×Unit):=w66 DR qo8 (qp0 N) (qm3 (qc6 (q88 (q08 (q08 (q08 (q08 (q08 (q08 (q08 (q08 (q08 (q08 (q08 (q08 (q08 (q08 (q08 (q08 (q08 (q08 (q13 Tryz.f259)))))))))))))))))))))) zf9 (qj6.loops.drop 2) (qj9 2 (qc5 DR qo8 (qp0 N) (q08 (q08 (q08 (q08 (q08 (q08 (q08 (q08 (q08 (q08 (q08 (q08 (q08 (q08 (q08 (q08 (q08 (q08 (q08 (q13 Tryz.f259)))))))))))))))))))) (qj6.loops.drop 2) (wu1 N)))
def w36 (N:Nat)(y1 s yn1 yn0 un0 q11 un21:Int)(K1:(Int×Int)→Option (Int×Int×Unit))(e:Int×Int):Option (Int×Int×Unit) :=
 match e with
 | (rhat1,q0) =>
  bif decide (q0 ≥ 4294967296) then
   bif decide ((IntKind.u64.wrap (rhat1 + yn1)) ≥ 4294967296) then
    bif !(decide (s < 0)) then
    some ((IntKind.u64.wrap ((IntKind.u64.wrap (q11 * 4294967296)) + (IntKind.u64.wrap (q0 - 1)))),(qm5 .u64 (IntKind.u64.wrap ((IntKind.u64.wrap ((IntKind.u64.wrap (un21 * 4294967296)) + un0)) - (IntKind.u64.wrap ((IntKind.u64.wrap (q0 - 1)) * y1)))) s),())
    else none
   else
    K1 ((IntKind.u64.wrap (rhat1 + yn1)),(IntKind.u64.wrap (q0 - 1)))
  else
   bif decide ((IntKind.u64.wrap (q0 * yn0)) > (IntKind.u64.wrap ((IntKind.u64.wrap (4294967296 * rhat1)) + un0))) then
    bif decide ((IntKind.u64.wrap (rhat1 + yn1)) ≥ 4294967296) then
     bif !(decide (s < 0)) then
     some ((IntKind.u64.wrap ((IntKind.u64.wrap (q11 * 4294967296)) + (IntKind.u64.wrap (q0 - 1)))),(qm5 .u64 (IntKind.u64.wrap ((IntKind.u64.wrap ((IntKind.u64.wrap (un21 * 4294967296)) + un0)) - (IntKind.u64.wrap ((IntKind.u64.wrap (q0 - 1)) * y1)))) s),())
     else none
    else
     K1 ((IntKind.u64.wrap (rhat1 + yn1)),(IntKind.u64.wrap (q0 - 1)))
   else
    bif !(decide (s < 0)) then
    some ((IntKind.u64.wrap ((IntKind.u64.wrap (q11 * 4294967296)) + q0)),(qm5 .u64 (IntKind.u64.wrap ((IntKind.u64.wrap ((IntKind.u64.wrap (un21 * 4294967296)) + un0)) - (IntKind.u64.wrap (q0 * y1)))) s),())
    else none
theorem ua8 (N:Nat)(y1 s yn1 yn0 un0 q11 un21:Int)(n_:Nat)(e:Int×Int):q58 (x64 N ) n_ ((jg4 y1 s yn1 yn0 un0 q11 un21) e) ((jd7 y1 s yn1 yn0 un0 q11 un21) e)=q87 (w36 N y1 s yn1 yn0 un0 q11 un21 ) n_ e :=
 q41 (jg4 y1 s yn1 yn0 un0 q11 un21) (jd7 y1 s yn1 yn0 un0 q11 un21) (by intro K e; obtain ⟨rhat1,q0⟩:=e; kernel_rfl) n_ e
noncomputable def x52 (N:Nat):(List TV→List TOb→Option (Int×Int×Unit))→List TV→List TOb→Option (Int×Int×Unit):=w66 DR qo8 (qp0 N) (qm3 (qc6 (q88 (q08 (q08 (q08 (q08 (q08 (q08 (q08 (q08 (q08 (q08 (q08 (q08 (q08 (q08 (q08 (q08 (q08 (q08 (q13 Tryz.f259)))))))))))))))))))))) zf9 (qj6.loops.drop 2) (qj9 2 (qc5 DR qo8 (qp0 N) (q08 (q08 (q08 (q08 (q08 (q08 (q08 (q08 (q08 (q08 (q08 (q08 (q08 (q08 (q08 (q08 (q08 (q08 (q08 (q13 Tryz.f259)))))))))))))))))))) (qj6.loops.drop 2) (wu1 N)))
def x76 (N:Nat)(y1 s yn1 yn0 un0 q12 un211:Int)(K1:(Int×Int)→Option (Int×Int×Unit))(e:Int×Int):Option (Int×Int×Unit) :=
 match e with
 | (rhat2,q01) =>
  bif decide (q01 ≥ 4294967296) then
   bif decide ((IntKind.u64.wrap (rhat2 + yn1)) ≥ 4294967296) then
    bif !(decide (s < 0)) then
    some ((IntKind.u64.wrap ((IntKind.u64.wrap (q12 * 4294967296)) + (IntKind.u64.wrap (q01 - 1)))),(qm5 .u64 (IntKind.u64.wrap ((IntKind.u64.wrap ((IntKind.u64.wrap (un211 * 4294967296)) + un0)) - (IntKind.u64.wrap ((IntKind.u64.wrap (q01 - 1)) * y1)))) s),())
    else none
   else
    K1 ((IntKind.u64.wrap (rhat2 + yn1)),(IntKind.u64.wrap (q01 - 1)))
  else
   bif decide ((IntKind.u64.wrap (q01 * yn0)) > (IntKind.u64.wrap ((IntKind.u64.wrap (4294967296 * rhat2)) + un0))) then
    bif decide ((IntKind.u64.wrap (rhat2 + yn1)) ≥ 4294967296) then
     bif !(decide (s < 0)) then
     some ((IntKind.u64.wrap ((IntKind.u64.wrap (q12 * 4294967296)) + (IntKind.u64.wrap (q01 - 1)))),(qm5 .u64 (IntKind.u64.wrap ((IntKind.u64.wrap ((IntKind.u64.wrap (un211 * 4294967296)) + un0)) - (IntKind.u64.wrap ((IntKind.u64.wrap (q01 - 1)) * y1)))) s),())
     else none
    else
     K1 ((IntKind.u64.wrap (rhat2 + yn1)),(IntKind.u64.wrap (q01 - 1)))
   else
    bif !(decide (s < 0)) then
    some ((IntKind.u64.wrap ((IntKind.u64.wrap (q12 * 4294967296)) + q01)),(qm5 .u64 (IntKind.u64.wrap ((IntKind.u64.wrap ((IntKind.u64.wrap (un211 * 4294967296)) + un0)) - (IntKind.u64.wrap (q01 * y1)))) s),())
    else none
theorem ul2 (N:Nat)(y1 s yn1 yn0 un0 q12 un211:Int)(n_:Nat)(e:Int×Int):q58 (x52 N ) n_ ((ja0 y1 s yn1 yn0 un0 q12 un211) e) ((jf3 y1 s yn1 yn0 un0 q12 un211) e)=q87 (x76 N y1 s yn1 yn0 un0 q12 un211 ) n_ e :=
 q41 (ja0 y1 s yn1 yn0 un0 q12 un211) (jf3 y1 s yn1 yn0 un0 q12 un211) (by intro K e; obtain ⟨rhat2,q01⟩:=e; kernel_rfl) n_ e
noncomputable def yy9 (N:Nat):(List TV→List TOb→Option (Int×Int×Unit))→List TV→List TOb→Option (Int×Int×Unit):=w66 DR qo8 (qp0 N) (qm3 (qc6 (q88 (q08 (q08 (q08 (q08 (q08 (q08 (q08 (q08 (q08 (q08 (q08 (q08 (q08 (q08 (q08 (q08 (q08 (q08 (q13 Tryz.f259)))))))))))))))))))))) zf9 (qj6.loops.drop 2) (qj9 2 (qc5 DR qo8 (qp0 N) (q08 (q08 (q08 (q08 (q08 (q08 (q08 (q08 (q08 (q08 (q08 (q08 (q08 (q08 (q08 (q08 (q08 (q08 (q08 (q13 Tryz.f259)))))))))))))))))))) (qj6.loops.drop 2) (wu1 N)))
def x89 (N:Nat)(y1 s yn1 yn0 un0 q1 un212:Int)(K1:(Int×Int)→Option (Int×Int×Unit))(e:Int×Int):Option (Int×Int×Unit) :=
 match e with
 | (rhat3,q02) =>
  bif decide (q02 ≥ 4294967296) then
   bif decide ((IntKind.u64.wrap (rhat3 + yn1)) ≥ 4294967296) then
    bif !(decide (s < 0)) then
    some ((IntKind.u64.wrap ((IntKind.u64.wrap (q1 * 4294967296)) + (IntKind.u64.wrap (q02 - 1)))),(qm5 .u64 (IntKind.u64.wrap ((IntKind.u64.wrap ((IntKind.u64.wrap (un212 * 4294967296)) + un0)) - (IntKind.u64.wrap ((IntKind.u64.wrap (q02 - 1)) * y1)))) s),())
    else none
   else
    K1 ((IntKind.u64.wrap (rhat3 + yn1)),(IntKind.u64.wrap (q02 - 1)))
  else
   bif decide ((IntKind.u64.wrap (q02 * yn0)) > (IntKind.u64.wrap ((IntKind.u64.wrap (4294967296 * rhat3)) + un0))) then
    bif decide ((IntKind.u64.wrap (rhat3 + yn1)) ≥ 4294967296) then
     bif !(decide (s < 0)) then
     some ((IntKind.u64.wrap ((IntKind.u64.wrap (q1 * 4294967296)) + (IntKind.u64.wrap (q02 - 1)))),(qm5 .u64 (IntKind.u64.wrap ((IntKind.u64.wrap ((IntKind.u64.wrap (un212 * 4294967296)) + un0)) - (IntKind.u64.wrap ((IntKind.u64.wrap (q02 - 1)) * y1)))) s),())
     else none
    else
     K1 ((IntKind.u64.wrap (rhat3 + yn1)),(IntKind.u64.wrap (q02 - 1)))
   else
    bif !(decide (s < 0)) then
    some ((IntKind.u64.wrap ((IntKind.u64.wrap (q1 * 4294967296)) + q02)),(qm5 .u64 (IntKind.u64.wrap ((IntKind.u64.wrap ((IntKind.u64.wrap (un212 * 4294967296)) + un0)) - (IntKind.u64.wrap (q02 * y1)))) s),())
    else none
theorem uf2 (N:Nat)(y1 s yn1 yn0 un0 q1 un212:Int)(n_:Nat)(e:Int×Int):q58 (yy9 N ) n_ ((jd8 y1 s yn1 yn0 un0 q1 un212) e) ((jh2 y1 s yn1 yn0 un0 q1 un212) e)=q87 (x89 N y1 s yn1 yn0 un0 q1 un212 ) n_ e :=
 q41 (jd8 y1 s yn1 yn0 un0 q1 un212) (jh2 y1 s yn1 yn0 un0 q1 un212) (by intro K e; obtain ⟨rhat3,q02⟩:=e; kernel_rfl) n_ e
noncomputable def jg1 (N:Nat):(List TV→List TOb→Option (Int×Int×Unit))→List TV→List TOb→Option (Int×Int×Unit):=w66 DR qo8 (qp0 N) (qm3 (qc6 (q88 (q08 (q08 (q08 (q08 (q08 (q08 (q08 (q08 (q08 (q08 (q08 (q08 (q08 (q08 (q13 Tryz.f259)))))))))))))))))) x21 (qj6.loops.drop 1) (qj9 0 (qc5 DR qo8 (qp0 N) (q08 (q08 (q08 (q08 (q08 (q08 (q08 (q08 (q08 (q08 (q08 (q08 (q08 (q08 (q08 (q13 Tryz.f259)))))))))))))))) (qj6.loops.drop 1) (wu1 N)))
def zu5 (N:Nat)(y1 s yn1 yn0 un32 un1 un0:Int)(l2 l3 l4:Int→Int→Int→Int→Int→Int→Int→(Int×Int)→Option (Int×Int×Unit))(K0:(Int×Int)→Option (Int×Int×Unit))(e:Int×Int):Option (Int×Int×Unit) :=
 match e with
 | (q1,rhat) =>
  bif decide (q1 ≥ 4294967296) then
   bif decide ((IntKind.u64.wrap (rhat + yn1)) ≥ 4294967296) then
    bif (decide (yn1≠0) && true) then
    l2 y1 s yn1 yn0 un0 (IntKind.u64.wrap (q1 - 1)) (IntKind.u64.wrap ((IntKind.u64.wrap ((IntKind.u64.wrap (un32 * 4294967296)) + un1)) - (IntKind.u64.wrap ((IntKind.u64.wrap (q1 - 1)) * y1)))) ((IntKind.u64.wrap ((IntKind.u64.wrap ((IntKind.u64.wrap ((IntKind.u64.wrap (un32 * 4294967296)) + un1)) - (IntKind.u64.wrap ((IntKind.u64.wrap (q1 - 1)) * y1)))) - (IntKind.u64.wrap ((IntKind.u64.wrap (Int.tdiv (IntKind.u64.wrap ((IntKind.u64.wrap ((IntKind.u64.wrap (un32 * 4294967296)) + un1)) - (IntKind.u64.wrap ((IntKind.u64.wrap (q1 - 1)) * y1)))) yn1)) * yn1)))),(IntKind.u64.wrap (Int.tdiv (IntKind.u64.wrap ((IntKind.u64.wrap ((IntKind.u64.wrap (un32 * 4294967296)) + un1)) - (IntKind.u64.wrap ((IntKind.u64.wrap (q1 - 1)) * y1)))) yn1)))
    else none
   else
    K0 ((IntKind.u64.wrap (q1 - 1)),(IntKind.u64.wrap (rhat + yn1)))
  else
   bif decide ((IntKind.u64.wrap (q1 * yn0)) > (IntKind.u64.wrap ((IntKind.u64.wrap (4294967296 * rhat)) + un1))) then
    bif decide ((IntKind.u64.wrap (rhat + yn1)) ≥ 4294967296) then
     bif (decide (yn1≠0) && true) then
     l3 y1 s yn1 yn0 un0 (IntKind.u64.wrap (q1 - 1)) (IntKind.u64.wrap ((IntKind.u64.wrap ((IntKind.u64.wrap (un32 * 4294967296)) + un1)) - (IntKind.u64.wrap ((IntKind.u64.wrap (q1 - 1)) * y1)))) ((IntKind.u64.wrap ((IntKind.u64.wrap ((IntKind.u64.wrap ((IntKind.u64.wrap (un32 * 4294967296)) + un1)) - (IntKind.u64.wrap ((IntKind.u64.wrap (q1 - 1)) * y1)))) - (IntKind.u64.wrap ((IntKind.u64.wrap (Int.tdiv (IntKind.u64.wrap ((IntKind.u64.wrap ((IntKind.u64.wrap (un32 * 4294967296)) + un1)) - (IntKind.u64.wrap ((IntKind.u64.wrap (q1 - 1)) * y1)))) yn1)) * yn1)))),(IntKind.u64.wrap (Int.tdiv (IntKind.u64.wrap ((IntKind.u64.wrap ((IntKind.u64.wrap (un32 * 4294967296)) + un1)) - (IntKind.u64.wrap ((IntKind.u64.wrap (q1 - 1)) * y1)))) yn1)))
     else none
    else
     K0 ((IntKind.u64.wrap (q1 - 1)),(IntKind.u64.wrap (rhat + yn1)))
   else
    bif (decide (yn1≠0) && true) then
    l4 y1 s yn1 yn0 un0 q1 (IntKind.u64.wrap ((IntKind.u64.wrap ((IntKind.u64.wrap (un32 * 4294967296)) + un1)) - (IntKind.u64.wrap (q1 * y1)))) ((IntKind.u64.wrap ((IntKind.u64.wrap ((IntKind.u64.wrap ((IntKind.u64.wrap (un32 * 4294967296)) + un1)) - (IntKind.u64.wrap (q1 * y1)))) - (IntKind.u64.wrap ((IntKind.u64.wrap (Int.tdiv (IntKind.u64.wrap ((IntKind.u64.wrap ((IntKind.u64.wrap (un32 * 4294967296)) + un1)) - (IntKind.u64.wrap (q1 * y1)))) yn1)) * yn1)))),(IntKind.u64.wrap (Int.tdiv (IntKind.u64.wrap ((IntKind.u64.wrap ((IntKind.u64.wrap (un32 * 4294967296)) + un1)) - (IntKind.u64.wrap (q1 * y1)))) yn1)))
    else none
def zg2 (N:Nat)(y1 s yn1 yn0 un32 un1 un0:Int)(K0:(Int×Int)→Option (Int×Int×Unit))(e:Int×Int):Option (Int×Int×Unit):=zu5 N y1 s yn1 yn0 un32 un1 un0 (fun y1 s yn1 yn0 un0 q11 un21 e=>q87 (w36 N y1 s yn1 yn0 un0 q11 un21) N e) (fun y1 s yn1 yn0 un0 q12 un211 e=>q87 (x76 N y1 s yn1 yn0 un0 q12 un211) N e) (fun y1 s yn1 yn0 un0 q1 un212 e=>q87 (x89 N y1 s yn1 yn0 un0 q1 un212) N e) K0 e
theorem ui6 (N:Nat)(y1 s yn1 yn0 un32 un1 un0:Int)(n_:Nat)(e:Int×Int):q58 (jg1 N ) n_ ((wh6 y1 s yn1 yn0 un32 un1 un0) e) ((wl0 y1 s yn1 yn0 un32 un1 un0) e)=q87 (zg2 N y1 s yn1 yn0 un32 un1 un0 ) n_ e :=
 q41 (wh6 y1 s yn1 yn0 un32 un1 un0) (wl0 y1 s yn1 yn0 un32 un1 un0) (by
  intro K e
  have h:(jg1 N ) K ((wh6 y1 s yn1 yn0 un32 un1 un0) e) ((wl0 y1 s yn1 yn0 un32 un1 un0) e)=zu5 N y1 s yn1 yn0 un32 un1 un0 (fun y1 s yn1 yn0 un0 q11 un21 e=>q58 (x64 N ) N (jg4 y1 s yn1 yn0 un0 q11 un21 e) (jd7 y1 s yn1 yn0 un0 q11 un21 e)) (fun y1 s yn1 yn0 un0 q12 un211 e=>q58 (x52 N ) N (ja0 y1 s yn1 yn0 un0 q12 un211 e) (jf3 y1 s yn1 yn0 un0 q12 un211 e)) (fun y1 s yn1 yn0 un0 q1 un212 e=>q58 (yy9 N ) N (jd8 y1 s yn1 yn0 un0 q1 un212 e) (jh2 y1 s yn1 yn0 un0 q1 un212 e)) (fun e=>K ((wh6 y1 s yn1 yn0 un32 un1 un0) e) ((wl0 y1 s yn1 yn0 un32 un1 un0) e)) e:=by obtain ⟨q1,rhat⟩:=e; kernel_rfl
  rw [h]
  simp only [zg2,ua8,ul2,uf2] <;> rfl) n_ e
def jr8 (N:Nat)(hi lo y:Int)(l1:Int→Int→Int→Int→Int→Int→Int→(Int×Int)→Option (Int×Int×Unit)):Option (Int×Int×Unit) :=
 bif (y == 0) then none else
 bif decide (y≤hi) then none else
 bif (hi == 0) then
  bif (decide (y≠0) && true) then
  bif decide (y≠0) then
  some ((IntKind.u64.wrap (Int.tdiv lo y)),Int.tmod lo y,())
  else none
  else none
 else
  (ql3 N y).bind fun r =>
  bif !(decide ((IntKind.u64.wrap r) < 0)) then
  bif !(decide ((IntKind.u64.wrap r) < 0)) then
  bif !(decide ((IntKind.u64.wrap (64 - (IntKind.u64.wrap r))) < 0)) then
  bif !(decide ((IntKind.u64.wrap r) < 0)) then
  bif (decide ((qm5 .u64 (k55 .u64 y (IntKind.u64.wrap r)) (32:Int))≠0) && true) then
  l1 (k55 .u64 y (IntKind.u64.wrap r)) (IntKind.u64.wrap r) (qm5 .u64 (k55 .u64 y (IntKind.u64.wrap r)) (32:Int)) (z43 .and .u64 (k55 .u64 y (IntKind.u64.wrap r)) 4294967295) (z43 .or .u64 (k55 .u64 hi (IntKind.u64.wrap r)) (qm5 .u64 lo (IntKind.u64.wrap (64 - (IntKind.u64.wrap r))))) (qm5 .u64 (k55 .u64 lo (IntKind.u64.wrap r)) (32:Int)) (z43 .and .u64 (k55 .u64 lo (IntKind.u64.wrap r)) 4294967295) ((IntKind.u64.wrap (Int.tdiv (z43 .or .u64 (k55 .u64 hi (IntKind.u64.wrap r)) (qm5 .u64 lo (IntKind.u64.wrap (64 - (IntKind.u64.wrap r))))) (qm5 .u64 (k55 .u64 y (IntKind.u64.wrap r)) (32:Int)))),(IntKind.u64.wrap ((z43 .or .u64 (k55 .u64 hi (IntKind.u64.wrap r)) (qm5 .u64 lo (IntKind.u64.wrap (64 - (IntKind.u64.wrap r))))) - (IntKind.u64.wrap ((IntKind.u64.wrap (Int.tdiv (z43 .or .u64 (k55 .u64 hi (IntKind.u64.wrap r)) (qm5 .u64 lo (IntKind.u64.wrap (64 - (IntKind.u64.wrap r))))) (qm5 .u64 (k55 .u64 y (IntKind.u64.wrap r)) (32:Int)))) * (qm5 .u64 (k55 .u64 y (IntKind.u64.wrap r)) (32:Int)))))))
  else none
  else none
  else none
  else none
  else none
def zh3 (N:Nat)(hi lo y:Int):Option (Int×Int×Unit):=jr8 N hi lo y (fun y1 s yn1 yn0 un32 un1 un0 e=>q87 (zg2 N y1 s yn1 yn0 un32 un1 un0) N e)
noncomputable def xq4 (N:Nat)(hi lo y:Int):Option (RT [(.int .u64),(.int .u64)]):=q24 DR Tryz.prog N (jv7 N) qj6 Tryz.f259 (q13 Tryz.f259) (RT [(.int .u64),(.int .u64)]) (qd4 [(.int .u64),(.int .u64),(.int .u64)] (hi,lo,y,())) [] (q42 [(.int .u64),(.int .u64)])
theorem vu2 (N:Nat)(hi lo y:Int):xq4 N hi lo y=zh3 N hi lo y:=by
 have h:xq4 N hi lo y=jr8 N hi lo y (fun y1 s yn1 yn0 un32 un1 un0 e=>q58 (jg1 N ) N (wh6 y1 s yn1 yn0 un32 un1 un0 e) (wl0 y1 s yn1 yn0 un32 un1 un0 e)):=by kernel_rfl
 rw [h]
 simp only [zh3,ui6] <;> rfl
def vk6 (m:Int→Int→Int→Option (Int×Int×Unit)):Ent:=q37 [(.int .u64),(.int .u64),(.int .u64)] [(.int .u64),(.int .u64)] fun (x:Els [(.int .u64),(.int .u64),(.int .u64)])=>m x.1 x.2.1 x.2.2.1
def yj5 (N:Nat):Ent:=vk6 (zh3 N)
theorem xx7 (N:Nat):q17 Tryz.prog 259 (yj5 N):=q16 (u89 N) Tryz.func259 rfl (by kernel_rfl) fun (x:Els [(.int .u64),(.int .u64),(.int .u64)])=>vu2 N x.1 x.2.1 x.2.2.1
noncomputable def yk0 (N:Nat):q49:=tab [(221,wa7 N)]
theorem v79 (N:Nat):q14 Tryz.prog (yk0 N):=q06 (wc1 N) <| q28 _
noncomputable def jj7 (N:Nat):Ent:=z63 Tryz.prog N (yk0 N) ⟨[],[],[],[],false,[],[]⟩ Tryz.f258 (q13 Tryz.f258)
theorem x63 (N:Nat):q17 Tryz.prog 258 (jj7 N):=qb4 (v79 N) Tryz.func258 rfl (by kernel_rfl)
def kt8 :FH:=⟨[],[],[(1,⟨9,61,0,[],[]⟩)],[],false,[258],[]⟩
noncomputable def u59 (N:Nat):q49:=tab [(220,ww8 N),(219,wu2 N),(259,yj5 N),(258,jj7 N)]
theorem k84 (N:Nat):q14 Tryz.prog (u59 N):=q06 (wt8 N) <| q06 (z42 N) <| q06 (xx7 N) <| q06 (x63 N) <| q28 _
def y94 (N:Nat)(a b d:Int):Option (Int×Int×Unit) :=
 (w39 N a).bind fun r =>
 (w39 N b).bind fun r1 =>
 (qy3 N r r1).bind fun r2 =>
 (w39 N d).bind fun r3 =>
 bif decide (r2.1 ≥ r3) then
  some (0,9,())
 else
  (zh3 N r2.1 r2.2.1 r3).bind fun r4 =>
  bif decide (r4.2.1 > (IntKind.u64.wrap (r3 - r4.2.1))) then
   bif ((IntKind.u64.wrap (r4.1 + 1)) == 0) then
    some (0,9,())
   else
    (qk2 N (!((!((decide (a < 0)) == (decide (b < 0)))) == (decide (d < 0)))) 0 (IntKind.u64.wrap (r4.1 + 1))).bind fun r5 =>
    some r5
  else
   bif (r4.2.1 == (IntKind.u64.wrap (r3 - r4.2.1))) then
    bif ((z43 .and .u64 r4.1 1) == 1) then
     bif ((IntKind.u64.wrap (r4.1 + 1)) == 0) then
      some (0,9,())
     else
      (qk2 N (!((!((decide (a < 0)) == (decide (b < 0)))) == (decide (d < 0)))) 0 (IntKind.u64.wrap (r4.1 + 1))).bind fun r6 =>
      some r6
    else
     (qk2 N (!((!((decide (a < 0)) == (decide (b < 0)))) == (decide (d < 0)))) 0 r4.1).bind fun r7 =>
     some r7
   else
    (qk2 N (!((!((decide (a < 0)) == (decide (b < 0)))) == (decide (d < 0)))) 0 r4.1).bind fun r8 =>
    some r8
noncomputable def kx6 (N:Nat)(a b d:Int):Option (RT [(.int .i64),(.int .i64)]):=q24 DR Tryz.prog N (u59 N) kt8 Tryz.f222 (q13 Tryz.f222) (RT [(.int .i64),(.int .i64)]) (qd4 [(.int .i64),(.int .i64),(.int .i64)] (a,b,d,())) [] (q42 [(.int .i64),(.int .i64)])
theorem k07 (N:Nat)(a b d:Int):kx6 N a b d=y94 N a b d:=by kernel_rfl
def ue3 (m:Int→Int→Int→Option (Int×Int×Unit)):Ent:=q37 [(.int .i64),(.int .i64),(.int .i64)] [(.int .i64),(.int .i64)] fun (x:Els [(.int .i64),(.int .i64),(.int .i64)])=>m x.1 x.2.1 x.2.2.1
def y07 (N:Nat):Ent:=ue3 (y94 N)
theorem yh7 (N:Nat):q17 Tryz.prog 222 (y07 N):=q16 (k84 N) Tryz.func222 rfl (by kernel_rfl) fun (x:Els [(.int .i64),(.int .i64),(.int .i64)])=>k07 N x.1 x.2.1 x.2.2.1
def ut9 :FH:=⟨[],[],[],[],false,[],[]⟩
noncomputable def xo7 (N:Nat):q49:=tab [(222,y07 N)]
theorem ua4 (N:Nat):q14 Tryz.prog (xo7 N):=q06 (yh7 N) <| q28 _
def zh1 (N:Nat)(a b:Int):Option (Int×Int×Unit) :=
 (y94 N a b 10000).bind fun r =>
 some r
noncomputable def ur4 (N:Nat)(a b:Int):Option (RT [(.int .i64),(.int .i64)]):=q24 DR Tryz.prog N (xo7 N) ut9 Tryz.f168 (q13 Tryz.f168) (RT [(.int .i64),(.int .i64)]) (qd4 [(.int .i64),(.int .i64)] (a,b,())) [] (q42 [(.int .i64),(.int .i64)])
theorem vr5 (N:Nat)(a b:Int):ur4 N a b=zh1 N a b:=by kernel_rfl
def v53 (m:Int→Int→Option (Int×Int×Unit)):Ent:=q37 [(.int .i64),(.int .i64)] [(.int .i64),(.int .i64)] fun (x:Els [(.int .i64),(.int .i64)])=>m x.1 x.2.1
def yj9 (N:Nat):Ent:=v53 (zh1 N)
theorem xx8 (N:Nat):q17 Tryz.prog 168 (yj9 N):=q16 (ua4 N) Tryz.func168 rfl (by kernel_rfl) fun (x:Els [(.int .i64),(.int .i64)])=>vr5 N x.1 x.2.1
def uh8 :FH:=⟨[],[],[(8,⟨16,54,0,[],[]⟩)],[],false,[],[]⟩
noncomputable def yw6 (N:Nat):q49:=tab [(217,qs0 N),(168,yj9 N),(218,qx3 N),(167,yt9 N)]
theorem vr9 (N:Nat):q14 Tryz.prog (yw6 N):=q06 (qt6 N) <| q06 (xx8 N) <| q06 (qz2 N) <| q06 (x62 N) <| q28 _
def yo6 (N:Nat)(a b:q00):Option OX3 :=
 (q96 N ([a,b]:List q00)).bind fun r =>
 bif r.2.1 then
  some ((0,0,[],()),r.2.2.1,())
 else
  bif (r.2.2.1 != 0) then
   some ((0,0,[],()),r.2.2.1,())
  else
   bif inR 0 r.1.length then
   bif (((q25 r.1 0 q30).1) == 2) then
    bif inR 0 r.1.length then
    bif inR 1 r.1.length then
    (zh1 N ((q25 r.1 0 q30).2.1) ((q25 r.1 1 q30).2.1)).bind fun r1 =>
    bif (r1.2.1 != 0) then
     some ((0,0,[],()),r1.2.1,())
    else
     bif inR 0 r.1.length then
     some (((q25 r.1 0 q30).1,r1.1,[],()),0,())
     else none
    else none
    else none
   else
    bif inR 0 r.1.length then
    bif inR 1 r.1.length then
    (yu5 N ((q25 r.1 0 q30).2.1) ((q25 r.1 1 q30).2.1)).bind fun r2 =>
    bif (r2.2.1 != 0) then
     some ((0,0,[],()),r2.2.1,())
    else
     bif inR 0 r.1.length then
     some (((q25 r.1 0 q30).1,r2.1,[],()),0,())
     else none
    else none
    else none
   else none
abbrev yi7 :List PK:=[.val q05,.val q05,.fn 167 0,.fn 168 0]
noncomputable def ul0 (N:Nat)(a b:q00):Option (RT [q05,(.int .i64)]):=q24 DR Tryz.prog N (yw6 N) uh8 Tryz.f164 (q13 Tryz.f164) (RT [q05,(.int .i64)]) (qy6 yi7 (a,b,())) [] (q42 [q05,(.int .i64)])
theorem vb6 (N:Nat)(a b:q00):ul0 N a b=yo6 N a b:=by kernel_rfl
def xx5 (m:q00→q00→Option OX3):Ent:=qf3 yi7 [q05,(.int .i64)] fun (x:Els [q05,q05])=>m x.1 x.2.1
def jz2 (N:Nat):Ent:=xx5 (yo6 N)
theorem xf9 (N:Nat):q17 Tryz.prog 164 (jz2 N):=q52 (vr9 N) Tryz.func164 rfl (by kernel_rfl) (by kernel_rfl) fun (x:Els [q05,q05])=>vb6 N x.1 x.2.1
def kb2 :FH:=⟨[],[],[],[],false,[],[]⟩
noncomputable def v84 (N:Nat):q49:=tab [(164,jz2 N)]
theorem uo5 (N:Nat):q14 Tryz.prog (v84 N):=q06 (xf9 N) <| q28 _
def zy6 (N:Nat)(a b:q00):Option OX3 :=
 (yo6 N a b).bind fun r =>
 some r
noncomputable def ke4 (N:Nat)(a b:q00):Option (RT [q05,(.int .i64)]):=q24 DR Tryz.prog N (v84 N) kb2 Tryz.f97 (q13 Tryz.f97) (RT [q05,(.int .i64)]) (qd4 [q05,q05] (a,b,())) [] (q42 [q05,(.int .i64)])
theorem uk8 (N:Nat)(a b:q00):ke4 N a b=zy6 N a b:=by kernel_rfl
def vy0 (m:q00→q00→Option OX3):Ent:=q37 [q05,q05] [q05,(.int .i64)] fun (x:Els [q05,q05])=>m x.1 x.2.1
def yv0 (N:Nat):Ent:=vy0 (zy6 N)
theorem v60 (N:Nat):q17 Tryz.prog 97 (yv0 N):=q16 (uo5 N) Tryz.func97 rfl (by kernel_rfl) fun (x:Els [q05,q05])=>uk8 N x.1 x.2.1
noncomputable def z64 (N:Nat):q49:=tab [(97,yv0 N),(101,qh0 N)]
theorem y19 (N:Nat):q14 Tryz.prog (z64 N):=q06 (v60 N) <| q06 (qd6 N) <| q28 _
noncomputable def wn7 (N:Nat):Ent:=z63 Tryz.prog N (z64 N) ⟨[],[],[(1,⟨10,15,0,[],[]⟩)],[],false,[],[]⟩ Tryz.f163 (q13 Tryz.f163)
theorem j34 (N:Nat):q17 Tryz.prog 163 (wn7 N):=qb4 (y19 N) Tryz.func163 rfl (by kernel_rfl)
def z99 :LH:=⟨[(2,.asis),(3,.asis),(6,.asis),(7,.own q05 507 26 3),(10,.int .i64),(11,.int .i64)],[],[.cells [.lst q07,.lst .bool],.cells [.int .u8,.int .i64,.str,.int .i64]]⟩
def qv3 :FH:=⟨[z99],[],[],[],false,[],[]⟩
noncomputable def wf5 (N:Nat):q49:=tab [(153,q53 N),(163,wn7 N)]
theorem yg6 (N:Nat):q14 Tryz.prog (wf5 N):=q06 (q50 N) <| q06 (j34 N) <| q28 _
noncomputable def ze8 :Sc:=wm4 Tryz.prog qv3
noncomputable def zd0 (N:Nat):Cfg:=⟨N,wf5 N,0⟩
noncomputable def js6 (N:Nat):Exit→List TV→List TOb→Option q03:=fin Tryz.prog 0 Tryz.f99.results.toList (q42 [q07])
def w77 (n:Int)(k_l:List q03)(q09:List Bool)(q04 q21:Int)(q22:List UInt8)(q63:Int)(e:List q00×Int):List TV:=match e with
 | (l,t11)=>frm 30 [(2,.func (.func 163) [.ep [.func (.func 97) []] 0]),(3,.ref 0 0),(6,.ref 1 0),(7,.tl q05 l (.own 507 26 3)),(10,.int .i64 n),(11,.int .i64 t11)]
def w65 (n:Int)(k_l:List q03)(q09:List Bool)(q04 q21:Int)(q22:List UInt8)(q63:Int)(e:List q00×Int):List TOb:=match e with
 | (l,t11)=>[.cells [.tl q07 k_l .unk,.tl .bool q09 .unk] 118 true,.cells [.int .u8 q04,.int .i64 q21,.str q22,.int .i64 q63] 115 true]
noncomputable def z66 (N:Nat):(List TV→List TOb→Option q03)→List TV→List TOb→Option q03:=w66 DR ze8 (zd0 N) (qm3 (qc6 (q08 (q88 (q08 (q08 (q13 Tryz.f99))))))) z99 (qv3.loops.drop 1) (qj9 0 (qc5 DR ze8 (zd0 N) (q08 (q08 (q08 (q13 Tryz.f99)))) (qv3.loops.drop 1) (js6 N)))
def w75 (N:Nat)(n:Int)(k_l:List q03)(q09:List Bool)(q04 q21:Int)(q22:List UInt8)(q63:Int)(K0:(List q00×Int)→Option q03)(e:List q00×Int):Option q03 :=
 match e with
 | (l,t11) =>
  bif decide (t11 < n) then
   (q59 N (k_l,q09,()) t11).bind fun r =>
   bif (r.2.1 != 0) then
    some r
   else
    bif w33 (l.length + ([r.1]:List q00).length) 4398046511104 then
    bif q27 (t11 + 1) then
    K0 ((l ++ ([r.1]:List q00)),t11 + 1)
    else none
    else none
  else
   bif inR 0 l.length then
   bif inR 1 l.length then
   (zy6 N (q25 l 0 q30) (q25 l 1 q30)).bind fun r1 =>
   (qd1 N r1.1 r1.2.1).bind fun r2 =>
   some r2
   else none
   else none
theorem yb2 (N:Nat)(n:Int)(k_l:List q03)(q09:List Bool)(q04 q21:Int)(q22:List UInt8)(q63:Int)(n_:Nat)(e:List q00×Int):q58 (z66 N ) n_ ((w77 n k_l q09 q04 q21 q22 q63) e) ((w65 n k_l q09 q04 q21 q22 q63) e)=q87 (w75 N n k_l q09 q04 q21 q22 q63 ) n_ e :=
 q41 (w77 n k_l q09 q04 q21 q22 q63) (w65 n k_l q09 q04 q21 q22 q63) (by intro K e; obtain ⟨l,t11⟩:=e; kernel_rfl) n_ e
def zn4 (N:Nat)(k:q34)(n:Int)(l1:Int→(List q03)→(List Bool)→Int→Int→(List UInt8)→Int→(List q00×Int)→Option q03):Option q03 :=
 l1 n k.1 k.2.1 0 0 [] 0 ([],0)
def qr8 (N:Nat)(k:q34)(n:Int):Option q03:=zn4 N k n (fun n k_l q09 q04 q21 q22 q63 e=>q87 (w75 N n k_l q09 q04 q21 q22 q63) N e)
abbrev za2 :List PK:=[.val q66,.val (.int .i64),.fn 163 1,.ep 1,.fn 97 0]
noncomputable def zj6 (N:Nat)(k:q34)(n:Int):Option (RT [q07]):=q24 DR Tryz.prog N (wf5 N) qv3 Tryz.f99 (q13 Tryz.f99) (RT [q07]) (qy6 za2 (k,n,())) [] (q42 [q07])
theorem ju5 (N:Nat)(k:q34)(n:Int):zj6 N k n=qr8 N k n:=by
 have h:zj6 N k n=zn4 N k n (fun n k_l q09 q04 q21 q22 q63 e=>q58 (z66 N ) N (w77 n k_l q09 q04 q21 q22 q63 e) (w65 n k_l q09 q04 q21 q22 q63 e)):=by kernel_rfl
 rw [h]
 simp only [qr8,yb2] <;> rfl
def jl8 (m:q34→Int→Option q03):Ent:=qf3 za2 [q07] fun (x:Els [q66,(.int .i64)])=>m x.1 x.2.1
def z12 (N:Nat):Ent:=jl8 (qr8 N)
theorem jg3 (N:Nat):q17 Tryz.prog 99 (z12 N):=q52 (yg6 N) Tryz.func99 rfl (by kernel_rfl) (by kernel_rfl) fun (x:Els [q66,(.int .i64)])=>ju5 N x.1 x.2.1
def k48 :FH:=⟨[],[],[],[],false,[],[]⟩
noncomputable def xo5 (N:Nat):q49:=tab [(222,y07 N)]
theorem u80 (N:Nat):q14 Tryz.prog (xo5 N):=q06 (yh7 N) <| q28 _
def zh5 (N:Nat)(a b:Int):Option (Int×Int×Unit) :=
 bif (b == 0) then
  some (0,10,())
 else
  (y94 N a 10000 b).bind fun r =>
  some r
noncomputable def uz8 (N:Nat)(a b:Int):Option (RT [(.int .i64),(.int .i64)]):=q24 DR Tryz.prog N (xo5 N) k48 Tryz.f170 (q13 Tryz.f170) (RT [(.int .i64),(.int .i64)]) (qd4 [(.int .i64),(.int .i64)] (a,b,())) [] (q42 [(.int .i64),(.int .i64)])
theorem vq5 (N:Nat)(a b:Int):uz8 N a b=zh5 N a b:=by kernel_rfl
def vn8 (m:Int→Int→Option (Int×Int×Unit)):Ent:=q37 [(.int .i64),(.int .i64)] [(.int .i64),(.int .i64)] fun (x:Els [(.int .i64),(.int .i64)])=>m x.1 x.2.1
def yi2 (N:Nat):Ent:=vn8 (zh5 N)
theorem xy5 (N:Nat):q17 Tryz.prog 170 (yi2 N):=q16 (u80 N) Tryz.func170 rfl (by kernel_rfl) fun (x:Els [(.int .i64),(.int .i64)])=>vq5 N x.1 x.2.1
def num_Quo_H :FH:=⟨[],[],[],[],false,[],[]⟩
noncomputable def k41 (N:Nat):q49:=tab [(220,ww8 N),(221,wa7 N)]
theorem q0h (N:Nat):q14 Tryz.prog (k41 N):=q06 (wt8 N) <| q06 (wc1 N) <| q28 _
def xb0 (N:Nat)(a b:Int):Option (Int×Int×Unit) :=
 bif (b == 0) then
  some (0,10,())
 else
  (w39 N a).bind fun r =>
  (w39 N b).bind fun r1 =>
  bif (decide (r1≠0) && true) then
  (qk2 N (!((decide (a < 0)) == (decide (b < 0)))) 0 (IntKind.u64.wrap (Int.tdiv r r1))).bind fun r2 =>
  some r2
  else none
noncomputable def num_Quo_C (N:Nat)(a b:Int):Option (RT [(.int .i64),(.int .i64)]):=q24 DR Tryz.prog N (k41 N) num_Quo_H Tryz.f169 (q13 Tryz.f169) (RT [(.int .i64),(.int .i64)]) (qd4 [(.int .i64),(.int .i64)] (a,b,())) [] (q42 [(.int .i64),(.int .i64)])
theorem k58 (N:Nat)(a b:Int):num_Quo_C N a b=xb0 N a b:=by kernel_rfl
def uq1 (m:Int→Int→Option (Int×Int×Unit)):Ent:=q37 [(.int .i64),(.int .i64)] [(.int .i64),(.int .i64)] fun (x:Els [(.int .i64),(.int .i64)])=>m x.1 x.2.1
def vo6 (N:Nat):Ent:=uq1 (xb0 N)
theorem ub6 (N:Nat):q17 Tryz.prog 169 (vo6 N):=q16 (q0h N) Tryz.func169 rfl (by kernel_rfl) fun (x:Els [(.int .i64),(.int .i64)])=>k58 N x.1 x.2.1
def ua5 :FH:=⟨[],[],[(8,⟨16,54,0,[],[]⟩)],[],false,[],[]⟩
noncomputable def yv3 (N:Nat):q49:=tab [(217,qs0 N),(170,yi2 N),(218,qx3 N),(169,vo6 N)]
theorem vu4 (N:Nat):q14 Tryz.prog (yv3 N):=q06 (qt6 N) <| q06 (xy5 N) <| q06 (qz2 N) <| q06 (ub6 N) <| q28 _
def ym0 (N:Nat)(a b:q00):Option OX3 :=
 (q96 N ([a,b]:List q00)).bind fun r =>
 bif r.2.1 then
  some ((0,0,[],()),r.2.2.1,())
 else
  bif (r.2.2.1 != 0) then
   some ((0,0,[],()),r.2.2.1,())
  else
   bif inR 0 r.1.length then
   bif (((q25 r.1 0 q30).1) == 2) then
    bif inR 0 r.1.length then
    bif inR 1 r.1.length then
    (zh5 N ((q25 r.1 0 q30).2.1) ((q25 r.1 1 q30).2.1)).bind fun r1 =>
    bif (r1.2.1 != 0) then
     some ((0,0,[],()),r1.2.1,())
    else
     bif inR 0 r.1.length then
     some (((q25 r.1 0 q30).1,r1.1,[],()),0,())
     else none
    else none
    else none
   else
    bif inR 0 r.1.length then
    bif inR 1 r.1.length then
    (xb0 N ((q25 r.1 0 q30).2.1) ((q25 r.1 1 q30).2.1)).bind fun r2 =>
    bif (r2.2.1 != 0) then
     some ((0,0,[],()),r2.2.1,())
    else
     bif inR 0 r.1.length then
     some (((q25 r.1 0 q30).1,r2.1,[],()),0,())
     else none
    else none
    else none
   else none
abbrev yj2 :List PK:=[.val q05,.val q05,.fn 169 0,.fn 170 0]
noncomputable def uj3 (N:Nat)(a b:q00):Option (RT [q05,(.int .i64)]):=q24 DR Tryz.prog N (yv3 N) ua5 Tryz.f164 (q13 Tryz.f164) (RT [q05,(.int .i64)]) (qy6 yj2 (a,b,())) [] (q42 [q05,(.int .i64)])
theorem vh0 (N:Nat)(a b:q00):uj3 N a b=ym0 N a b:=by kernel_rfl
def xy8 (m:q00→q00→Option OX3):Ent:=qf3 yj2 [q05,(.int .i64)] fun (x:Els [q05,q05])=>m x.1 x.2.1
def js7 (N:Nat):Ent:=xy8 (ym0 N)
theorem xk3 (N:Nat):q17 Tryz.prog 164 (js7 N):=q52 (vu4 N) Tryz.func164 rfl (by kernel_rfl) (by kernel_rfl) fun (x:Els [q05,q05])=>vh0 N x.1 x.2.1
def kd7 :FH:=⟨[],[],[],[],false,[],[]⟩
noncomputable def vo8 (N:Nat):q49:=tab [(164,js7 N)]
theorem uv9 (N:Nat):q14 Tryz.prog (vo8 N):=q06 (xk3 N) <| q28 _
def j22 (N:Nat)(a b:q00):Option OX3 :=
 (ym0 N a b).bind fun r =>
 some r
noncomputable def kb0 (N:Nat)(a b:q00):Option (RT [q05,(.int .i64)]):=q24 DR Tryz.prog N (vo8 N) kd7 Tryz.f98 (q13 Tryz.f98) (RT [q05,(.int .i64)]) (qd4 [q05,q05] (a,b,())) [] (q42 [q05,(.int .i64)])
theorem uf9 (N:Nat)(a b:q00):kb0 N a b=j22 N a b:=by kernel_rfl
def vx6 (m:q00→q00→Option OX3):Ent:=q37 [q05,q05] [q05,(.int .i64)] fun (x:Els [q05,q05])=>m x.1 x.2.1
def yw9 (N:Nat):Ent:=vx6 (j22 N)
theorem v54 (N:Nat):q17 Tryz.prog 98 (yw9 N):=q16 (uv9 N) Tryz.func98 rfl (by kernel_rfl) fun (x:Els [q05,q05])=>uf9 N x.1 x.2.1
noncomputable def ze9 (N:Nat):q49:=tab [(98,yw9 N),(101,qh0 N)]
theorem y49 (N:Nat):q14 Tryz.prog (ze9 N):=q06 (v54 N) <| q06 (qd6 N) <| q28 _
noncomputable def wm7 (N:Nat):Ent:=z63 Tryz.prog N (ze9 N) ⟨[],[],[(1,⟨10,15,0,[],[]⟩)],[],false,[],[]⟩ Tryz.f163 (q13 Tryz.f163)
theorem zz5 (N:Nat):q17 Tryz.prog 163 (wm7 N):=qb4 (y49 N) Tryz.func163 rfl (by kernel_rfl)
def wv4 :LH:=⟨[(2,.asis),(3,.asis),(6,.asis),(7,.own q05 507 26 3),(10,.int .i64),(11,.int .i64)],[],[.cells [.lst q07,.lst .bool],.cells [.int .u8,.int .i64,.str,.int .i64]]⟩
def qp8 :FH:=⟨[wv4],[],[],[],false,[],[]⟩
noncomputable def w67 (N:Nat):q49:=tab [(153,q53 N),(163,wm7 N)]
theorem jz4 (N:Nat):q14 Tryz.prog (w67 N):=q06 (q50 N) <| q06 (zz5 N) <| q28 _
noncomputable def z13 :Sc:=wm4 Tryz.prog qp8
noncomputable def wz6 (N:Nat):Cfg:=⟨N,w67 N,0⟩
noncomputable def jn9 (N:Nat):Exit→List TV→List TOb→Option q03:=fin Tryz.prog 0 Tryz.f99.results.toList (q42 [q07])
def w06 (n:Int)(k_l:List q03)(q09:List Bool)(q04 q21:Int)(q22:List UInt8)(q63:Int)(e:List q00×Int):List TV:=match e with
 | (l,t11)=>frm 30 [(2,.func (.func 163) [.ep [.func (.func 98) []] 0]),(3,.ref 0 0),(6,.ref 1 0),(7,.tl q05 l (.own 507 26 3)),(10,.int .i64 n),(11,.int .i64 t11)]
def w13 (n:Int)(k_l:List q03)(q09:List Bool)(q04 q21:Int)(q22:List UInt8)(q63:Int)(e:List q00×Int):List TOb:=match e with
 | (l,t11)=>[.cells [.tl q07 k_l .unk,.tl .bool q09 .unk] 118 true,.cells [.int .u8 q04,.int .i64 q21,.str q22,.int .i64 q63] 115 true]
noncomputable def z39 (N:Nat):(List TV→List TOb→Option q03)→List TV→List TOb→Option q03:=w66 DR z13 (wz6 N) (qm3 (qc6 (q08 (q88 (q08 (q08 (q13 Tryz.f99))))))) wv4 (qp8.loops.drop 1) (qj9 0 (qc5 DR z13 (wz6 N) (q08 (q08 (q08 (q13 Tryz.f99)))) (qp8.loops.drop 1) (jn9 N)))
def w30 (N:Nat)(n:Int)(k_l:List q03)(q09:List Bool)(q04 q21:Int)(q22:List UInt8)(q63:Int)(K0:(List q00×Int)→Option q03)(e:List q00×Int):Option q03 :=
 match e with
 | (l,t11) =>
  bif decide (t11 < n) then
   (q59 N (k_l,q09,()) t11).bind fun r =>
   bif (r.2.1 != 0) then
    some r
   else
    bif w33 (l.length + ([r.1]:List q00).length) 4398046511104 then
    bif q27 (t11 + 1) then
    K0 ((l ++ ([r.1]:List q00)),t11 + 1)
    else none
    else none
  else
   bif inR 0 l.length then
   bif inR 1 l.length then
   (j22 N (q25 l 0 q30) (q25 l 1 q30)).bind fun r1 =>
   (qd1 N r1.1 r1.2.1).bind fun r2 =>
   some r2
   else none
   else none
theorem y01 (N:Nat)(n:Int)(k_l:List q03)(q09:List Bool)(q04 q21:Int)(q22:List UInt8)(q63:Int)(n_:Nat)(e:List q00×Int):q58 (z39 N ) n_ ((w06 n k_l q09 q04 q21 q22 q63) e) ((w13 n k_l q09 q04 q21 q22 q63) e)=q87 (w30 N n k_l q09 q04 q21 q22 q63 ) n_ e :=
 q41 (w06 n k_l q09 q04 q21 q22 q63) (w13 n k_l q09 q04 q21 q22 q63) (by intro K e; obtain ⟨l,t11⟩:=e; kernel_rfl) n_ e
def z68 (N:Nat)(k:q34)(n:Int)(l1:Int→(List q03)→(List Bool)→Int→Int→(List UInt8)→Int→(List q00×Int)→Option q03):Option q03 :=
 l1 n k.1 k.2.1 0 0 [] 0 ([],0)
def qn6 (N:Nat)(k:q34)(n:Int):Option q03:=z68 N k n (fun n k_l q09 q04 q21 q22 q63 e=>q87 (w30 N n k_l q09 q04 q21 q22 q63) N e)
abbrev wv2 :List PK:=[.val q66,.val (.int .i64),.fn 163 1,.ep 1,.fn 98 0]
noncomputable def z89 (N:Nat)(k:q34)(n:Int):Option (RT [q07]):=q24 DR Tryz.prog N (w67 N) qp8 Tryz.f99 (q13 Tryz.f99) (RT [q07]) (qy6 wv2 (k,n,())) [] (q42 [q07])
theorem jq0 (N:Nat)(k:q34)(n:Int):z89 N k n=qn6 N k n:=by
 have h:z89 N k n=z68 N k n (fun n k_l q09 q04 q21 q22 q63 e=>q58 (z39 N ) N (w06 n k_l q09 q04 q21 q22 q63 e) (w13 n k_l q09 q04 q21 q22 q63 e)):=by kernel_rfl
 rw [h]
 simp only [qn6,y01] <;> rfl
def j80 (m:q34→Int→Option q03):Ent:=qf3 wv2 [q07] fun (x:Els [q66,(.int .i64)])=>m x.1 x.2.1
def wn0 (N:Nat):Ent:=j80 (qn6 N)
theorem zx7 (N:Nat):q17 Tryz.prog 99 (wn0 N):=q52 (jz4 N) Tryz.func99 rfl (by kernel_rfl) (by kernel_rfl) fun (x:Els [q66,(.int .i64)])=>jq0 N x.1 x.2.1
def k63 :FH:=⟨[],[],[],[],false,[],[]⟩
noncomputable def vn6 (N:Nat):q49:=tab [(96,jd6 N)]
theorem ux8 (N:Nat):q14 Tryz.prog (vn6 N):=q06 (y09 N) <| q28 _
def j49 (N:Nat)(a:q00):Option OX3 :=
 (zi5 N ((vq2 (iMin a.1 (2:Int)) (1:Int)),0,[],()) a).bind fun r =>
 some r
noncomputable def kc2 (N:Nat)(a:q00):Option (RT [q05,(.int .i64)]):=q24 DR Tryz.prog N (vn6 N) k63 Tryz.f102 (q13 Tryz.f102) (RT [q05,(.int .i64)]) (qd4 [q05] (a,())) [] (q42 [q05,(.int .i64)])
theorem uh9 (N:Nat)(a:q00):kc2 N a=j49 N a:=by kernel_rfl
def vx7 (m:q00→Option OX3):Ent:=q37 [q05] [q05,(.int .i64)] fun (x:Els [q05])=>m x.1
def jf8 (N:Nat):Ent:=vx7 (j49 N)
theorem js1 (N:Nat):q17 Tryz.prog 102 (jf8 N):=q16 (ux8 N) Tryz.func102 rfl (by kernel_rfl) fun (x:Els [q05])=>uh9 N x.1
def vj4 :FH:=⟨[],[],[],[],false,[],[]⟩
noncomputable def y18 (N:Nat):q49:=tab [(102,jf8 N),(101,qh0 N)]
theorem v09 (N:Nat):q14 Tryz.prog (y18 N):=q06 (js1 N) <| q06 (qd6 N) <| q28 _
def wj7 (N:Nat)(l:List q00):Option q03 :=
 bif inR 0 l.length then
 (j49 N (q25 l 0 q30)).bind fun r =>
 (qd1 N r.1 r.2.1).bind fun r1 =>
 some r1
 else none
noncomputable def vo4 (N:Nat)(l:List q00):Option (RT [q07]):=q24 DR Tryz.prog N (y18 N) vj4 Tryz.f100 (q13 Tryz.f100) (RT [q07]) (qd4 [(.list q05)] (l,())) [] (q42 [q07])
theorem xf5 (N:Nat)(l:List q00):vo4 N l=wj7 N l:=by kernel_rfl
def x31 (m:(List q00)→Option q03):Ent:=q37 [(.list q05)] [q07] fun (x:Els [(.list q05)])=>m x.1
def zy7 (N:Nat):Ent:=x31 (wj7 N)
theorem yq1 (N:Nat):q17 Tryz.prog 100 (zy7 N):=q16 (v09 N) Tryz.func100 rfl (by kernel_rfl) fun (x:Els [(.list q05)])=>xf5 N x.1
def wx8 :LH:=⟨[(2,.asis),(3,.asis),(6,.asis),(7,.own q05 507 26 3),(10,.int .i64),(11,.int .i64)],[],[.cells [.lst q07,.lst .bool],.cells [.int .u8,.int .i64,.str,.int .i64]]⟩
def qq5 :FH:=⟨[wx8],[],[],[],false,[],[]⟩
noncomputable def w99 (N:Nat):q49:=tab [(153,q53 N),(100,zy7 N)]
theorem jz1 (N:Nat):q14 Tryz.prog (w99 N):=q06 (q50 N) <| q06 (yq1 N) <| q28 _
noncomputable def z15 :Sc:=wm4 Tryz.prog qq5
noncomputable def ww4 (N:Nat):Cfg:=⟨N,w99 N,0⟩
noncomputable def jp4 (N:Nat):Exit→List TV→List TOb→Option q03:=fin Tryz.prog 0 Tryz.f99.results.toList (q42 [q07])
def w16 (n:Int)(k_l:List q03)(q09:List Bool)(q04 q21:Int)(q22:List UInt8)(q63:Int)(e:List q00×Int):List TV:=match e with
 | (l,t11)=>frm 30 [(2,.func (.func 100) []),(3,.ref 0 0),(6,.ref 1 0),(7,.tl q05 l (.own 507 26 3)),(10,.int .i64 n),(11,.int .i64 t11)]
def w01 (n:Int)(k_l:List q03)(q09:List Bool)(q04 q21:Int)(q22:List UInt8)(q63:Int)(e:List q00×Int):List TOb:=match e with
 | (l,t11)=>[.cells [.tl q07 k_l .unk,.tl .bool q09 .unk] 118 true,.cells [.int .u8 q04,.int .i64 q21,.str q22,.int .i64 q63] 115 true]
noncomputable def ww2 (N:Nat):(List TV→List TOb→Option q03)→List TV→List TOb→Option q03:=w66 DR z15 (ww4 N) (qm3 (qc6 (q08 (q88 (q08 (q08 (q13 Tryz.f99))))))) wx8 (qq5.loops.drop 1) (qj9 0 (qc5 DR z15 (ww4 N) (q08 (q08 (q08 (q13 Tryz.f99)))) (qq5.loops.drop 1) (jp4 N)))
def w26 (N:Nat)(n:Int)(k_l:List q03)(q09:List Bool)(q04 q21:Int)(q22:List UInt8)(q63:Int)(K0:(List q00×Int)→Option q03)(e:List q00×Int):Option q03 :=
 match e with
 | (l,t11) =>
  bif decide (t11 < n) then
   (q59 N (k_l,q09,()) t11).bind fun r =>
   bif (r.2.1 != 0) then
    some r
   else
    bif w33 (l.length + ([r.1]:List q00).length) 4398046511104 then
    bif q27 (t11 + 1) then
    K0 ((l ++ ([r.1]:List q00)),t11 + 1)
    else none
    else none
  else
   (wj7 N l).bind fun r1 =>
   some r1
theorem y31 (N:Nat)(n:Int)(k_l:List q03)(q09:List Bool)(q04 q21:Int)(q22:List UInt8)(q63:Int)(n_:Nat)(e:List q00×Int):q58 (ww2 N ) n_ ((w16 n k_l q09 q04 q21 q22 q63) e) ((w01 n k_l q09 q04 q21 q22 q63) e)=q87 (w26 N n k_l q09 q04 q21 q22 q63 ) n_ e :=
 q41 (w16 n k_l q09 q04 q21 q22 q63) (w01 n k_l q09 q04 q21 q22 q63) (by intro K e; obtain ⟨l,t11⟩:=e; kernel_rfl) n_ e
def zd9 (N:Nat)(k:q34)(n:Int)(l1:Int→(List q03)→(List Bool)→Int→Int→(List UInt8)→Int→(List q00×Int)→Option q03):Option q03 :=
 l1 n k.1 k.2.1 0 0 [] 0 ([],0)
def qo5 (N:Nat)(k:q34)(n:Int):Option q03:=zd9 N k n (fun n k_l q09 q04 q21 q22 q63 e=>q87 (w26 N n k_l q09 q04 q21 q22 q63) N e)
abbrev ww3 :List PK:=[.val q66,.val (.int .i64),.fn 100 0]
noncomputable def zc3 (N:Nat)(k:q34)(n:Int):Option (RT [q07]):=q24 DR Tryz.prog N (w99 N) qq5 Tryz.f99 (q13 Tryz.f99) (RT [q07]) (qy6 ww3 (k,n,())) [] (q42 [q07])
theorem jl4 (N:Nat)(k:q34)(n:Int):zc3 N k n=qo5 N k n:=by
 have h:zc3 N k n=zd9 N k n (fun n k_l q09 q04 q21 q22 q63 e=>q58 (ww2 N ) N (w16 n k_l q09 q04 q21 q22 q63 e) (w01 n k_l q09 q04 q21 q22 q63 e)):=by kernel_rfl
 rw [h]
 simp only [qo5,y31] <;> rfl
def jd2 (m:q34→Int→Option q03):Ent:=qf3 ww3 [q07] fun (x:Els [q66,(.int .i64)])=>m x.1 x.2.1
def wo1 (N:Nat):Ent:=jd2 (qo5 N)
theorem j24 (N:Nat):q17 Tryz.prog 99 (wo1 N):=q52 (jz1 N) Tryz.func99 rfl (by kernel_rfl) (by kernel_rfl) fun (x:Els [q66,(.int .i64)])=>jl4 N x.1 x.2.1
def yi5 :LH:=⟨[(0,.int .i64),(4,.asis),(9,.asis),(33,.lst q05),(34,.int .i64),(35,.int .i64)],[],[.cells [.int .u8,.int .i64,.str],.cells [.int .u8,.int .i64,.str]]⟩
def zf8 :FH:=⟨[yi5],[],[],[],false,[],[]⟩
noncomputable def j98 (N:Nat):q49:=tab [(217,qs0 N),(223,w22 N)]
theorem vt5 (N:Nat):q14 Tryz.prog (j98 N):=q06 (qt6 N) <| q06 (wm0 N) <| q28 _
noncomputable def yi9 :Sc:=wm4 Tryz.prog zf8
noncomputable def yi8 (N:Nat):Cfg:=⟨N,j98 N,0⟩
noncomputable def vd0 (N:Nat):Exit→List TV→List TOb→Option OX3:=fin Tryz.prog 0 Tryz.f171.results.toList (q42 [q05,(.int .i64)])
def zw6 (c:Int)(t33:List q00)(t34 wl7 kp6:Int)(kj9:List UInt8)(e:Int×Int×Int×List UInt8):List TV:=match e with
 | (t35,out_Kind,out_N,out_S)=>frm 49 [(0,.int .i64 c),(4,.ref 0 0),(9,.ref 1 0),(33,.tl q05 t33 .unk),(34,.int .i64 t34),(35,.int .i64 t35)]
def zw0 (c:Int)(t33:List q00)(t34 wl7 kp6:Int)(kj9:List UInt8)(e:Int×Int×Int×List UInt8):List TOb:=match e with
 | (t35,out_Kind,out_N,out_S)=>[.cells [.int .u8 wl7,.int .i64 kp6,.str kj9] 26 true,.cells [.int .u8 out_Kind,.int .i64 out_N,.str out_S] 26 true]
noncomputable def yk3 (N:Nat):(List TV→List TOb→Option OX3)→List TV→List TOb→Option OX3:=w66 DR yi9 (yi8 N) (qm3 (qc6 (q08 (q88 (q08 (q08 (q08 (q08 (q13 Tryz.f171))))))))) yi5 (zf8.loops.drop 1) (qj9 0 (qc5 DR yi9 (yi8 N) (q08 (q08 (q08 (q08 (q08 (q13 Tryz.f171)))))) (zf8.loops.drop 1) (vd0 N)))
def zv3 (N:Nat)(c:Int)(t33:List q00)(t34 wl7 kp6:Int)(kj9:List UInt8)(K0:(Int×Int×Int×List UInt8)→Option OX3)(e:Int×Int×Int×List UInt8):Option OX3 :=
 match e with
 | (t35,out_Kind,out_N,out_S) =>
  bif decide (t35 < t34) then
   bif inR t35 t33.length then
   (qk1 N ((q25 t33 t35 q30).2.1) out_N).bind fun r1 =>
   bif (r1 == c) then
    bif q27 (t35 + 1) then
    K0 (t35 + 1,(q25 t33 t35 q30).1,(q25 t33 t35 q30).2.1,(q25 t33 t35 q30).2.2.1)
    else none
   else
    bif q27 (t35 + 1) then
    K0 (t35 + 1,out_Kind,out_N,out_S)
    else none
   else none
  else
   some ((out_Kind,out_N,out_S,()),0,())
theorem vu5 (N:Nat)(c:Int)(t33:List q00)(t34 wl7 kp6:Int)(kj9:List UInt8)(n_:Nat)(e:Int×Int×Int×List UInt8):q58 (yk3 N ) n_ ((zw6 c t33 t34 wl7 kp6 kj9) e) ((zw0 c t33 t34 wl7 kp6 kj9) e)=q87 (zv3 N c t33 t34 wl7 kp6 kj9 ) n_ e :=
 q41 (zw6 c t33 t34 wl7 kp6 kj9) (zw0 c t33 t34 wl7 kp6 kj9) (by intro K e; obtain ⟨t35,out_Kind,out_N,out_S⟩:=e; kernel_rfl) n_ e
def jg8 (N:Nat)(c:Int)(l:List q00)(l1:Int→(List q00)→Int→Int→Int→(List UInt8)→(Int×Int×Int×List UInt8)→Option OX3):Option OX3 :=
 (q96 N l).bind fun r =>
 bif r.2.1 then
  some ((0,0,[],()),r.2.2.1,())
 else
  bif (r.2.2.1 != 0) then
   some ((0,0,[],()),r.2.2.1,())
  else
   bif ((r.1.length:Int) == 0) then
    some ((0,0,[],()),r.2.2.1,())
   else
    bif inR 0 r.1.length then
    l1 c r.1 (r.1.length:Int) 0 0 [] (0,(q25 r.1 0 q30).1,(q25 r.1 0 q30).2.1,(q25 r.1 0 q30).2.2.1)
    else none
def qf8 (N:Nat)(c:Int)(l:List q00):Option OX3:=jg8 N c l (fun c t33 t34 wl7 kp6 kj9 e=>q87 (zv3 N c t33 t34 wl7 kp6 kj9) N e)
noncomputable def x66 (N:Nat)(c:Int)(l:List q00):Option (RT [q05,(.int .i64)]):=q24 DR Tryz.prog N (j98 N) zf8 Tryz.f171 (q13 Tryz.f171) (RT [q05,(.int .i64)]) (qd4 [(.int .i64),(.list q05)] (c,l,())) [] (q42 [q05,(.int .i64)])
theorem v75 (N:Nat)(c:Int)(l:List q00):x66 N c l=qf8 N c l:=by
 have h:x66 N c l=jg8 N c l (fun c t33 t34 wl7 kp6 kj9 e=>q58 (yk3 N ) N (zw6 c t33 t34 wl7 kp6 kj9 e) (zw0 c t33 t34 wl7 kp6 kj9 e)):=by kernel_rfl
 rw [h]
 simp only [qf8,vu5] <;> rfl
def xy6 (m:Int→(List q00)→Option OX3):Ent:=q37 [(.int .i64),(.list q05)] [q05,(.int .i64)] fun (x:Els [(.int .i64),(.list q05)])=>m x.1 x.2.1
def zl9 (N:Nat):Ent:=xy6 (qf8 N)
theorem zz1 (N:Nat):q17 Tryz.prog 171 (zl9 N):=q16 (vt5 N) Tryz.func171 rfl (by kernel_rfl) fun (x:Els [(.int .i64),(.list q05)])=>v75 N x.1 x.2.1
def u76 :FH:=⟨[],[],[],[],false,[],[]⟩
noncomputable def x08 (N:Nat):q49:=tab [(171,zl9 N)]
theorem vt9 (N:Nat):q14 Tryz.prog (x08 N):=q06 (zz1 N) <| q28 _
def j96 (N:Nat)(l:List q00):Option OX3 :=
 (qf8 N (-1) l).bind fun r =>
 some r
noncomputable def u96 (N:Nat)(l:List q00):Option (RT [q05,(.int .i64)]):=q24 DR Tryz.prog N (x08 N) u76 Tryz.f104 (q13 Tryz.f104) (RT [q05,(.int .i64)]) (qd4 [(.list q05)] (l,())) [] (q42 [q05,(.int .i64)])
theorem v98 (N:Nat)(l:List q00):u96 N l=j96 N l:=by kernel_rfl
def xz5 (m:(List q00)→Option OX3):Ent:=q37 [(.list q05)] [q05,(.int .i64)] fun (x:Els [(.list q05)])=>m x.1
def js5 (N:Nat):Ent:=xz5 (j96 N)
theorem xg7 (N:Nat):q17 Tryz.prog 104 (js5 N):=q16 (vt9 N) Tryz.func104 rfl (by kernel_rfl) fun (x:Els [(.list q05)])=>v98 N x.1
def vm6 :FH:=⟨[],[],[],[],false,[],[]⟩
noncomputable def y52 (N:Nat):q49:=tab [(104,js5 N),(101,qh0 N)]
theorem xw4 (N:Nat):q14 Tryz.prog (y52 N):=q06 (xg7 N) <| q06 (qd6 N) <| q28 _
def wm3 (N:Nat)(l:List q00):Option q03 :=
 (j96 N l).bind fun r =>
 (qd1 N r.1 r.2.1).bind fun r1 =>
 some r1
noncomputable def vp4 (N:Nat)(l:List q00):Option (RT [q07]):=q24 DR Tryz.prog N (y52 N) vm6 Tryz.f103 (q13 Tryz.f103) (RT [q07]) (qd4 [(.list q05)] (l,())) [] (q42 [q07])
theorem xf8 (N:Nat)(l:List q00):vp4 N l=wm3 N l:=by kernel_rfl
def x92 (m:(List q00)→Option q03):Ent:=q37 [(.list q05)] [q07] fun (x:Els [(.list q05)])=>m x.1
def j29 (N:Nat):Ent:=x92 (wm3 N)
theorem ys5 (N:Nat):q17 Tryz.prog 103 (j29 N):=q16 (xw4 N) Tryz.func103 rfl (by kernel_rfl) fun (x:Els [(.list q05)])=>xf8 N x.1
def ww0 :LH:=⟨[(2,.asis),(3,.asis),(6,.asis),(7,.own q05 507 26 3),(10,.int .i64),(11,.int .i64)],[],[.cells [.lst q07,.lst .bool],.cells [.int .u8,.int .i64,.str,.int .i64]]⟩
def qq4 :FH:=⟨[ww0],[],[],[],false,[],[]⟩
noncomputable def w96 (N:Nat):q49:=tab [(153,q53 N),(103,j29 N)]
theorem jz6 (N:Nat):q14 Tryz.prog (w96 N):=q06 (q50 N) <| q06 (ys5 N) <| q28 _
noncomputable def z29 :Sc:=wm4 Tryz.prog qq4
noncomputable def z37 (N:Nat):Cfg:=⟨N,w96 N,0⟩
noncomputable def jp5 (N:Nat):Exit→List TV→List TOb→Option q03:=fin Tryz.prog 0 Tryz.f99.results.toList (q42 [q07])
def w12 (n:Int)(k_l:List q03)(q09:List Bool)(q04 q21:Int)(q22:List UInt8)(q63:Int)(e:List q00×Int):List TV:=match e with
 | (l,t11)=>frm 30 [(2,.func (.func 103) []),(3,.ref 0 0),(6,.ref 1 0),(7,.tl q05 l (.own 507 26 3)),(10,.int .i64 n),(11,.int .i64 t11)]
def w10 (n:Int)(k_l:List q03)(q09:List Bool)(q04 q21:Int)(q22:List UInt8)(q63:Int)(e:List q00×Int):List TOb:=match e with
 | (l,t11)=>[.cells [.tl q07 k_l .unk,.tl .bool q09 .unk] 118 true,.cells [.int .u8 q04,.int .i64 q21,.str q22,.int .i64 q63] 115 true]
noncomputable def wz9 (N:Nat):(List TV→List TOb→Option q03)→List TV→List TOb→Option q03:=w66 DR z29 (z37 N) (qm3 (qc6 (q08 (q88 (q08 (q08 (q13 Tryz.f99))))))) ww0 (qq4.loops.drop 1) (qj9 0 (qc5 DR z29 (z37 N) (q08 (q08 (q08 (q13 Tryz.f99)))) (qq4.loops.drop 1) (jp5 N)))
def w15 (N:Nat)(n:Int)(k_l:List q03)(q09:List Bool)(q04 q21:Int)(q22:List UInt8)(q63:Int)(K0:(List q00×Int)→Option q03)(e:List q00×Int):Option q03 :=
 match e with
 | (l,t11) =>
  bif decide (t11 < n) then
   (q59 N (k_l,q09,()) t11).bind fun r =>
   bif (r.2.1 != 0) then
    some r
   else
    bif w33 (l.length + ([r.1]:List q00).length) 4398046511104 then
    bif q27 (t11 + 1) then
    K0 ((l ++ ([r.1]:List q00)),t11 + 1)
    else none
    else none
  else
   (wm3 N l).bind fun r1 =>
   some r1
theorem y68 (N:Nat)(n:Int)(k_l:List q03)(q09:List Bool)(q04 q21:Int)(q22:List UInt8)(q63:Int)(n_:Nat)(e:List q00×Int):q58 (wz9 N ) n_ ((w12 n k_l q09 q04 q21 q22 q63) e) ((w10 n k_l q09 q04 q21 q22 q63) e)=q87 (w15 N n k_l q09 q04 q21 q22 q63 ) n_ e :=
 q41 (w12 n k_l q09 q04 q21 q22 q63) (w10 n k_l q09 q04 q21 q22 q63) (by intro K e; obtain ⟨l,t11⟩:=e; kernel_rfl) n_ e
def zb0 (N:Nat)(k:q34)(n:Int)(l1:Int→(List q03)→(List Bool)→Int→Int→(List UInt8)→Int→(List q00×Int)→Option q03):Option q03 :=
 l1 n k.1 k.2.1 0 0 [] 0 ([],0)
def qh5 (N:Nat)(k:q34)(n:Int):Option q03:=zb0 N k n (fun n k_l q09 q04 q21 q22 q63 e=>q87 (w15 N n k_l q09 q04 q21 q22 q63) N e)
abbrev z26 :List PK:=[.val q66,.val (.int .i64),.fn 103 0]
noncomputable def za7 (N:Nat)(k:q34)(n:Int):Option (RT [q07]):=q24 DR Tryz.prog N (w96 N) qq4 Tryz.f99 (q13 Tryz.f99) (RT [q07]) (qy6 z26 (k,n,())) [] (q42 [q07])
theorem jl2 (N:Nat)(k:q34)(n:Int):za7 N k n=qh5 N k n:=by
 have h:za7 N k n=zb0 N k n (fun n k_l q09 q04 q21 q22 q63 e=>q58 (wz9 N ) N (w12 n k_l q09 q04 q21 q22 q63 e) (w10 n k_l q09 q04 q21 q22 q63 e)):=by kernel_rfl
 rw [h]
 simp only [qh5,y68] <;> rfl
def jh0 (m:q34→Int→Option q03):Ent:=qf3 z26 [q07] fun (x:Els [q66,(.int .i64)])=>m x.1 x.2.1
def wo4 (N:Nat):Ent:=jh0 (qh5 N)
theorem j27 (N:Nat):q17 Tryz.prog 99 (wo4 N):=q52 (jz6 N) Tryz.func99 rfl (by kernel_rfl) (by kernel_rfl) fun (x:Els [q66,(.int .i64)])=>jl2 N x.1 x.2.1
def uu1 :FH:=⟨[],[],[],[],false,[],[]⟩
noncomputable def xt6 (N:Nat):q49:=tab [(171,zl9 N)]
theorem ub4 (N:Nat):q14 Tryz.prog (xt6 N):=q06 (zz1 N) <| q28 _
def y80 (N:Nat)(l:List q00):Option OX3 :=
 (qf8 N 1 l).bind fun r =>
 some r
noncomputable def ut0 (N:Nat)(l:List q00):Option (RT [q05,(.int .i64)]):=q24 DR Tryz.prog N (xt6 N) uu1 Tryz.f106 (q13 Tryz.f106) (RT [q05,(.int .i64)]) (qd4 [(.list q05)] (l,())) [] (q42 [q05,(.int .i64)])
theorem vx5 (N:Nat)(l:List q00):ut0 N l=y80 N l:=by kernel_rfl
def vj3 (m:(List q00)→Option OX3):Ent:=q37 [(.list q05)] [q05,(.int .i64)] fun (x:Els [(.list q05)])=>m x.1
def yj6 (N:Nat):Ent:=vj3 (y80 N)
theorem v02 (N:Nat):q17 Tryz.prog 106 (yj6 N):=q16 (ub4 N) Tryz.func106 rfl (by kernel_rfl) fun (x:Els [(.list q05)])=>vx5 N x.1
def v67 :FH:=⟨[],[],[],[],false,[],[]⟩
noncomputable def jx6 (N:Nat):q49:=tab [(106,yj6 N),(101,qh0 N)]
theorem xx9 (N:Nat):q14 Tryz.prog (jx6 N):=q06 (v02 N) <| q06 (qd6 N) <| q28 _
def wh9 (N:Nat)(l:List q00):Option q03 :=
 (y80 N l).bind fun r =>
 (qd1 N r.1 r.2.1).bind fun r1 =>
 some r1
noncomputable def v85 (N:Nat)(l:List q00):Option (RT [q07]):=q24 DR Tryz.prog N (jx6 N) v67 Tryz.f105 (q13 Tryz.f105) (RT [q07]) (qd4 [(.list q05)] (l,())) [] (q42 [q07])
theorem xg8 (N:Nat)(l:List q00):v85 N l=wh9 N l:=by kernel_rfl
def x02 (m:(List q00)→Option q03):Ent:=q37 [(.list q05)] [q07] fun (x:Els [(.list q05)])=>m x.1
def j46 (N:Nat):Ent:=x02 (wh9 N)
theorem yn3 (N:Nat):q17 Tryz.prog 105 (j46 N):=q16 (xx9 N) Tryz.func105 rfl (by kernel_rfl) fun (x:Els [(.list q05)])=>xg8 N x.1
def z20 :LH:=⟨[(2,.asis),(3,.asis),(6,.asis),(7,.own q05 507 26 3),(10,.int .i64),(11,.int .i64)],[],[.cells [.lst q07,.lst .bool],.cells [.int .u8,.int .i64,.str,.int .i64]]⟩
def qq7 :FH:=⟨[z20],[],[],[],false,[],[]⟩
noncomputable def w87 (N:Nat):q49:=tab [(153,q53 N),(105,j46 N)]
theorem jx8 (N:Nat):q14 Tryz.prog (w87 N):=q06 (q50 N) <| q06 (yn3 N) <| q28 _
noncomputable def wx5 :Sc:=wm4 Tryz.prog qq7
noncomputable def wz8 (N:Nat):Cfg:=⟨N,w87 N,0⟩
noncomputable def jn2 (N:Nat):Exit→List TV→List TOb→Option q03:=fin Tryz.prog 0 Tryz.f99.results.toList (q42 [q07])
def w07 (n:Int)(k_l:List q03)(q09:List Bool)(q04 q21:Int)(q22:List UInt8)(q63:Int)(e:List q00×Int):List TV:=match e with
 | (l,t11)=>frm 30 [(2,.func (.func 105) []),(3,.ref 0 0),(6,.ref 1 0),(7,.tl q05 l (.own 507 26 3)),(10,.int .i64 n),(11,.int .i64 t11)]
def w08 (n:Int)(k_l:List q03)(q09:List Bool)(q04 q21:Int)(q22:List UInt8)(q63:Int)(e:List q00×Int):List TOb:=match e with
 | (l,t11)=>[.cells [.tl q07 k_l .unk,.tl .bool q09 .unk] 118 true,.cells [.int .u8 q04,.int .i64 q21,.str q22,.int .i64 q63] 115 true]
noncomputable def ww9 (N:Nat):(List TV→List TOb→Option q03)→List TV→List TOb→Option q03:=w66 DR wx5 (wz8 N) (qm3 (qc6 (q08 (q88 (q08 (q08 (q13 Tryz.f99))))))) z20 (qq7.loops.drop 1) (qj9 0 (qc5 DR wx5 (wz8 N) (q08 (q08 (q08 (q13 Tryz.f99)))) (qq7.loops.drop 1) (jn2 N)))
def w25 (N:Nat)(n:Int)(k_l:List q03)(q09:List Bool)(q04 q21:Int)(q22:List UInt8)(q63:Int)(K0:(List q00×Int)→Option q03)(e:List q00×Int):Option q03 :=
 match e with
 | (l,t11) =>
  bif decide (t11 < n) then
   (q59 N (k_l,q09,()) t11).bind fun r =>
   bif (r.2.1 != 0) then
    some r
   else
    bif w33 (l.length + ([r.1]:List q00).length) 4398046511104 then
    bif q27 (t11 + 1) then
    K0 ((l ++ ([r.1]:List q00)),t11 + 1)
    else none
    else none
  else
   (wh9 N l).bind fun r1 =>
   some r1
theorem jr6 (N:Nat)(n:Int)(k_l:List q03)(q09:List Bool)(q04 q21:Int)(q22:List UInt8)(q63:Int)(n_:Nat)(e:List q00×Int):q58 (ww9 N ) n_ ((w07 n k_l q09 q04 q21 q22 q63) e) ((w08 n k_l q09 q04 q21 q22 q63) e)=q87 (w25 N n k_l q09 q04 q21 q22 q63 ) n_ e :=
 q41 (w07 n k_l q09 q04 q21 q22 q63) (w08 n k_l q09 q04 q21 q22 q63) (by intro K e; obtain ⟨l,t11⟩:=e; kernel_rfl) n_ e
def zc5 (N:Nat)(k:q34)(n:Int)(l1:Int→(List q03)→(List Bool)→Int→Int→(List UInt8)→Int→(List q00×Int)→Option q03):Option q03 :=
 l1 n k.1 k.2.1 0 0 [] 0 ([],0)
def qi0 (N:Nat)(k:q34)(n:Int):Option q03:=zc5 N k n (fun n k_l q09 q04 q21 q22 q63 e=>q87 (w25 N n k_l q09 q04 q21 q22 q63) N e)
abbrev wx7 :List PK:=[.val q66,.val (.int .i64),.fn 105 0]
noncomputable def z70 (N:Nat)(k:q34)(n:Int):Option (RT [q07]):=q24 DR Tryz.prog N (w87 N) qq7 Tryz.f99 (q13 Tryz.f99) (RT [q07]) (qy6 wx7 (k,n,())) [] (q42 [q07])
theorem jo6 (N:Nat)(k:q34)(n:Int):z70 N k n=qi0 N k n:=by
 have h:z70 N k n=zc5 N k n (fun n k_l q09 q04 q21 q22 q63 e=>q58 (ww9 N ) N (w07 n k_l q09 q04 q21 q22 q63 e) (w08 n k_l q09 q04 q21 q22 q63 e)):=by kernel_rfl
 rw [h]
 simp only [qi0,jr6] <;> rfl
def jc5 (m:q34→Int→Option q03):Ent:=qf3 wx7 [q07] fun (x:Els [q66,(.int .i64)])=>m x.1 x.2.1
def wo7 (N:Nat):Ent:=jc5 (qi0 N)
theorem j15 (N:Nat):q17 Tryz.prog 99 (wo7 N):=q52 (jx8 N) Tryz.func99 rfl (by kernel_rfl) (by kernel_rfl) fun (x:Els [q66,(.int .i64)])=>jo6 N x.1 x.2.1
def q0a :FH:=⟨[],[],[],[],false,[],[]⟩
noncomputable def u55 (N:Nat):q49:=tab [(159,qe5 N),(76,q93 N),(102,jf8 N),(101,qh0 N)]
theorem k78 (N:Nat):q14 Tryz.prog (u55 N):=q06 (qc9 N) <| q06 (q82 N) <| q06 (js1 N) <| q06 (qd6 N) <| q28 _
def y82 (N:Nat)(l:List q00):Option q03 :=
 (qb1 N 1 2 l).bind fun r =>
 bif (!r) then
  (qd8 N 8).bind fun r1 =>
  some r1
 else
  bif inR 0 l.length then
  bif decide (((q25 l 0 q30).2.1) < 0) then
   bif inR 0 l.length then
   (j49 N (q25 l 0 q30)).bind fun r2 =>
   (qd1 N r2.1 r2.2.1).bind fun r3 =>
   some r3
   else none
  else
   bif inR 0 l.length then
   some ((q25 l 0 q30),0,())
   else none
  else none
noncomputable def ku5 (N:Nat)(l:List q00):Option (RT [q07]):=q24 DR Tryz.prog N (u55 N) q0a Tryz.f107 (q13 Tryz.f107) (RT [q07]) (qd4 [(.list q05)] (l,())) [] (q42 [q07])
theorem k50 (N:Nat)(l:List q00):ku5 N l=y82 N l:=by kernel_rfl
def u66 (m:(List q00)→Option q03):Ent:=q37 [(.list q05)] [q07] fun (x:Els [(.list q05)])=>m x.1
def xs7 (N:Nat):Ent:=u66 (y82 N)
theorem vt1 (N:Nat):q17 Tryz.prog 107 (xs7 N):=q16 (k78 N) Tryz.func107 rfl (by kernel_rfl) fun (x:Els [(.list q05)])=>k50 N x.1
end Go.Proofs.YtgicljncknbgcaaGreat.Abs
