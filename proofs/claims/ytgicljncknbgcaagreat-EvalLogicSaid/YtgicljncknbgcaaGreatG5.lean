/- The functions of the program, told on typed values, printed by a program: each tells what the reckoning of its body tells. -/
import Derived.Test.YtgicljncknbgcaaGreatL7
import Derived.Test.YtgicljncknbgcaaGreatG4
import Derived.Test.YtgicljncknbgcaaGreatLA
import Derived.Test.YtgicljncknbgcaaGreatProg
set_option linter.unusedVariables false
set_option linter.unusedSimpArgs false
set_option linter.unusedSectionVars false
namespace Go.Proofs.YtgicljncknbgcaaGreat.Abs
set_option maxRecDepth 100000
open Go Go.Proofs
def zc6 :LH:=⟨[(2,.asis),(3,.asis),(6,.asis),(7,.own q05 507 26 3),(10,.int .i64),(11,.int .i64)],[],[.cells [.lst q07,.lst .bool],.cells [.int .u8,.int .i64,.str,.int .i64]]⟩
def qw2 :FH:=⟨[zc6],[],[],[],false,[],[]⟩
noncomputable def wd7 (N:Nat):q49:=tab [(153,q53 N),(158,z00 N)]
theorem yc2 (N:Nat):q14 Tryz.prog (wd7 N):=q06 (q50 N) <| q06 (jh5 N) <| q28 _
noncomputable def zb3 :Sc:=wm4 Tryz.prog qw2
noncomputable def zb1 (N:Nat):Cfg:=⟨N,wd7 N,0⟩
noncomputable def jx3 (N:Nat):Exit→List TV→List TOb→Option q03:=fin Tryz.prog 0 Tryz.f99.results.toList (q42 [q07])
def w95 (n:Int)(k_l:List q03)(q09:List Bool)(q04 q21:Int)(q22:List UInt8)(q63:Int)(e:List q00×Int):List TV:=match e with
 | (l,t11)=>frm 30 [(2,.func (.func 158) [.ep [.func (.func 84) []] 0]),(3,.ref 0 0),(6,.ref 1 0),(7,.tl q05 l (.own 507 26 3)),(10,.int .i64 n),(11,.int .i64 t11)]
def wa1 (n:Int)(k_l:List q03)(q09:List Bool)(q04 q21:Int)(q22:List UInt8)(q63:Int)(e:List q00×Int):List TOb:=match e with
 | (l,t11)=>[.cells [.tl q07 k_l .unk,.tl .bool q09 .unk] 118 true,.cells [.int .u8 q04,.int .i64 q21,.str q22,.int .i64 q63] 115 true]
noncomputable def z79 (N:Nat):(List TV→List TOb→Option q03)→List TV→List TOb→Option q03:=w66 DR zb3 (zb1 N) (qm3 (qc6 (q08 (q88 (q08 (q08 (q13 Tryz.f99))))))) zc6 (qw2.loops.drop 1) (qj9 0 (qc5 DR zb3 (zb1 N) (q08 (q08 (q08 (q13 Tryz.f99)))) (qw2.loops.drop 1) (jx3 N)))
def w80 (N:Nat)(n:Int)(k_l:List q03)(q09:List Bool)(q04 q21:Int)(q22:List UInt8)(q63:Int)(K0:(List q00×Int)→Option q03)(e:List q00×Int):Option q03 :=
 match e with
 | (l,t11) =>
  bif decide (t11 < n) then
   (q59 N (k_l,q09,()) t11).bind fun r =>
   bif (r.2.1 != 0) then
    some r
   else
    bif w33 (l.length + ([r.1]:List q00).length) 4398046511104 then
    bif q27 (t11 + 1) then
    K0 ((l ++ ([r.1]:List q00)),t11 + 1)
    else none
    else none
  else
   (qs6 N l).bind fun r1 =>
   some r1
theorem yf6 (N:Nat)(n:Int)(k_l:List q03)(q09:List Bool)(q04 q21:Int)(q22:List UInt8)(q63:Int)(n_:Nat)(e:List q00×Int):q58 (z79 N ) n_ ((w95 n k_l q09 q04 q21 q22 q63) e) ((wa1 n k_l q09 q04 q21 q22 q63) e)=q87 (w80 N n k_l q09 q04 q21 q22 q63 ) n_ e :=
 q41 (w95 n k_l q09 q04 q21 q22 q63) (wa1 n k_l q09 q04 q21 q22 q63) (by intro K e; obtain ⟨l,t11⟩:=e; kernel_rfl) n_ e
def zi7 (N:Nat)(k:q34)(n:Int)(l1:Int→(List q03)→(List Bool)→Int→Int→(List UInt8)→Int→(List q00×Int)→Option q03):Option q03 :=
 l1 n k.1 k.2.1 0 0 [] 0 ([],0)
def qt2 (N:Nat)(k:q34)(n:Int):Option q03:=zi7 N k n (fun n k_l q09 q04 q21 q22 q63 e=>q87 (w80 N n k_l q09 q04 q21 q22 q63) N e)
abbrev z95 :List PK:=[.val q66,.val (.int .i64),.fn 158 1,.ep 1,.fn 84 0]
noncomputable def zk9 (N:Nat)(k:q34)(n:Int):Option (RT [q07]):=q24 DR Tryz.prog N (wd7 N) qw2 Tryz.f99 (q13 Tryz.f99) (RT [q07]) (qy6 z95 (k,n,())) [] (q42 [q07])
theorem jz5 (N:Nat)(k:q34)(n:Int):zk9 N k n=qt2 N k n:=by
 have h:zk9 N k n=zi7 N k n (fun n k_l q09 q04 q21 q22 q63 e=>q58 (z79 N ) N (w95 n k_l q09 q04 q21 q22 q63 e) (wa1 n k_l q09 q04 q21 q22 q63 e)):=by kernel_rfl
 rw [h]
 simp only [qt2,yf6] <;> rfl
def jn1 (m:q34→Int→Option q03):Ent:=qf3 z95 [q07] fun (x:Els [q66,(.int .i64)])=>m x.1 x.2.1
def z38 (N:Nat):Ent:=jn1 (qt2 N)
theorem jg6 (N:Nat):q17 Tryz.prog 99 (z38 N):=q52 (yc2 N) Tryz.func99 rfl (by kernel_rfl) (by kernel_rfl) fun (x:Els [q66,(.int .i64)])=>jz5 N x.1 x.2.1
def vd2 :FH:=⟨[],[],[],[],false,[],[]⟩
noncomputable def jr4 (N:Nat):q49:=tab []
theorem xz2 (N:Nat):q14 Tryz.prog (jr4 N):=q28 _
def wi7 (N:Nat)(c:Int):Option Bool :=
 some (decide (c≤0))
noncomputable def vp5 (N:Nat)(c:Int):Option (RT [.bool]):=q24 DR Tryz.prog N (jr4 N) vd2 Tryz.f85 (q13 Tryz.f85) (RT [.bool]) (qd4 [(.int .i64)] (c,())) [] (q42 [.bool])
theorem xg6 (N:Nat)(c:Int):vp5 N c=wi7 N c:=by kernel_rfl
def x74 (m:Int→Option Bool):Ent:=q37 [(.int .i64)] [.bool] fun (x:Els [(.int .i64)])=>m x.1
def j16 (N:Nat):Ent:=x74 (wi7 N)
theorem yl2 (N:Nat):q17 Tryz.prog 85 (j16 N):=q16 (xz2 N) Tryz.func85 rfl (by kernel_rfl) fun (x:Els [(.int .i64)])=>xg6 N x.1
def jo4 :FH:=⟨[],[],[(5,⟨11,35,0,[],[]⟩)],[],false,[],[]⟩
noncomputable def wo8 (N:Nat):q49:=tab [(159,qe5 N),(76,q93 N),(157,qb3 N),(155,qk3 N),(85,j16 N),(90,qd0 N)]
theorem ja6 (N:Nat):q14 Tryz.prog (wo8 N):=q06 (qc9 N) <| q06 (q82 N) <| q06 (qa7 N) <| q06 (ql4 N) <| q06 (yl2 N) <| q06 (qb9 N) <| q28 _
def qi5 (N:Nat)(l:List q00):Option q03 :=
 (qb1 N 1 2 l).bind fun r =>
 bif (!r) then
  (qb1 N 3 3 l).bind fun r1 =>
  bif (!r1) then
   (qd8 N 8).bind fun r2 =>
   some r2
  else
   (q83 N l).bind fun r3 =>
   bif r3 then
    some ((0,0,[],()),0,())
   else
    bif inR 0 l.length then
    bif inR 1 l.length then
    (q92 N (q25 l 0 q30) (q25 l 1 q30)).bind fun r4 =>
    (wi7 N r4.1).bind fun r5 =>
    (q97 N r5).bind fun r6 =>
    some (r6,0,())
    else none
    else none
 else
  (q83 N l).bind fun r7 =>
  bif r7 then
   some ((0,0,[],()),0,())
  else
   bif inR 0 l.length then
   bif inR 1 l.length then
   (q92 N (q25 l 0 q30) (q25 l 1 q30)).bind fun r8 =>
   (wi7 N r8.1).bind fun r9 =>
   (q97 N r9).bind fun r10 =>
   some (r10,0,())
   else none
   else none
abbrev wm2 :List PK:=[.val (.list q05),.ep 1,.fn 85 0]
noncomputable def jm6 (N:Nat)(l:List q00):Option (RT [q07]):=q24 DR Tryz.prog N (wo8 N) jo4 Tryz.f158 (q13 Tryz.f158) (RT [q07]) (qy6 wm2 (l,())) [] (q42 [q07])
theorem zz3 (N:Nat)(l:List q00):jm6 N l=qi5 N l:=by kernel_rfl
def zu6 (m:(List q00)→Option q03):Ent:=qf3 wm2 [q07] fun (x:Els [(.list q05)])=>m x.1
def wg8 (N:Nat):Ent:=zu6 (qi5 N)
theorem zp8 (N:Nat):q17 Tryz.prog 158 (wg8 N):=q52 (ja6 N) Tryz.func158 rfl (by kernel_rfl) (by kernel_rfl) fun (x:Els [(.list q05)])=>zz3 N x.1
def zf2 :LH:=⟨[(2,.asis),(3,.asis),(6,.asis),(7,.own q05 507 26 3),(10,.int .i64),(11,.int .i64)],[],[.cells [.lst q07,.lst .bool],.cells [.int .u8,.int .i64,.str,.int .i64]]⟩
def qw6 :FH:=⟨[zf2],[],[],[],false,[],[]⟩
noncomputable def we6 (N:Nat):q49:=tab [(153,q53 N),(158,wg8 N)]
theorem yd7 (N:Nat):q14 Tryz.prog (we6 N):=q06 (q50 N) <| q06 (zp8 N) <| q28 _
noncomputable def z75 :Sc:=wm4 Tryz.prog qw6
noncomputable def zc1 (N:Nat):Cfg:=⟨N,we6 N,0⟩
noncomputable def jt7 (N:Nat):Exit→List TV→List TOb→Option q03:=fin Tryz.prog 0 Tryz.f99.results.toList (q42 [q07])
def w62 (n:Int)(k_l:List q03)(q09:List Bool)(q04 q21:Int)(q22:List UInt8)(q63:Int)(e:List q00×Int):List TV:=match e with
 | (l,t11)=>frm 30 [(2,.func (.func 158) [.ep [.func (.func 85) []] 0]),(3,.ref 0 0),(6,.ref 1 0),(7,.tl q05 l (.own 507 26 3)),(10,.int .i64 n),(11,.int .i64 t11)]
def w76 (n:Int)(k_l:List q03)(q09:List Bool)(q04 q21:Int)(q22:List UInt8)(q63:Int)(e:List q00×Int):List TOb:=match e with
 | (l,t11)=>[.cells [.tl q07 k_l .unk,.tl .bool q09 .unk] 118 true,.cells [.int .u8 q04,.int .i64 q21,.str q22,.int .i64 q63] 115 true]
noncomputable def za5 (N:Nat):(List TV→List TOb→Option q03)→List TV→List TOb→Option q03:=w66 DR z75 (zc1 N) (qm3 (qc6 (q08 (q88 (q08 (q08 (q13 Tryz.f99))))))) zf2 (qw6.loops.drop 1) (qj9 0 (qc5 DR z75 (zc1 N) (q08 (q08 (q08 (q13 Tryz.f99)))) (qw6.loops.drop 1) (jt7 N)))
def w94 (N:Nat)(n:Int)(k_l:List q03)(q09:List Bool)(q04 q21:Int)(q22:List UInt8)(q63:Int)(K0:(List q00×Int)→Option q03)(e:List q00×Int):Option q03 :=
 match e with
 | (l,t11) =>
  bif decide (t11 < n) then
   (q59 N (k_l,q09,()) t11).bind fun r =>
   bif (r.2.1 != 0) then
    some r
   else
    bif w33 (l.length + ([r.1]:List q00).length) 4398046511104 then
    bif q27 (t11 + 1) then
    K0 ((l ++ ([r.1]:List q00)),t11 + 1)
    else none
    else none
  else
   (qi5 N l).bind fun r1 =>
   some r1
theorem yg3 (N:Nat)(n:Int)(k_l:List q03)(q09:List Bool)(q04 q21:Int)(q22:List UInt8)(q63:Int)(n_:Nat)(e:List q00×Int):q58 (za5 N ) n_ ((w62 n k_l q09 q04 q21 q22 q63) e) ((w76 n k_l q09 q04 q21 q22 q63) e)=q87 (w94 N n k_l q09 q04 q21 q22 q63 ) n_ e :=
 q41 (w62 n k_l q09 q04 q21 q22 q63) (w76 n k_l q09 q04 q21 q22 q63) (by intro K e; obtain ⟨l,t11⟩:=e; kernel_rfl) n_ e
def zm2 (N:Nat)(k:q34)(n:Int)(l1:Int→(List q03)→(List Bool)→Int→Int→(List UInt8)→Int→(List q00×Int)→Option q03):Option q03 :=
 l1 n k.1 k.2.1 0 0 [] 0 ([],0)
def qu1 (N:Nat)(k:q34)(n:Int):Option q03:=zm2 N k n (fun n k_l q09 q04 q21 q22 q63 e=>q87 (w94 N n k_l q09 q04 q21 q22 q63) N e)
abbrev za0 :List PK:=[.val q66,.val (.int .i64),.fn 158 1,.ep 1,.fn 85 0]
noncomputable def zj7 (N:Nat)(k:q34)(n:Int):Option (RT [q07]):=q24 DR Tryz.prog N (we6 N) qw6 Tryz.f99 (q13 Tryz.f99) (RT [q07]) (qy6 za0 (k,n,())) [] (q42 [q07])
theorem jz7 (N:Nat)(k:q34)(n:Int):zj7 N k n=qu1 N k n:=by
 have h:zj7 N k n=zm2 N k n (fun n k_l q09 q04 q21 q22 q63 e=>q58 (za5 N ) N (w62 n k_l q09 q04 q21 q22 q63 e) (w76 n k_l q09 q04 q21 q22 q63 e)):=by kernel_rfl
 rw [h]
 simp only [qu1,yg3] <;> rfl
def jl6 (m:q34→Int→Option q03):Ent:=qf3 za0 [q07] fun (x:Els [q66,(.int .i64)])=>m x.1 x.2.1
def ww7 (N:Nat):Ent:=jl6 (qu1 N)
theorem jc8 (N:Nat):q17 Tryz.prog 99 (ww7 N):=q52 (yd7 N) Tryz.func99 rfl (by kernel_rfl) (by kernel_rfl) fun (x:Els [q66,(.int .i64)])=>jz7 N x.1 x.2.1
def v42 :FH:=⟨[],[],[],[],false,[],[]⟩
noncomputable def y50 (N:Nat):q49:=tab []
theorem v08 (N:Nat):q14 Tryz.prog (y50 N):=q28 _
def wi3 (N:Nat)(c:Int):Option Bool :=
 some (decide (c > 0))
noncomputable def vi2 (N:Nat)(c:Int):Option (RT [.bool]):=q24 DR Tryz.prog N (y50 N) v42 Tryz.f86 (q13 Tryz.f86) (RT [.bool]) (qd4 [(.int .i64)] (c,())) [] (q42 [.bool])
theorem xa3 (N:Nat)(c:Int):vi2 N c=wi3 N c:=by kernel_rfl
def x48 (m:Int→Option Bool):Ent:=q37 [(.int .i64)] [.bool] fun (x:Els [(.int .i64)])=>m x.1
def zx4 (N:Nat):Ent:=x48 (wi3 N)
theorem yt8 (N:Nat):q17 Tryz.prog 86 (zx4 N):=q16 (v08 N) Tryz.func86 rfl (by kernel_rfl) fun (x:Els [(.int .i64)])=>xa3 N x.1
def jn0 :FH:=⟨[],[],[(5,⟨11,35,0,[],[]⟩)],[],false,[],[]⟩
noncomputable def wm9 (N:Nat):q49:=tab [(159,qe5 N),(76,q93 N),(157,qb3 N),(155,qk3 N),(86,zx4 N),(90,qd0 N)]
theorem ja8 (N:Nat):q14 Tryz.prog (wm9 N):=q06 (qc9 N) <| q06 (q82 N) <| q06 (qa7 N) <| q06 (ql4 N) <| q06 (yt8 N) <| q06 (qb9 N) <| q28 _
def qi8 (N:Nat)(l:List q00):Option q03 :=
 (qb1 N 1 2 l).bind fun r =>
 bif (!r) then
  (qb1 N 3 3 l).bind fun r1 =>
  bif (!r1) then
   (qd8 N 8).bind fun r2 =>
   some r2
  else
   (q83 N l).bind fun r3 =>
   bif r3 then
    some ((0,0,[],()),0,())
   else
    bif inR 0 l.length then
    bif inR 1 l.length then
    (q92 N (q25 l 0 q30) (q25 l 1 q30)).bind fun r4 =>
    (wi3 N r4.1).bind fun r5 =>
    (q97 N r5).bind fun r6 =>
    some (r6,0,())
    else none
    else none
 else
  (q83 N l).bind fun r7 =>
  bif r7 then
   some ((0,0,[],()),0,())
  else
   bif inR 0 l.length then
   bif inR 1 l.length then
   (q92 N (q25 l 0 q30) (q25 l 1 q30)).bind fun r8 =>
   (wi3 N r8.1).bind fun r9 =>
   (q97 N r9).bind fun r10 =>
   some (r10,0,())
   else none
   else none
abbrev wh5 :List PK:=[.val (.list q05),.ep 1,.fn 86 0]
noncomputable def jm8 (N:Nat)(l:List q00):Option (RT [q07]):=q24 DR Tryz.prog N (wm9 N) jn0 Tryz.f158 (q13 Tryz.f158) (RT [q07]) (qy6 wh5 (l,())) [] (q42 [q07])
theorem j50 (N:Nat)(l:List q00):jm8 N l=qi8 N l:=by kernel_rfl
def zw3 (m:(List q00)→Option q03):Ent:=qf3 wh5 [q07] fun (x:Els [(.list q05)])=>m x.1
def wg3 (N:Nat):Ent:=zw3 (qi8 N)
theorem zq1 (N:Nat):q17 Tryz.prog 158 (wg3 N):=q52 (ja8 N) Tryz.func158 rfl (by kernel_rfl) (by kernel_rfl) fun (x:Els [(.list q05)])=>j50 N x.1
def zb2 :LH:=⟨[(2,.asis),(3,.asis),(6,.asis),(7,.own q05 507 26 3),(10,.int .i64),(11,.int .i64)],[],[.cells [.lst q07,.lst .bool],.cells [.int .u8,.int .i64,.str,.int .i64]]⟩
def qv0 :FH:=⟨[zb2],[],[],[],false,[],[]⟩
noncomputable def wd8 (N:Nat):q49:=tab [(153,q53 N),(158,wg3 N)]
theorem yc3 (N:Nat):q14 Tryz.prog (wd8 N):=q06 (q50 N) <| q06 (zq1 N) <| q28 _
noncomputable def z62 :Sc:=wm4 Tryz.prog qv0
noncomputable def zb7 (N:Nat):Cfg:=⟨N,wd8 N,0⟩
noncomputable def jx5 (N:Nat):Exit→List TV→List TOb→Option q03:=fin Tryz.prog 0 Tryz.f99.results.toList (q42 [q07])
def w83 (n:Int)(k_l:List q03)(q09:List Bool)(q04 q21:Int)(q22:List UInt8)(q63:Int)(e:List q00×Int):List TV:=match e with
 | (l,t11)=>frm 30 [(2,.func (.func 158) [.ep [.func (.func 86) []] 0]),(3,.ref 0 0),(6,.ref 1 0),(7,.tl q05 l (.own 507 26 3)),(10,.int .i64 n),(11,.int .i64 t11)]
def w61 (n:Int)(k_l:List q03)(q09:List Bool)(q04 q21:Int)(q22:List UInt8)(q63:Int)(e:List q00×Int):List TOb:=match e with
 | (l,t11)=>[.cells [.tl q07 k_l .unk,.tl .bool q09 .unk] 118 true,.cells [.int .u8 q04,.int .i64 q21,.str q22,.int .i64 q63] 115 true]
noncomputable def zd5 (N:Nat):(List TV→List TOb→Option q03)→List TV→List TOb→Option q03:=w66 DR z62 (zb7 N) (qm3 (qc6 (q08 (q88 (q08 (q08 (q13 Tryz.f99))))))) zb2 (qv0.loops.drop 1) (qj9 0 (qc5 DR z62 (zb7 N) (q08 (q08 (q08 (q13 Tryz.f99)))) (qv0.loops.drop 1) (jx5 N)))
def w92 (N:Nat)(n:Int)(k_l:List q03)(q09:List Bool)(q04 q21:Int)(q22:List UInt8)(q63:Int)(K0:(List q00×Int)→Option q03)(e:List q00×Int):Option q03 :=
 match e with
 | (l,t11) =>
  bif decide (t11 < n) then
   (q59 N (k_l,q09,()) t11).bind fun r =>
   bif (r.2.1 != 0) then
    some r
   else
    bif w33 (l.length + ([r.1]:List q00).length) 4398046511104 then
    bif q27 (t11 + 1) then
    K0 ((l ++ ([r.1]:List q00)),t11 + 1)
    else none
    else none
  else
   (qi8 N l).bind fun r1 =>
   some r1
theorem yc6 (N:Nat)(n:Int)(k_l:List q03)(q09:List Bool)(q04 q21:Int)(q22:List UInt8)(q63:Int)(n_:Nat)(e:List q00×Int):q58 (zd5 N ) n_ ((w83 n k_l q09 q04 q21 q22 q63) e) ((w61 n k_l q09 q04 q21 q22 q63) e)=q87 (w92 N n k_l q09 q04 q21 q22 q63 ) n_ e :=
 q41 (w83 n k_l q09 q04 q21 q22 q63) (w61 n k_l q09 q04 q21 q22 q63) (by intro K e; obtain ⟨l,t11⟩:=e; kernel_rfl) n_ e
def zm7 (N:Nat)(k:q34)(n:Int)(l1:Int→(List q03)→(List Bool)→Int→Int→(List UInt8)→Int→(List q00×Int)→Option q03):Option q03 :=
 l1 n k.1 k.2.1 0 0 [] 0 ([],0)
def qs8 (N:Nat)(k:q34)(n:Int):Option q03:=zm7 N k n (fun n k_l q09 q04 q21 q22 q63 e=>q87 (w92 N n k_l q09 q04 q21 q22 q63) N e)
abbrev zd6 :List PK:=[.val q66,.val (.int .i64),.fn 158 1,.ep 1,.fn 86 0]
noncomputable def zm5 (N:Nat)(k:q34)(n:Int):Option (RT [q07]):=q24 DR Tryz.prog N (wd8 N) qv0 Tryz.f99 (q13 Tryz.f99) (RT [q07]) (qy6 zd6 (k,n,())) [] (q42 [q07])
theorem y77 (N:Nat)(k:q34)(n:Int):zm5 N k n=qs8 N k n:=by
 have h:zm5 N k n=zm7 N k n (fun n k_l q09 q04 q21 q22 q63 e=>q58 (zd5 N ) N (w83 n k_l q09 q04 q21 q22 q63 e) (w61 n k_l q09 q04 q21 q22 q63 e)):=by kernel_rfl
 rw [h]
 simp only [qs8,yc6] <;> rfl
def jo3 (m:q34→Int→Option q03):Ent:=qf3 zd6 [q07] fun (x:Els [q66,(.int .i64)])=>m x.1 x.2.1
def wx0 (N:Nat):Ent:=jo3 (qs8 N)
theorem jh4 (N:Nat):q17 Tryz.prog 99 (wx0 N):=q52 (yc3 N) Tryz.func99 rfl (by kernel_rfl) (by kernel_rfl) fun (x:Els [q66,(.int .i64)])=>y77 N x.1 x.2.1
def vq0 :FH:=⟨[],[],[],[],false,[],[]⟩
noncomputable def jr9 (N:Nat):q49:=tab []
theorem xv9 (N:Nat):q14 Tryz.prog (jr9 N):=q28 _
def wl6 (N:Nat)(c:Int):Option Bool :=
 some (decide (c ≥ 0))
noncomputable def v56 (N:Nat)(c:Int):Option (RT [.bool]):=q24 DR Tryz.prog N (jr9 N) vq0 Tryz.f87 (q13 Tryz.f87) (RT [.bool]) (qd4 [(.int .i64)] (c,())) [] (q42 [.bool])
theorem xa8 (N:Nat)(c:Int):v56 N c=wl6 N c:=by kernel_rfl
def x26 (m:Int→Option Bool):Ent:=q37 [(.int .i64)] [.bool] fun (x:Els [(.int .i64)])=>m x.1
def j44 (N:Nat):Ent:=x26 (wl6 N)
theorem ys1 (N:Nat):q17 Tryz.prog 87 (j44 N):=q16 (xv9 N) Tryz.func87 rfl (by kernel_rfl) fun (x:Els [(.int .i64)])=>xa8 N x.1
def jq1 :FH:=⟨[],[],[(5,⟨11,35,0,[],[]⟩)],[],false,[],[]⟩
noncomputable def wo9 (N:Nat):q49:=tab [(159,qe5 N),(76,q93 N),(157,qb3 N),(155,qk3 N),(87,j44 N),(90,qd0 N)]
theorem jg7 (N:Nat):q14 Tryz.prog (wo9 N):=q06 (qc9 N) <| q06 (q82 N) <| q06 (qa7 N) <| q06 (ql4 N) <| q06 (ys1 N) <| q06 (qb9 N) <| q28 _
def qi3 (N:Nat)(l:List q00):Option q03 :=
 (qb1 N 1 2 l).bind fun r =>
 bif (!r) then
  (qb1 N 3 3 l).bind fun r1 =>
  bif (!r1) then
   (qd8 N 8).bind fun r2 =>
   some r2
  else
   (q83 N l).bind fun r3 =>
   bif r3 then
    some ((0,0,[],()),0,())
   else
    bif inR 0 l.length then
    bif inR 1 l.length then
    (q92 N (q25 l 0 q30) (q25 l 1 q30)).bind fun r4 =>
    (wl6 N r4.1).bind fun r5 =>
    (q97 N r5).bind fun r6 =>
    some (r6,0,())
    else none
    else none
 else
  (q83 N l).bind fun r7 =>
  bif r7 then
   some ((0,0,[],()),0,())
  else
   bif inR 0 l.length then
   bif inR 1 l.length then
   (q92 N (q25 l 0 q30) (q25 l 1 q30)).bind fun r8 =>
   (wl6 N r8.1).bind fun r9 =>
   (q97 N r9).bind fun r10 =>
   some (r10,0,())
   else none
   else none
abbrev wh7 :List PK:=[.val (.list q05),.ep 1,.fn 87 0]
noncomputable def jo5 (N:Nat)(l:List q00):Option (RT [q07]):=q24 DR Tryz.prog N (wo9 N) jq1 Tryz.f158 (q13 Tryz.f158) (RT [q07]) (qy6 wh7 (l,())) [] (q42 [q07])
theorem j12 (N:Nat)(l:List q00):jo5 N l=qi3 N l:=by kernel_rfl
def zv9 (m:(List q00)→Option q03):Ent:=qf3 wh7 [q07] fun (x:Els [(.list q05)])=>m x.1
def wh2 (N:Nat):Ent:=zv9 (qi3 N)
theorem zq3 (N:Nat):q17 Tryz.prog 158 (wh2 N):=q52 (jg7 N) Tryz.func158 rfl (by kernel_rfl) (by kernel_rfl) fun (x:Els [(.list q05)])=>j12 N x.1
def zb8 :LH:=⟨[(2,.asis),(3,.asis),(6,.asis),(7,.own q05 507 26 3),(10,.int .i64),(11,.int .i64)],[],[.cells [.lst q07,.lst .bool],.cells [.int .u8,.int .i64,.str,.int .i64]]⟩
def qw4 :FH:=⟨[zb8],[],[],[],false,[],[]⟩
noncomputable def we2 (N:Nat):q49:=tab [(153,q53 N),(158,wh2 N)]
theorem ya9 (N:Nat):q14 Tryz.prog (we2 N):=q06 (q50 N) <| q06 (zq3 N) <| q28 _
noncomputable def z82 :Sc:=wm4 Tryz.prog qw4
noncomputable def zd7 (N:Nat):Cfg:=⟨N,we2 N,0⟩
noncomputable def y13 (N:Nat):Exit→List TV→List TOb→Option q03:=fin Tryz.prog 0 Tryz.f99.results.toList (q42 [q07])
def w89 (n:Int)(k_l:List q03)(q09:List Bool)(q04 q21:Int)(q22:List UInt8)(q63:Int)(e:List q00×Int):List TV:=match e with
 | (l,t11)=>frm 30 [(2,.func (.func 158) [.ep [.func (.func 87) []] 0]),(3,.ref 0 0),(6,.ref 1 0),(7,.tl q05 l (.own 507 26 3)),(10,.int .i64 n),(11,.int .i64 t11)]
def w81 (n:Int)(k_l:List q03)(q09:List Bool)(q04 q21:Int)(q22:List UInt8)(q63:Int)(e:List q00×Int):List TOb:=match e with
 | (l,t11)=>[.cells [.tl q07 k_l .unk,.tl .bool q09 .unk] 118 true,.cells [.int .u8 q04,.int .i64 q21,.str q22,.int .i64 q63] 115 true]
noncomputable def zd2 (N:Nat):(List TV→List TOb→Option q03)→List TV→List TOb→Option q03:=w66 DR z82 (zd7 N) (qm3 (qc6 (q08 (q88 (q08 (q08 (q13 Tryz.f99))))))) zb8 (qw4.loops.drop 1) (qj9 0 (qc5 DR z82 (zd7 N) (q08 (q08 (q08 (q13 Tryz.f99)))) (qw4.loops.drop 1) (y13 N)))
def w88 (N:Nat)(n:Int)(k_l:List q03)(q09:List Bool)(q04 q21:Int)(q22:List UInt8)(q63:Int)(K0:(List q00×Int)→Option q03)(e:List q00×Int):Option q03 :=
 match e with
 | (l,t11) =>
  bif decide (t11 < n) then
   (q59 N (k_l,q09,()) t11).bind fun r =>
   bif (r.2.1 != 0) then
    some r
   else
    bif w33 (l.length + ([r.1]:List q00).length) 4398046511104 then
    bif q27 (t11 + 1) then
    K0 ((l ++ ([r.1]:List q00)),t11 + 1)
    else none
    else none
  else
   (qi3 N l).bind fun r1 =>
   some r1
theorem ye0 (N:Nat)(n:Int)(k_l:List q03)(q09:List Bool)(q04 q21:Int)(q22:List UInt8)(q63:Int)(n_:Nat)(e:List q00×Int):q58 (zd2 N ) n_ ((w89 n k_l q09 q04 q21 q22 q63) e) ((w81 n k_l q09 q04 q21 q22 q63) e)=q87 (w88 N n k_l q09 q04 q21 q22 q63 ) n_ e :=
 q41 (w89 n k_l q09 q04 q21 q22 q63) (w81 n k_l q09 q04 q21 q22 q63) (by intro K e; obtain ⟨l,t11⟩:=e; kernel_rfl) n_ e
def zp3 (N:Nat)(k:q34)(n:Int)(l1:Int→(List q03)→(List Bool)→Int→Int→(List UInt8)→Int→(List q00×Int)→Option q03):Option q03 :=
 l1 n k.1 k.2.1 0 0 [] 0 ([],0)
def qr6 (N:Nat)(k:q34)(n:Int):Option q03:=zp3 N k n (fun n k_l q09 q04 q21 q22 q63 e=>q87 (w88 N n k_l q09 q04 q21 q22 q63) N e)
abbrev z86 :List PK:=[.val q66,.val (.int .i64),.fn 158 1,.ep 1,.fn 87 0]
noncomputable def zn6 (N:Nat)(k:q34)(n:Int):Option (RT [q07]):=q24 DR Tryz.prog N (we2 N) qw4 Tryz.f99 (q13 Tryz.f99) (RT [q07]) (qy6 z86 (k,n,())) [] (q42 [q07])
theorem y03 (N:Nat)(k:q34)(n:Int):zn6 N k n=qr6 N k n:=by
 have h:zn6 N k n=zp3 N k n (fun n k_l q09 q04 q21 q22 q63 e=>q58 (zd2 N ) N (w89 n k_l q09 q04 q21 q22 q63 e) (w81 n k_l q09 q04 q21 q22 q63 e)):=by kernel_rfl
 rw [h]
 simp only [qr6,ye0] <;> rfl
def jn8 (m:q34→Int→Option q03):Ent:=qf3 z86 [q07] fun (x:Els [q66,(.int .i64)])=>m x.1 x.2.1
def z18 (N:Nat):Ent:=jn8 (qr6 N)
theorem j88 (N:Nat):q17 Tryz.prog 99 (z18 N):=q52 (ya9 N) Tryz.func99 rfl (by kernel_rfl) (by kernel_rfl) fun (x:Els [q66,(.int .i64)])=>y03 N x.1 x.2.1
def vc8 :FH:=⟨[],[],[(1,⟨8,14,0,[],[]⟩)],[],false,[],[]⟩
noncomputable def y23 (N:Nat):q49:=tab [(91,z88 N),(90,qd0 N)]
theorem xz7 (N:Nat):q14 Tryz.prog (y23 N):=q06 (jm1 N) <| q06 (qb9 N) <| q28 _
def zg5 (N:Nat)(l:List q00):Option q03 :=
 bif inR 0 l.length then
 bif inR 1 l.length then
 (wd2 N ((q25 l 0 q30).2.2.1) ((q25 l 1 q30).2.2.1)).bind fun r =>
 (q97 N r).bind fun r1 =>
 some (r1,0,())
 else none
 else none
noncomputable def vn9 (N:Nat)(l:List q00):Option (RT [q07]):=q24 DR Tryz.prog N (y23 N) vc8 Tryz.f89 (q13 Tryz.f89) (RT [q07]) (qd4 [(.list q05)] (l,())) [] (q42 [q07])
theorem xf1 (N:Nat)(l:List q00):vn9 N l=zg5 N l:=by kernel_rfl
def x28 (m:(List q00)→Option q03):Ent:=q37 [(.list q05)] [q07] fun (x:Els [(.list q05)])=>m x.1
def j30 (N:Nat):Ent:=x28 (zg5 N)
theorem yt3 (N:Nat):q17 Tryz.prog 89 (j30 N):=q16 (xz7 N) Tryz.func89 rfl (by kernel_rfl) fun (x:Els [(.list q05)])=>xf1 N x.1
def yu8 :FH:=⟨[],[],[],[],false,[],[]⟩
noncomputable def zt2 (N:Nat):q49:=tab [(159,qe5 N),(76,q93 N),(157,qb3 N),(89,j30 N)]
theorem yl1 (N:Nat):q14 Tryz.prog (zt2 N):=q06 (qc9 N) <| q06 (q82 N) <| q06 (qa7 N) <| q06 (yt3 N) <| q28 _
def qn1 (N:Nat)(l:List q00)(t1:Int):Option q03 :=
 (qb1 N t1 t1 l).bind fun r =>
 bif (!r) then
  (qd8 N 8).bind fun r1 =>
  some r1
 else
  (q83 N l).bind fun r2 =>
  bif r2 then
   some ((0,0,[],()),0,())
  else
   (zg5 N l).bind fun r3 =>
   some r3
abbrev zi9 :List PK:=[.val (.list q05),.ep 1,.val (.int .u8),.ep 1,.fn 89 0]
noncomputable def x01 (N:Nat)(l:List q00)(t1:Int):Option (RT [q07]):=q24 DR Tryz.prog N (zt2 N) yu8 Tryz.f160 (q13 Tryz.f160) (RT [q07]) (qy6 zi9 (l,t1,())) [] (q42 [q07])
theorem yc1 (N:Nat)(l:List q00)(t1:Int):x01 N l t1=qn1 N l t1:=by kernel_rfl
def jq7 (m:(List q00)→Int→Option q03):Ent:=qf3 zi9 [q07] fun (x:Els [(.list q05),(.int .u8)])=>m x.1 x.2.1
def zd4 (N:Nat):Ent:=jq7 (qn1 N)
theorem jm9 (N:Nat):q17 Tryz.prog 160 (zd4 N):=q52 (yl1 N) Tryz.func160 rfl (by kernel_rfl) (by kernel_rfl) fun (x:Els [(.list q05),(.int .u8)])=>yc1 N x.1 x.2.1
def z91 :LH:=⟨[(2,.asis),(3,.asis),(6,.asis),(7,.own q05 507 26 3),(10,.int .i64),(11,.int .i64)],[],[.cells [.lst q07,.lst .bool],.cells [.int .u8,.int .i64,.str,.int .i64]]⟩
def qw1 :FH:=⟨[z91],[],[],[],false,[],[]⟩
noncomputable def wd9 (N:Nat):q49:=tab [(153,q53 N),(160,zd4 N)]
theorem yd8 (N:Nat):q14 Tryz.prog (wd9 N):=q06 (q50 N) <| q06 (jm9 N) <| q28 _
noncomputable def zc8 :Sc:=wm4 Tryz.prog qw1
noncomputable def zc4 (N:Nat):Cfg:=⟨N,wd9 N,0⟩
noncomputable def jq6 (N:Nat):Exit→List TV→List TOb→Option q03:=fin Tryz.prog 0 Tryz.f99.results.toList (q42 [q07])
def w70 (n:Int)(k_l:List q03)(q09:List Bool)(q04 q21:Int)(q22:List UInt8)(q63 t1:Int)(e:List q00×Int):List TV:=match e with
 | (l,t11)=>frm 30 [(2,.func (.func 160) [.ep [.int .u8 t1] 0,.ep [.func (.func 89) []] 0]),(3,.ref 0 0),(6,.ref 1 0),(7,.tl q05 l (.own 507 26 3)),(10,.int .i64 n),(11,.int .i64 t11)]
def w71 (n:Int)(k_l:List q03)(q09:List Bool)(q04 q21:Int)(q22:List UInt8)(q63 t1:Int)(e:List q00×Int):List TOb:=match e with
 | (l,t11)=>[.cells [.tl q07 k_l .unk,.tl .bool q09 .unk] 118 true,.cells [.int .u8 q04,.int .i64 q21,.str q22,.int .i64 q63] 115 true]
noncomputable def z85 (N:Nat):(List TV→List TOb→Option q03)→List TV→List TOb→Option q03:=w66 DR zc8 (zc4 N) (qm3 (qc6 (q08 (q88 (q08 (q08 (q13 Tryz.f99))))))) z91 (qw1.loops.drop 1) (qj9 0 (qc5 DR zc8 (zc4 N) (q08 (q08 (q08 (q13 Tryz.f99)))) (qw1.loops.drop 1) (jq6 N)))
def w85 (N:Nat)(n:Int)(k_l:List q03)(q09:List Bool)(q04 q21:Int)(q22:List UInt8)(q63 t1:Int)(K0:(List q00×Int)→Option q03)(e:List q00×Int):Option q03 :=
 match e with
 | (l,t11) =>
  bif decide (t11 < n) then
   (q59 N (k_l,q09,()) t11).bind fun r =>
   bif (r.2.1 != 0) then
    some r
   else
    bif w33 (l.length + ([r.1]:List q00).length) 4398046511104 then
    bif q27 (t11 + 1) then
    K0 ((l ++ ([r.1]:List q00)),t11 + 1)
    else none
    else none
  else
   (qn1 N l t1).bind fun r1 =>
   some r1
theorem yg5 (N:Nat)(n:Int)(k_l:List q03)(q09:List Bool)(q04 q21:Int)(q22:List UInt8)(q63 t1:Int)(n_:Nat)(e:List q00×Int):q58 (z85 N ) n_ ((w70 n k_l q09 q04 q21 q22 q63 t1) e) ((w71 n k_l q09 q04 q21 q22 q63 t1) e)=q87 (w85 N n k_l q09 q04 q21 q22 q63 t1 ) n_ e :=
 q41 (w70 n k_l q09 q04 q21 q22 q63 t1) (w71 n k_l q09 q04 q21 q22 q63 t1) (by intro K e; obtain ⟨l,t11⟩:=e; kernel_rfl) n_ e
def zk7 (N:Nat)(k:q34)(n t1:Int)(l1:Int→(List q03)→(List Bool)→Int→Int→(List UInt8)→Int→Int→(List q00×Int)→Option q03):Option q03 :=
 l1 n k.1 k.2.1 0 0 [] 0 t1 ([],0)
def qu0 (N:Nat)(k:q34)(n t1:Int):Option q03:=zk7 N k n t1 (fun n k_l q09 q04 q21 q22 q63 t1 e=>q87 (w85 N n k_l q09 q04 q21 q22 q63 t1) N e)
abbrev z97 :List PK:=[.val q66,.val (.int .i64),.fn 160 2,.ep 1,.val (.int .u8),.ep 1,.fn 89 0]
noncomputable def zm6 (N:Nat)(k:q34)(n t1:Int):Option (RT [q07]):=q24 DR Tryz.prog N (wd9 N) qw1 Tryz.f99 (q13 Tryz.f99) (RT [q07]) (qy6 z97 (k,n,t1,())) [] (q42 [q07])
theorem y75 (N:Nat)(k:q34)(n t1:Int):zm6 N k n t1=qu0 N k n t1:=by
 have h:zm6 N k n t1=zk7 N k n t1 (fun n k_l q09 q04 q21 q22 q63 t1 e=>q58 (z85 N ) N (w70 n k_l q09 q04 q21 q22 q63 t1 e) (w71 n k_l q09 q04 q21 q22 q63 t1 e)):=by kernel_rfl
 rw [h]
 simp only [qu0,yg5] <;> rfl
def jp3 (m:q34→Int→Int→Option q03):Ent:=qf3 z97 [q07] fun (x:Els [q66,(.int .i64),(.int .u8)])=>m x.1 x.2.1 x.2.2.1
def z02 (N:Nat):Ent:=jp3 (qu0 N)
theorem jb8 (N:Nat):q17 Tryz.prog 99 (z02 N):=q52 (yd8 N) Tryz.func99 rfl (by kernel_rfl) (by kernel_rfl) fun (x:Els [q66,(.int .i64),(.int .u8)])=>y75 N x.1 x.2.1 x.2.2.1
def j75 :FH:=⟨[],[],[],[],false,[],[]⟩
noncomputable def wk9 (N:Nat):q49:=tab []
theorem j21 (N:Nat):q14 Tryz.prog (wk9 N):=q28 _
def qo6 (N:Nat)(s w98:List UInt8):Option Bool :=
 bif decide ((s.length:Int) ≥ (w98.length:Int)) then
  bif upTo (w98.length:Int) s.length then
  some ((s.take (w98.length:Int).toNat) == w98)
  else none
 else
  some false
noncomputable def je3 (N:Nat)(s w98:List UInt8):Option (RT [.bool]):=q24 DR Tryz.prog N (wk9 N) j75 Tryz.f162 (q13 Tryz.f162) (RT [.bool]) (qd4 [.str,.str] (s,w98,())) [] (q42 [.bool])
theorem zw1 (N:Nat)(s w98:List UInt8):je3 N s w98=qo6 N s w98:=by kernel_rfl
def zq0 (m:(List UInt8)→(List UInt8)→Option Bool):Ent:=q37 [.str,.str] [.bool] fun (x:Els [.str,.str])=>m x.1 x.2.1
def wb4 (N:Nat):Ent:=zq0 (qo6 N)
theorem zi6 (N:Nat):q17 Tryz.prog 162 (wb4 N):=q16 (j21 N) Tryz.func162 rfl (by kernel_rfl) fun (x:Els [.str,.str])=>zw1 N x.1 x.2.1
def yr8 :FH:=⟨[],[],[],[],false,[],[]⟩
noncomputable def zo3 (N:Nat):q49:=tab [(162,wb4 N)]
theorem yf1 (N:Nat):q14 Tryz.prog (zo3 N):=q06 (zi6 N) <| q28 _
def w48 (N:Nat)(s w98:List UInt8):Option Bool :=
 (qo6 N s w98).bind fun r =>
 some r
noncomputable def yk5 (N:Nat)(s w98:List UInt8):Option (RT [.bool]):=q24 DR Tryz.prog N (zo3 N) yr8 Tryz.f93 (q13 Tryz.f93) (RT [.bool]) (qd4 [.str,.str] (s,w98,())) [] (q42 [.bool])
theorem jt5 (N:Nat)(s w98:List UInt8):yk5 N s w98=w48 N s w98:=by kernel_rfl
def jm5 (m:(List UInt8)→(List UInt8)→Option Bool):Ent:=q37 [.str,.str] [.bool] fun (x:Els [.str,.str])=>m x.1 x.2.1
def z07 (N:Nat):Ent:=jm5 (w48 N)
theorem je8 (N:Nat):q17 Tryz.prog 93 (z07 N):=q16 (yf1 N) Tryz.func93 rfl (by kernel_rfl) fun (x:Els [.str,.str])=>jt5 N x.1 x.2.1
def vh9 :FH:=⟨[],[],[(1,⟨8,14,0,[],[]⟩)],[],false,[],[]⟩
noncomputable def y58 (N:Nat):q49:=tab [(93,z07 N),(90,qd0 N)]
theorem v10 (N:Nat):q14 Tryz.prog (y58 N):=q06 (je8 N) <| q06 (qb9 N) <| q28 _
def zg0 (N:Nat)(l:List q00):Option q03 :=
 bif inR 0 l.length then
 bif inR 1 l.length then
 (w48 N ((q25 l 0 q30).2.2.1) ((q25 l 1 q30).2.2.1)).bind fun r =>
 (q97 N r).bind fun r1 =>
 some (r1,0,())
 else none
 else none
noncomputable def vo7 (N:Nat)(l:List q00):Option (RT [q07]):=q24 DR Tryz.prog N (y58 N) vh9 Tryz.f92 (q13 Tryz.f92) (RT [q07]) (qd4 [(.list q05)] (l,())) [] (q42 [q07])
theorem xl4 (N:Nat)(l:List q00):vo7 N l=zg0 N l:=by kernel_rfl
def yy4 (m:(List q00)→Option q03):Ent:=q37 [(.list q05)] [q07] fun (x:Els [(.list q05)])=>m x.1
def zy0 (N:Nat):Ent:=yy4 (zg0 N)
theorem yp4 (N:Nat):q17 Tryz.prog 92 (zy0 N):=q16 (v10 N) Tryz.func92 rfl (by kernel_rfl) fun (x:Els [(.list q05)])=>xl4 N x.1
def jt2 :FH:=⟨[],[],[],[],false,[],[]⟩
noncomputable def z35 (N:Nat):q49:=tab [(159,qe5 N),(76,q93 N),(157,qb3 N),(92,zy0 N)]
theorem jl7 (N:Nat):q14 Tryz.prog (z35 N):=q06 (qc9 N) <| q06 (q82 N) <| q06 (qa7 N) <| q06 (yp4 N) <| q28 _
def qg5 (N:Nat)(l:List q00)(t1:Int):Option q03 :=
 (qb1 N t1 t1 l).bind fun r =>
 bif (!r) then
  (qd8 N 8).bind fun r1 =>
  some r1
 else
  (q83 N l).bind fun r2 =>
  bif r2 then
   some ((0,0,[],()),0,())
  else
   (zg0 N l).bind fun r3 =>
   some r3
abbrev wn5 :List PK:=[.val (.list q05),.ep 1,.val (.int .u8),.ep 1,.fn 92 0]
noncomputable def jy7 (N:Nat)(l:List q00)(t1:Int):Option (RT [q07]):=q24 DR Tryz.prog N (z35 N) jt2 Tryz.f160 (q13 Tryz.f160) (RT [q07]) (qy6 wn5 (l,t1,())) [] (q42 [q07])
theorem jf1 (N:Nat)(l:List q00)(t1:Int):jy7 N l t1=qg5 N l t1:=by kernel_rfl
def j67 (m:(List q00)→Int→Option q03):Ent:=qf3 wn5 [q07] fun (x:Els [(.list q05),(.int .u8)])=>m x.1 x.2.1
def wj1 (N:Nat):Ent:=j67 (qg5 N)
theorem zu4 (N:Nat):q17 Tryz.prog 160 (wj1 N):=q52 (jl7 N) Tryz.func160 rfl (by kernel_rfl) (by kernel_rfl) fun (x:Els [(.list q05),(.int .u8)])=>jf1 N x.1 x.2.1
def zd3 :LH:=⟨[(2,.asis),(3,.asis),(6,.asis),(7,.own q05 507 26 3),(10,.int .i64),(11,.int .i64)],[],[.cells [.lst q07,.lst .bool],.cells [.int .u8,.int .i64,.str,.int .i64]]⟩
def qu7 :FH:=⟨[zd3],[],[],[],false,[],[]⟩
noncomputable def wf1 (N:Nat):q49:=tab [(153,q53 N),(160,wj1 N)]
theorem ye8 (N:Nat):q14 Tryz.prog (wf1 N):=q06 (q50 N) <| q06 (zu4 N) <| q28 _
noncomputable def za1 :Sc:=wm4 Tryz.prog qu7
noncomputable def ze5 (N:Nat):Cfg:=⟨N,wf1 N,0⟩
noncomputable def jw3 (N:Nat):Exit→List TV→List TOb→Option q03:=fin Tryz.prog 0 Tryz.f99.results.toList (q42 [q07])
def w74 (n:Int)(k_l:List q03)(q09:List Bool)(q04 q21:Int)(q22:List UInt8)(q63 t1:Int)(e:List q00×Int):List TV:=match e with
 | (l,t11)=>frm 30 [(2,.func (.func 160) [.ep [.int .u8 t1] 0,.ep [.func (.func 92) []] 0]),(3,.ref 0 0),(6,.ref 1 0),(7,.tl q05 l (.own 507 26 3)),(10,.int .i64 n),(11,.int .i64 t11)]
def w82 (n:Int)(k_l:List q03)(q09:List Bool)(q04 q21:Int)(q22:List UInt8)(q63 t1:Int)(e:List q00×Int):List TOb:=match e with
 | (l,t11)=>[.cells [.tl q07 k_l .unk,.tl .bool q09 .unk] 118 true,.cells [.int .u8 q04,.int .i64 q21,.str q22,.int .i64 q63] 115 true]
noncomputable def ze1 (N:Nat):(List TV→List TOb→Option q03)→List TV→List TOb→Option q03:=w66 DR za1 (ze5 N) (qm3 (qc6 (q08 (q88 (q08 (q08 (q13 Tryz.f99))))))) zd3 (qu7.loops.drop 1) (qj9 0 (qc5 DR za1 (ze5 N) (q08 (q08 (q08 (q13 Tryz.f99)))) (qu7.loops.drop 1) (jw3 N)))
def wa2 (N:Nat)(n:Int)(k_l:List q03)(q09:List Bool)(q04 q21:Int)(q22:List UInt8)(q63 t1:Int)(K0:(List q00×Int)→Option q03)(e:List q00×Int):Option q03 :=
 match e with
 | (l,t11) =>
  bif decide (t11 < n) then
   (q59 N (k_l,q09,()) t11).bind fun r =>
   bif (r.2.1 != 0) then
    some r
   else
    bif w33 (l.length + ([r.1]:List q00).length) 4398046511104 then
    bif q27 (t11 + 1) then
    K0 ((l ++ ([r.1]:List q00)),t11 + 1)
    else none
    else none
  else
   (qg5 N l t1).bind fun r1 =>
   some r1
theorem yb0 (N:Nat)(n:Int)(k_l:List q03)(q09:List Bool)(q04 q21:Int)(q22:List UInt8)(q63 t1:Int)(n_:Nat)(e:List q00×Int):q58 (ze1 N ) n_ ((w74 n k_l q09 q04 q21 q22 q63 t1) e) ((w82 n k_l q09 q04 q21 q22 q63 t1) e)=q87 (wa2 N n k_l q09 q04 q21 q22 q63 t1 ) n_ e :=
 q41 (w74 n k_l q09 q04 q21 q22 q63 t1) (w82 n k_l q09 q04 q21 q22 q63 t1) (by intro K e; obtain ⟨l,t11⟩:=e; kernel_rfl) n_ e
def zk3 (N:Nat)(k:q34)(n t1:Int)(l1:Int→(List q03)→(List Bool)→Int→Int→(List UInt8)→Int→Int→(List q00×Int)→Option q03):Option q03 :=
 l1 n k.1 k.2.1 0 0 [] 0 t1 ([],0)
def qr7 (N:Nat)(k:q34)(n t1:Int):Option q03:=zk3 N k n t1 (fun n k_l q09 q04 q21 q22 q63 t1 e=>q87 (wa2 N n k_l q09 q04 q21 q22 q63 t1) N e)
abbrev zc0 :List PK:=[.val q66,.val (.int .i64),.fn 160 2,.ep 1,.val (.int .u8),.ep 1,.fn 92 0]
noncomputable def zp4 (N:Nat)(k:q34)(n t1:Int):Option (RT [q07]):=q24 DR Tryz.prog N (wf1 N) qu7 Tryz.f99 (q13 Tryz.f99) (RT [q07]) (qy6 zc0 (k,n,t1,())) [] (q42 [q07])
theorem ju7 (N:Nat)(k:q34)(n t1:Int):zp4 N k n t1=qr7 N k n t1:=by
 have h:zp4 N k n t1=zk3 N k n t1 (fun n k_l q09 q04 q21 q22 q63 t1 e=>q58 (ze1 N ) N (w74 n k_l q09 q04 q21 q22 q63 t1 e) (w82 n k_l q09 q04 q21 q22 q63 t1 e)):=by kernel_rfl
 rw [h]
 simp only [qr7,yb0] <;> rfl
def jm2 (m:q34→Int→Int→Option q03):Ent:=qf3 zc0 [q07] fun (x:Els [q66,(.int .i64),(.int .u8)])=>m x.1 x.2.1 x.2.2.1
def ww1 (N:Nat):Ent:=jm2 (qr7 N)
theorem jh9 (N:Nat):q17 Tryz.prog 99 (ww1 N):=q52 (ye8 N) Tryz.func99 rfl (by kernel_rfl) (by kernel_rfl) fun (x:Els [q66,(.int .i64),(.int .u8)])=>ju7 N x.1 x.2.1 x.2.2.1
noncomputable def zm8 (N:Nat):q49:=tab [(99,sel [0,0,168,3,94] (z38 N) <| sel [0,0,168,3,95] (ww7 N) <| sel [0,0,168,3,96] (wx0 N) <| sel [0,0,168,3,97] (z18 N) k80)]
theorem ye7 (N:Nat):q14 Tryz.prog (zm8 N):=q06 (qe1 (jg6 N) <| qe1 (jc8 N) <| qe1 (jh4 N) <| qe1 (j88 N) wr3) <| q28 _
noncomputable def wx1 (N:Nat):Ent:=z63 Tryz.prog N (zm8 N) ⟨[],[],[],[],false,[99],[]⟩ Tryz.f83 (q13 Tryz.f83)
theorem jf0 (N:Nat):q17 Tryz.prog 83 (wx1 N):=qb4 (ye7 N) Tryz.func83 rfl (by kernel_rfl)
noncomputable def zt3 (N:Nat):q49:=tab [(99,sel [0,0,170,3,0,3,99] (z02 N) <| sel [0,0,170,3,0,3,102] (ww1 N) k80)]
theorem yn9 (N:Nat):q14 Tryz.prog (zt3 N):=q06 (qe1 (jb8 N) <| qe1 (jh9 N) wr3) <| q28 _
noncomputable def zb5 (N:Nat):Ent:=z63 Tryz.prog N (zt3 N) ⟨[],[],[],[],false,[99],[]⟩ Tryz.f88 (q13 Tryz.f88)
theorem jn5 (N:Nat):q17 Tryz.prog 88 (zb5 N):=qb4 (yn9 N) Tryz.func88 rfl (by kernel_rfl)
def zg4 :FH:=⟨[],[],[],[],false,[],[(13,⟨[(0,.int .u8),(3,.asis),(4,.asis)],[],[.cells [.lst q07,.lst .bool],.cells [.int .u8,.int .i64,.str,.int .i64]]⟩)]⟩
noncomputable def j92 (N:Nat):q49:=tab [(77,sel [0,0,88] (zs0 N) <| sel [0,0,89] (wx3 N) k80),(80,ql0 N),(81,j91 N),(83,wx1 N),(88,zb5 N),(82,zl5 N)]
theorem vu0 (N:Nat):q14 Tryz.prog (j92 N):=q06 (qe1 (yb6 N) <| qe1 (je1 N) wr3) <| q06 (qp2 N) <| q06 (jz8 N) <| q06 (jf0 N) <| q06 (jn5 N) <| q06 (jq8 N) <| q28 _
noncomputable def zu9 :Sc:=wm4 Tryz.prog zg4
noncomputable def zv4 (N:Nat):Cfg:=⟨N,j92 N,0⟩
noncomputable def vc6 (N:Nat):Exit→List TV→List TOb→Option (q03×Bool×Unit):=fin Tryz.prog 0 Tryz.f37.results.toList (q42 [q07,.bool])
def yh0 (op:Int)(k_l:List q03)(q09:List Bool)(e:Unit):List TV:=frm 59 [(0,.int .u8 op),(3,.ref 0 0),(4,.ref 1 0)]
def yh8 (op:Int)(k_l:List q03)(q09:List Bool)(e:Unit):List TOb:=[.cells [.tl q07 k_l .unk,.tl .bool q09 .unk] 118 true,.cells [.int .u8 0,.int .i64 0,.str [],.int .i64 0] 115 true]
noncomputable def yh1 (N:Nat):List TV→List TOb→Option (q03×Bool×Unit):=x83 DR zu9 (zv4 N) (q88 (yu6 (q08 (zh9 (q08 (zh9 (q08 (zh9 (q08 (qc6 (q08 (q88 (q08 (q13 Tryz.f37)))))))))))))) (qc5 DR zu9 (zv4 N) (q08 (yu6 (q08 (zh9 (q08 (zh9 (q08 (zh9 (q08 (qc6 (q08 (q88 (q08 (q13 Tryz.f37)))))))))))))) (zg4.loops.drop 0) (qj9 0 (qc5 DR zu9 (zv4 N) (q08 (q08 (q13 Tryz.f37))) (zg4.loops.drop 0) (vc6 N))))
def wt3 (N:Nat)(op:Int)(k_l:List q03)(q09:List Bool)(e:Unit):Option (q03×Bool×Unit) :=
 (w21 N (k_l,q09,()) (op == 7)).bind fun r10 =>
 some (r10,true,())
theorem vr6 (N:Nat)(op:Int)(k_l:List q03)(q09:List Bool)(e:Unit):jmp N (yh1 N ) ((yh0 op k_l q09) e) ((yh8 op k_l q09) e)=at1 N (wt3 N op k_l q09 e):=qn7 (by kernel_rfl) N
def j97 (N:Nat)(op:Int)(k:q34)(l1:Int→(List q03)→(List Bool)→Unit→Option (q03×Bool×Unit)):Option (q03×Bool×Unit) :=
 bif (op == 5) then
  (wb3 N k 0).bind fun r =>
  some (r,true,())
 else
  bif (op == 4) then
   (qs1 N k 1).bind fun r1 =>
   some (r1,true,())
  else
   bif (op == 6) then
    (q84 N k 0).bind fun r2 =>
    bif (r2.2.1 == 0) then
     (zk2 N r2.1).bind fun r3 =>
     some ((r3,r2.2.1,()),true,())
    else
     some (r2,true,())
   else
    bif (op == 7) then
     l1 op k.1 k.2.1 ()
    else
     bif (op == 8) then
      l1 op k.1 k.2.1 ()
     else
      bif (op == 9) then
       (qt2 N k 2).bind fun r4 =>
       some (r4,true,())
      else
       bif (op == 10) then
        (qu1 N k 2).bind fun r5 =>
        some (r5,true,())
       else
        bif (op == 11) then
         (qs8 N k 2).bind fun r6 =>
         some (r6,true,())
        else
         bif (op == 12) then
          (qr6 N k 2).bind fun r7 =>
          some (r7,true,())
         else
          bif (op == 24) then
           (qu0 N k 2 3).bind fun r8 =>
           some (r8,true,())
          else
           bif (op == 25) then
            (qr7 N k 2 3).bind fun r9 =>
            some (r9,true,())
           else
            some (((0,0,[],()),0,()),false,())
def we1 (N:Nat)(op:Int)(k:q34):Option (q03×Bool×Unit):=j97 N op k (fun op k_l q09 e=>at1 N (wt3 N op k_l q09 e))
noncomputable def x65 (N:Nat)(op:Int)(k:q34):Option (RT [q07,.bool]):=q24 DR Tryz.prog N (j92 N) zg4 Tryz.f37 (q13 Tryz.f37) (RT [q07,.bool]) (qd4 [(.int .u8),q66] (op,k,())) [] (q42 [q07,.bool])
theorem v94 (N:Nat)(op:Int)(k:q34):x65 N op k=we1 N op k:=by
 have h:x65 N op k=j97 N op k (fun op k_l q09 e=>jmp N (yh1 N ) (yh0 op k_l q09 e) (yh8 op k_l q09 e)):=by kernel_rfl
 rw [h]
 simp only [we1,vr6] <;> rfl
def v04 (m:Int→q34→Option (q03×Bool×Unit)):Ent:=q37 [(.int .u8),q66] [q07,.bool] fun (x:Els [(.int .u8),q66])=>m x.1 x.2.1
def y67 (N:Nat):Ent:=v04 (we1 N)
theorem xf4 (N:Nat):q17 Tryz.prog 37 (y67 N):=q16 (vu0 N) Tryz.func37 rfl (by kernel_rfl) fun (x:Els [(.int .u8),q66])=>v94 N x.1 x.2.1
def kz0 :FH:=⟨[],[],[],[],true,[],[]⟩
noncomputable def u58 (N:Nat):q49:=tab []
theorem kg8 (N:Nat):q14 Tryz.prog (u58 N):=q28 _
def w39 (N:Nat)(n:Int):Option Int :=
 bif decide (n < 0) then
  some (IntKind.u64.wrap (0 - (IntKind.u64.wrap n)))
 else
  some (IntKind.u64.wrap n)
noncomputable def kw8 (N:Nat)(n:Int):Option (RT [(.int .u64)]):=q24 DR Tryz.prog N (u58 N) kz0 Tryz.f220 (q13 Tryz.f220) (RT [(.int .u64)]) (qd4 [(.int .i64)] (n,())) [] (q42 [(.int .u64)])
theorem uu3 (N:Nat)(n:Int):kw8 N n=w39 N n:=by kernel_rfl
def u84 (m:Int→Option Int):Ent:=q37 [(.int .i64)] [(.int .u64)] fun (x:Els [(.int .i64)])=>m x.1
def ww8 (N:Nat):Ent:=u84 (w39 N)
theorem wt8 (N:Nat):q17 Tryz.prog 220 (ww8 N):=q16 (kg8 N) Tryz.func220 rfl (by kernel_rfl) fun (x:Els [(.int .i64)])=>uu3 N x.1
def uq0 :FH:=⟨[],[],[],[],true,[],[]⟩
noncomputable def xr4 (N:Nat):q49:=tab []
theorem uc2 (N:Nat):q14 Tryz.prog (xr4 N):=q28 _
def qk2 (N:Nat)(neg:Bool)(hi lo:Int):Option (Int×Int×Unit) :=
 bif decide (hi > 0) then
  some (0,9,())
 else
  bif decide (lo > 9223372036854775808) then
   some (0,9,())
  else
   bif (lo == 9223372036854775808) then
    bif (!neg) then
     some (0,9,())
    else
     bif neg then
      some ((IntKind.i64.wrap (0 - (IntKind.i64.wrap lo))),0,())
     else
      some ((IntKind.i64.wrap lo),0,())
   else
    bif neg then
     some ((IntKind.i64.wrap (0 - (IntKind.i64.wrap lo))),0,())
    else
     some ((IntKind.i64.wrap lo),0,())
noncomputable def k37 (N:Nat)(neg:Bool)(hi lo:Int):Option (RT [(.int .i64),(.int .i64)]):=q24 DR Tryz.prog N (xr4 N) uq0 Tryz.f221 (q13 Tryz.f221) (RT [(.int .i64),(.int .i64)]) (qd4 [.bool,(.int .u64),(.int .u64)] (neg,hi,lo,())) [] (q42 [(.int .i64),(.int .i64)])
theorem vr8 (N:Nat)(neg:Bool)(hi lo:Int):k37 N neg hi lo=qk2 N neg hi lo:=by kernel_rfl
def vp2 (m:Bool→Int→Int→Option (Int×Int×Unit)):Ent:=q37 [.bool,(.int .u64),(.int .u64)] [(.int .i64),(.int .i64)] fun (x:Els [.bool,(.int .u64),(.int .u64)])=>m x.1 x.2.1 x.2.2.1
def wa7 (N:Nat):Ent:=vp2 (qk2 N)
theorem wc1 (N:Nat):q17 Tryz.prog 221 (wa7 N):=q16 (uc2 N) Tryz.func221 rfl (by kernel_rfl) fun (x:Els [.bool,(.int .u64),(.int .u64)])=>vr8 N x.1 x.2.1 x.2.2.1
def num_Mul_H :FH:=⟨[],[],[],[],false,[],[]⟩
noncomputable def uy9 (N:Nat):q49:=tab [(220,ww8 N),(219,wu2 N),(221,wa7 N)]
theorem kw6 (N:Nat):q14 Tryz.prog (uy9 N):=q06 (wt8 N) <| q06 (z42 N) <| q06 (wc1 N) <| q28 _
def yu5 (N:Nat)(a b:Int):Option (Int×Int×Unit) :=
 (w39 N a).bind fun r =>
 (w39 N b).bind fun r1 =>
 (qy3 N r r1).bind fun r2 =>
 (qk2 N (!((decide (a < 0)) == (decide (b < 0)))) r2.1 r2.2.1).bind fun r3 =>
 some r3
noncomputable def num_Mul_C (N:Nat)(a b:Int):Option (RT [(.int .i64),(.int .i64)]):=q24 DR Tryz.prog N (uy9 N) num_Mul_H Tryz.f167 (q13 Tryz.f167) (RT [(.int .i64),(.int .i64)]) (qd4 [(.int .i64),(.int .i64)] (a,b,())) [] (q42 [(.int .i64),(.int .i64)])
theorem kb7 (N:Nat)(a b:Int):num_Mul_C N a b=yu5 N a b:=by kernel_rfl
def k36 (m:Int→Int→Option (Int×Int×Unit)):Ent:=q37 [(.int .i64),(.int .i64)] [(.int .i64),(.int .i64)] fun (x:Els [(.int .i64),(.int .i64)])=>m x.1 x.2.1
def yt9 (N:Nat):Ent:=k36 (yu5 N)
theorem x62 (N:Nat):q17 Tryz.prog 167 (yt9 N):=q16 (kw6 N) Tryz.func167 rfl (by kernel_rfl) fun (x:Els [(.int .i64),(.int .i64)])=>kb7 N x.1 x.2.1
def ki0 :FH:=⟨[],[],[],[],false,[],[]⟩
noncomputable def vm3 (N:Nat):q49:=tab [(167,yt9 N)]
theorem k15 (N:Nat):q14 Tryz.prog (vm3 N):=q06 (x62 N) <| q28 _
def jv5 (N:Nat)(a:Int):Option (Int×Int×Unit) :=
 (yu5 N a 10000).bind fun r =>
 some r
noncomputable def kb1 (N:Nat)(a:Int):Option (RT [(.int .i64),(.int .i64)]):=q24 DR Tryz.prog N (vm3 N) ki0 Tryz.f283 (q13 Tryz.f283) (RT [(.int .i64),(.int .i64)]) (qd4 [(.int .i64)] (a,())) [] (q42 [(.int .i64),(.int .i64)])
theorem ub5 (N:Nat)(a:Int):kb1 N a=jv5 N a:=by kernel_rfl
def vr7 (m:Int→Option (Int×Int×Unit)):Ent:=q37 [(.int .i64)] [(.int .i64),(.int .i64)] fun (x:Els [(.int .i64)])=>m x.1
def x80 (N:Nat):Ent:=vr7 (jv5 N)
theorem ve4 (N:Nat):q17 Tryz.prog 283 (x80 N):=q16 (k15 N) Tryz.func283 rfl (by kernel_rfl) fun (x:Els [(.int .i64)])=>ub5 N x.1
def k88 :FH:=⟨[],[],[],[],false,[],[]⟩
noncomputable def va7 (N:Nat):q49:=tab [(283,x80 N)]
theorem uu5 (N:Nat):q14 Tryz.prog (va7 N):=q06 (ve4 N) <| q28 _
def wb2 (N:Nat)(v:q00):Option OX3 :=
 bif (v.1 == 2) then
  some (v,0,())
 else
  (jv5 N v.2.1).bind fun r =>
  bif (r.2.1 != 0) then
   some ((0,0,[],()),r.2.1,())
  else
   some ((2,r.1,[],()),0,())
noncomputable def kg7 (N:Nat)(v:q00):Option (RT [q05,(.int .i64)]):=q24 DR Tryz.prog N (va7 N) k88 Tryz.f257 (q13 Tryz.f257) (RT [q05,(.int .i64)]) (qd4 [q05] (v,())) [] (q42 [q05,(.int .i64)])
theorem u94 (N:Nat)(v:q00):kg7 N v=wb2 N v:=by kernel_rfl
def vt7 (m:q00→Option OX3):Ent:=q37 [q05] [q05,(.int .i64)] fun (x:Els [q05])=>m x.1
def x56 (N:Nat):Ent:=vt7 (wb2 N)
theorem v80 (N:Nat):q17 Tryz.prog 257 (x56 N):=q16 (uu5 N) Tryz.func257 rfl (by kernel_rfl) fun (x:Els [q05])=>u94 N x.1
def yk2 :LH:=⟨[(0,.lst q05),(2,.own q05 502 26 3),(3,.bool),(5,.int .u8),(10,.lst q05),(11,.int .i64),(12,.int .i64)],[],[]⟩
def yi1 :LH:=⟨[(2,.own q05 502 26 3),(5,.int .u8),(36,.lst q05),(37,.int .i64),(38,.int .i64)],[],[]⟩
def w49 :FH:=⟨[yk2,yi1],[],[],[],false,[],[]⟩
noncomputable def je5 (N:Nat):q49:=tab [(211,wj3 N),(257,x56 N)]
theorem vr1 (N:Nat):q14 Tryz.prog (je5 N):=q06 (zc7 N) <| q06 (v80 N) <| q28 _
noncomputable def wu4 :Sc:=wm4 Tryz.prog w49
noncomputable def wt7 (N:Nat):Cfg:=⟨N,je5 N,0⟩
noncomputable def ju4 (N:Nat):Exit→List TV→List TOb→Option OX7:=fin Tryz.prog 0 Tryz.f217.results.toList (q42 [(.list q05),.bool,(.int .i64)])
def wb8 (l out:List q00)(t11:Int)(e:Bool×Int×Int):List TV:=match e with
 | (null,kind,t12)=>frm 61 [(0,.tl q05 l .unk),(2,.tl q05 out (.own 502 26 3)),(3,.bool null),(5,.int .u8 kind),(10,.tl q05 l .unk),(11,.int .i64 t11),(12,.int .i64 t12)]
def wb1 (l out:List q00)(t11:Int)(e:Bool×Int×Int):List TOb:=match e with
 | (null,kind,t12)=>[]
def zu3 (kind:Int)(l:List q00)(t37:Int)(e:List q00×Int):List TV:=match e with
 | (out1,t38)=>frm 61 [(2,.tl q05 out1 (.own 502 26 3)),(5,.int .u8 kind),(36,.tl q05 l .unk),(37,.int .i64 t37),(38,.int .i64 t38)]
def zu1 (kind:Int)(l:List q00)(t37:Int)(e:List q00×Int):List TOb:=match e with
 | (out1,t38)=>[]
noncomputable def yh9 (N:Nat):(List TV→List TOb→Option OX7)→List TV→List TOb→Option OX7:=w66 DR wu4 (wt7 N) (qm3 (qc6 (q08 (q88 (q08 (q08 (q08 (q08 (q13 Tryz.f217))))))))) yi1 (w49.loops.drop 2) (qj9 2 (qc5 DR wu4 (wt7 N) (q08 (q08 (q08 (q08 (q08 (q13 Tryz.f217)))))) (w49.loops.drop 2) (ju4 N)))
def qp6 (N:Nat)(kind:Int)(l:List q00)(t37:Int)(K1:(List q00×Int)→Option OX7)(e:List q00×Int):Option OX7 :=
 match e with
 | (out1,t38) =>
  bif decide (t38 < t37) then
   bif inR t38 l.length then
   bif (kind == 2) then
    (wb2 N (q25 l t38 q30)).bind fun r1 =>
    bif (r1.2.1 != 0) then
     some ([],false,r1.2.1,())
    else
     bif w33 (out1.length + ([(kind,r1.1.2.1,[],())]:List q00).length) 4398046511104 then
     bif q27 (t38 + 1) then
     K1 ((out1 ++ ([(kind,r1.1.2.1,[],())]:List q00)),t38 + 1)
     else none
     else none
   else
    bif w33 (out1.length + ([(kind,(q25 l t38 q30).2.1,[],())]:List q00).length) 4398046511104 then
    bif q27 (t38 + 1) then
    K1 ((out1 ++ ([(kind,(q25 l t38 q30).2.1,[],())]:List q00)),t38 + 1)
    else none
    else none
   else none
  else
   some (out1,false,0,())
theorem vs5 (N:Nat)(kind:Int)(l:List q00)(t37:Int)(n_:Nat)(e:List q00×Int):q58 (yh9 N ) n_ ((zu3 kind l t37) e) ((zu1 kind l t37) e)=q87 (qp6 N kind l t37 ) n_ e :=
 q41 (zu3 kind l t37) (zu1 kind l t37) (by intro K e; obtain ⟨out1,t38⟩:=e; kernel_rfl) n_ e
noncomputable def zv2 (N:Nat):(List TV→List TOb→Option OX7)→List TV→List TOb→Option OX7:=w66 DR wu4 (wt7 N) (qm3 (qc6 (q08 (q88 (q08 (q08 (q13 Tryz.f217))))))) yk2 (w49.loops.drop 1) (qj9 0 (qc5 DR wu4 (wt7 N) (q08 (q08 (q08 (q13 Tryz.f217)))) (w49.loops.drop 1) (ju4 N)))
def q95 (N:Nat)(l out:List q00)(t11:Int)(l2:Int→(List q00)→Int→(List q00×Int)→Option OX7)(K0:(Bool×Int×Int)→Option OX7)(e:Bool×Int×Int):Option OX7 :=
 match e with
 | (null,kind,t12) =>
  bif decide (t12 < t11) then
   bif inR t12 l.length then
   (q72 N (q25 l t12 q30)).bind fun r =>
   bif (!r) then
    bif (((q25 l t12 q30).1) != 0) then
     some ([],false,8,())
    else
     bif null then
      bif q27 (t12 + 1) then
      K0 (true,(vq2 kind ((q25 l t12 q30).1)),t12 + 1)
      else none
     else
      bif q27 (t12 + 1) then
      K0 ((((q25 l t12 q30).1) == 0),(vq2 kind ((q25 l t12 q30).1)),t12 + 1)
      else none
   else
    bif null then
     bif q27 (t12 + 1) then
     K0 (true,(vq2 kind ((q25 l t12 q30).1)),t12 + 1)
     else none
    else
     bif q27 (t12 + 1) then
     K0 ((((q25 l t12 q30).1) == 0),(vq2 kind ((q25 l t12 q30).1)),t12 + 1)
     else none
   else none
  else
   bif null then
    some ([],true,0,())
   else
    l2 kind l (l.length:Int) (out,0)
def q98 (N:Nat)(l out:List q00)(t11:Int)(K0:(Bool×Int×Int)→Option OX7)(e:Bool×Int×Int):Option OX7:=q95 N l out t11 (fun kind l t37 e=>q87 (qp6 N kind l t37) N e) K0 e
theorem vr4 (N:Nat)(l out:List q00)(t11:Int)(n_:Nat)(e:Bool×Int×Int):q58 (zv2 N ) n_ ((wb8 l out t11) e) ((wb1 l out t11) e)=q87 (q98 N l out t11 ) n_ e :=
 q41 (wb8 l out t11) (wb1 l out t11) (by
  intro K e
  have h:(zv2 N ) K ((wb8 l out t11) e) ((wb1 l out t11) e)=q95 N l out t11 (fun kind l t37 e=>q58 (yh9 N ) N (zu3 kind l t37 e) (zu1 kind l t37 e)) (fun e=>K ((wb8 l out t11) e) ((wb1 l out t11) e)) e:=by obtain ⟨null,kind,t12⟩:=e; kernel_rfl
  rw [h]
  simp only [q98,vs5] <;> rfl) n_ e
def qp1 (N:Nat)(l:List q00)(l1:(List q00)→(List q00)→Int→(Bool×Int×Int)→Option OX7):Option OX7 :=
 l1 l [] (l.length:Int) (false,1,0)
def q96 (N:Nat)(l:List q00):Option OX7:=qp1 N l (fun l out t11 e=>q87 (q98 N l out t11) N e)
noncomputable def yz1 (N:Nat)(l:List q00):Option (RT [(.list q05),.bool,(.int .i64)]):=q24 DR Tryz.prog N (je5 N) w49 Tryz.f217 (q13 Tryz.f217) (RT [(.list q05),.bool,(.int .i64)]) (qd4 [(.list q05)] (l,())) [] (q42 [(.list q05),.bool,(.int .i64)])
theorem v52 (N:Nat)(l:List q00):yz1 N l=q96 N l:=by
 have h:yz1 N l=qp1 N l (fun l out t11 e=>q58 (zv2 N ) N (wb8 l out t11 e) (wb1 l out t11 e)):=by kernel_rfl
 rw [h]
 simp only [q96,vr4] <;> rfl
def xw1 (m:(List q00)→Option OX7):Ent:=q37 [(.list q05)] [(.list q05),.bool,(.int .i64)] fun (x:Els [(.list q05)])=>m x.1
def qs0 (N:Nat):Ent:=xw1 (q96 N)
theorem qt6 (N:Nat):q17 Tryz.prog 217 (qs0 N):=q16 (vr1 N) Tryz.func217 rfl (by kernel_rfl) fun (x:Els [(.list q05)])=>v52 N x.1
def num_Add_H :FH:=⟨[],[],[],[],true,[],[]⟩
noncomputable def k27 (N:Nat):q49:=tab []
theorem kr3 (N:Nat):q14 Tryz.prog (k27 N):=q28 _
def y06 (N:Nat)(a b:Int):Option (Int×Int×Unit) :=
 bif ((decide (a < 0)) == (decide (b < 0))) then
  bif (!((decide ((IntKind.i64.wrap (a + b)) < 0)) == (decide (a < 0)))) then
   some (0,9,())
  else
   some ((IntKind.i64.wrap (a + b)),0,())
 else
  some ((IntKind.i64.wrap (a + b)),0,())
noncomputable def num_Add_C (N:Nat)(a b:Int):Option (RT [(.int .i64),(.int .i64)]):=q24 DR Tryz.prog N (k27 N) num_Add_H Tryz.f165 (q13 Tryz.f165) (RT [(.int .i64),(.int .i64)]) (qd4 [(.int .i64),(.int .i64)] (a,b,())) [] (q42 [(.int .i64),(.int .i64)])
theorem ka0 (N:Nat)(a b:Int):num_Add_C N a b=y06 N a b:=by kernel_rfl
def uw5 (m:Int→Int→Option (Int×Int×Unit)):Ent:=q37 [(.int .i64),(.int .i64)] [(.int .i64),(.int .i64)] fun (x:Els [(.int .i64),(.int .i64)])=>m x.1 x.2.1
def vn3 (N:Nat):Ent:=uw5 (y06 N)
theorem ue0 (N:Nat):q17 Tryz.prog 165 (vn3 N):=q16 (kr3 N) Tryz.func165 rfl (by kernel_rfl) fun (x:Els [(.int .i64),(.int .i64)])=>ka0 N x.1 x.2.1
noncomputable def yj4 (N:Nat):q49:=tab []
theorem vb4 (N:Nat):q14 Tryz.prog (yj4 N):=q28 _
noncomputable def qx3 (N:Nat):Ent:=z63 Tryz.prog N (yj4 N) ⟨[],[],[],[],false,[],[]⟩ Tryz.f218 (q13 Tryz.f218)
theorem qz2 (N:Nat):q17 Tryz.prog 218 (qx3 N):=qb4 (vb4 N) Tryz.func218 rfl (by kernel_rfl)
def ky6 :FH:=⟨[],[],[(8,⟨16,54,0,[],[]⟩)],[],false,[],[]⟩
noncomputable def u09 (N:Nat):q49:=tab [(217,qs0 N),(165,vn3 N),(218,qx3 N)]
theorem k61 (N:Nat):q14 Tryz.prog (u09 N):=q06 (qt6 N) <| q06 (ue0 N) <| q06 (qz2 N) <| q28 _
def uh6 (N:Nat)(a b:q00):Option OX3 :=
 (q96 N ([a,b]:List q00)).bind fun r =>
 bif r.2.1 then
  some ((0,0,[],()),r.2.2.1,())
 else
  bif (r.2.2.1 != 0) then
   some ((0,0,[],()),r.2.2.1,())
  else
   bif inR 0 r.1.length then
   bif (((q25 r.1 0 q30).1) == 2) then
    bif inR 0 r.1.length then
    bif inR 1 r.1.length then
    (y06 N ((q25 r.1 0 q30).2.1) ((q25 r.1 1 q30).2.1)).bind fun r1 =>
    bif (r1.2.1 != 0) then
     some ((0,0,[],()),r1.2.1,())
    else
     bif inR 0 r.1.length then
     some (((q25 r.1 0 q30).1,r1.1,[],()),0,())
     else none
    else none
    else none
   else
    bif inR 0 r.1.length then
    bif inR 1 r.1.length then
    (y06 N ((q25 r.1 0 q30).2.1) ((q25 r.1 1 q30).2.1)).bind fun r2 =>
    bif (r2.2.1 != 0) then
     some ((0,0,[],()),r2.2.1,())
    else
     bif inR 0 r.1.length then
     some (((q25 r.1 0 q30).1,r2.1,[],()),0,())
     else none
    else none
    else none
   else none
abbrev vn1 :List PK:=[.val q05,.val q05,.fn 165 0,.fn 165 0]
noncomputable def kt6 (N:Nat)(a b:q00):Option (RT [q05,(.int .i64)]):=q24 DR Tryz.prog N (u09 N) ky6 Tryz.f164 (q13 Tryz.f164) (RT [q05,(.int .i64)]) (qy6 vn1 (a,b,())) [] (q42 [q05,(.int .i64)])
theorem up5 (N:Nat)(a b:q00):kt6 N a b=uh6 N a b:=by kernel_rfl
def ua1 (m:q00→q00→Option OX3):Ent:=qf3 vn1 [q05,(.int .i64)] fun (x:Els [q05,q05])=>m x.1 x.2.1
def xr9 (N:Nat):Ent:=ua1 (uh6 N)
theorem vw1 (N:Nat):q17 Tryz.prog 164 (xr9 N):=q52 (k61 N) Tryz.func164 rfl (by kernel_rfl) (by kernel_rfl) fun (x:Els [q05,q05])=>up5 N x.1 x.2.1
end Go.Proofs.YtgicljncknbgcaaGreat.Abs
