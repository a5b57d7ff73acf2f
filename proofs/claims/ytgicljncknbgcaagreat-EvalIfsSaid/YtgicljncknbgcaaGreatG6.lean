/- The functions of the program, told on typed values, printed by a program: each tells what the reckoning of its body tells. -/
import Derived.Test.YtgicljncknbgcaaGreatL7
import Derived.Test.YtgicljncknbgcaaGreatG5
import Derived.Test.YtgicljncknbgcaaGreatLA
import Derived.Test.YtgicljncknbgcaaGreatProg
set_option linter.unusedVariables false
set_option linter.unusedSimpArgs false
set_option linter.unusedSectionVars false
namespace Go.Proofs.YtgicljncknbgcaaGreat.Abs
set_option maxRecDepth 100000
open Go Go.Proofs
def k62 :FH:=⟨[],[],[],[],false,[],[]⟩
noncomputable def v81 (N:Nat):q48:=tab [(164,xj7 N)]
theorem uv9 (N:Nat):q13 Tryz.prog (v81 N):=q06 (vu1 N) <| q27 _
def zx1 (N:Nat)(a b:q00):Option OX3 :=
 (ub2 N a b).bind fun r =>
 some r
noncomputable def k80 (N:Nat)(a b:q00):Option (RT [q05,(.int .i64)]):=q22 DR Tryz.prog N (v81 N) k62 Tryz.f95 (q10 Tryz.f95) (RT [q05,(.int .i64)]) (qd2 [q05,q05] (a,b,())) [] (q40 [q05,(.int .i64)])
theorem u32 (N:Nat)(a b:q00):k80 N a b=zx1 N a b:=by kernel_rfl
def vp6 (m:q00→q00→Option OX3):Ent:=q35 [q05,q05] [q05,(.int .i64)] fun (x:Els [q05,q05])=>m x.1 x.2.1
def x00 (N:Nat):Ent:=vp6 (zx1 N)
theorem vm6 (N:Nat):q16 Tryz.prog 95 (x00 N):=q15 (uv9 N) Tryz.func95 rfl (by kernel_rfl) fun (x:Els [q05,q05])=>u32 N x.1 x.2.1
def kf1 :FH:=⟨[],[],[],[],false,[],[]⟩
noncomputable def v60 (N:Nat):q48:=tab []
theorem ut3 (N:Nat):q13 Tryz.prog (v60 N):=q27 _
def qc7 (N:Nat)(v:q00)(e_:Int):Option q03 :=
 bif (e_ != 0) then
  some ((0,0,[],()),e_,())
 else
  some (v,0,())
noncomputable def k93 (N:Nat)(v:q00)(e_:Int):Option (RT [q07]):=q22 DR Tryz.prog N (v60 N) kf1 Tryz.f101 (q10 Tryz.f101) (RT [q07]) (qd2 [q05,(.int .i64)] (v,e_,())) [] (q40 [q07])
theorem u98 (N:Nat)(v:q00)(e_:Int):k93 N v e_=qc7 N v e_:=by kernel_rfl
def vv0 (m:q00→Int→Option q03):Ent:=q35 [q05,(.int .i64)] [q07] fun (x:Els [q05,(.int .i64)])=>m x.1 x.2.1
def qg9 (N:Nat):Ent:=vv0 (qc7 N)
theorem qe1 (N:Nat):q16 Tryz.prog 101 (qg9 N):=q15 (ut3 N) Tryz.func101 rfl (by kernel_rfl) fun (x:Els [q05,(.int .i64)])=>u98 N x.1 x.2.1
noncomputable def zh1 (N:Nat):q48:=tab [(95,x00 N),(101,qg9 N)]
theorem yc2 (N:Nat):q13 Tryz.prog (zh1 N):=q06 (vm6 N) <| q06 (qe1 N) <| q27 _
noncomputable def wu3 (N:Nat):Ent:=zn6 Tryz.prog N (zh1 N) ⟨[],[],[(1,⟨10,15,0,[],[]⟩)],[],false,[],[]⟩ Tryz.f163 (q10 Tryz.f163)
theorem ja4 (N:Nat):q16 Tryz.prog 163 (wu3 N):=qc2 (yc2 N) Tryz.func163 rfl (by kernel_rfl)
def z54 :LH:=⟨[(2,.asis),(3,.asis),(6,.asis),(7,.own q05 507 26 3),(10,.int .i64),(11,.int .i64)],[],[.cells [.lst q07,.lst .bool],.cells [.int .u8,.int .i64,.str,.int .i64]]⟩
def qu9 :FH:=⟨[z54],[],[],[],false,[],[]⟩
noncomputable def wd2 (N:Nat):q48:=tab [(153,q52 N),(163,wu3 N)]
theorem y96 (N:Nat):q13 Tryz.prog (wd2 N):=q06 (q49 N) <| q06 (ja4 N) <| q27 _
noncomputable def zc4 :Sc:=wl6 Tryz.prog qu9
noncomputable def z75 (N:Nat):Cfg:=⟨N,wd2 N,0⟩
noncomputable def jq7 (N:Nat):Exit→List TV→List TOb→Option q03:=fin Tryz.prog 0 Tryz.f99.results.toList (q40 [q07])
def w75 (n:Int)(k_l:List q03)(q09:List Bool)(q04 q20:Int)(q19:List UInt8)(q62:Int)(e:List q00×Int):List TV:=match e with
 | (l,t11)=>frm 30 [(2,.func (.func 163) [.ep [.func (.func 95) []] 0]),(3,.ref 0 0),(6,.ref 1 0),(7,.tl q05 l (.own 507 26 3)),(10,.int .i64 n),(11,.int .i64 t11)]
def w76 (n:Int)(k_l:List q03)(q09:List Bool)(q04 q20:Int)(q19:List UInt8)(q62:Int)(e:List q00×Int):List TOb:=match e with
 | (l,t11)=>[.cells [.tl q07 k_l .unk,.tl .bool q09 .unk] 118 true,.cells [.int .u8 q04,.int .i64 q20,.str q19,.int .i64 q62] 115 true]
noncomputable def z85 (N:Nat):(List TV→List TOb→Option q03)→List TV→List TOb→Option q03:=w54 DR zc4 (z75 N) (ql6 (qc4 (q08 (q87 (q08 (q08 (q10 Tryz.f99))))))) z54 (qu9.loops.drop 1) (qk0 0 (qc3 DR zc4 (z75 N) (q08 (q08 (q08 (q10 Tryz.f99)))) (qu9.loops.drop 1) (jq7 N)))
def w83 (N:Nat)(n:Int)(k_l:List q03)(q09:List Bool)(q04 q20:Int)(q19:List UInt8)(q62:Int)(K0:(List q00×Int)→Option q03)(e:List q00×Int):Option q03 :=
 match e with
 | (l,t11) =>
  bif decide (t11 < n) then
   (q58 N (k_l,q09,()) t11).bind fun r =>
   bif (r.2.1 != 0) then
    some r
   else
    bif w23 (l.length + ([r.1]:List q00).length) 4398046511104 then
    bif q26 (t11 + 1) then
    K0 ((l ++ ([r.1]:List q00)),t11 + 1)
    else none
    else none
  else
   bif inR 0 l.length then
   bif inR 1 l.length then
   (zx1 N (q24 l 0 q29) (q24 l 1 q29)).bind fun r1 =>
   (qc7 N r1.1 r1.2.1).bind fun r2 =>
   some r2
   else none
   else none
theorem yc6 (N:Nat)(n:Int)(k_l:List q03)(q09:List Bool)(q04 q20:Int)(q19:List UInt8)(q62:Int)(n_:Nat)(e:List q00×Int):q57 (z85 N ) n_ ((w75 n k_l q09 q04 q20 q19 q62) e) ((w76 n k_l q09 q04 q20 q19 q62) e)=q86 (w83 N n k_l q09 q04 q20 q19 q62 ) n_ e :=
 q39 (w75 n k_l q09 q04 q20 q19 q62) (w76 n k_l q09 q04 q20 q19 q62) (by intro K e; obtain ⟨l,t11⟩:=e; kernel_rfl) n_ e
def zj7 (N:Nat)(k:q34)(n:Int)(l1:Int→(List q03)→(List Bool)→Int→Int→(List UInt8)→Int→(List q00×Int)→Option q03):Option q03 :=
 l1 n k.1 k.2.1 0 0 [] 0 ([],0)
def qt1 (N:Nat)(k:q34)(n:Int):Option q03:=zj7 N k n (fun n k_l q09 q04 q20 q19 q62 e=>q86 (w83 N n k_l q09 q04 q20 q19 q62) N e)
abbrev z77 :List PK:=[.val q65,.val (.int .i64),.fn 163 1,.ep 1,.fn 95 0]
noncomputable def zj0 (N:Nat)(k:q34)(n:Int):Option (RT [q07]):=q22 DR Tryz.prog N (wd2 N) qu9 Tryz.f99 (q10 Tryz.f99) (RT [q07]) (qx9 z77 (k,n,())) [] (q40 [q07])
theorem jz8 (N:Nat)(k:q34)(n:Int):zj0 N k n=qt1 N k n:=by
 have h:zj0 N k n=zj7 N k n (fun n k_l q09 q04 q20 q19 q62 e=>q57 (z85 N ) N (w75 n k_l q09 q04 q20 q19 q62 e) (w76 n k_l q09 q04 q20 q19 q62 e)):=by kernel_rfl
 rw [h]
 simp only [qt1,yc6] <;> rfl
def jk6 (m:q34→Int→Option q03):Ent:=qf1 z77 [q07] fun (x:Els [q65,(.int .i64)])=>m x.1 x.2.1
def wx3 (N:Nat):Ent:=jk6 (qt1 N)
theorem j83 (N:Nat):q16 Tryz.prog 99 (wx3 N):=q51 (y96 N) Tryz.func99 rfl (by kernel_rfl) (by kernel_rfl) fun (x:Els [q65,(.int .i64)])=>jz8 N x.1 x.2.1
def num_Sub_H :FH:=⟨[],[],[],[],true,[],[]⟩
noncomputable def us7 (N:Nat):q48:=tab []
theorem kr8 (N:Nat):q13 Tryz.prog (us7 N):=q27 _
def jx6 (N:Nat)(a b:Int):Option (Int×Int×Unit) :=
 bif (!((decide (a < 0)) == (decide (b < 0)))) then
  bif (!((decide ((IntKind.i64.wrap (a - b)) < 0)) == (decide (a < 0)))) then
   some (0,9,())
  else
   some ((IntKind.i64.wrap (a - b)),0,())
 else
  some ((IntKind.i64.wrap (a - b)),0,())
noncomputable def num_Sub_C (N:Nat)(a b:Int):Option (RT [(.int .i64),(.int .i64)]):=q22 DR Tryz.prog N (us7 N) num_Sub_H Tryz.f166 (q10 Tryz.f166) (RT [(.int .i64),(.int .i64)]) (qd2 [(.int .i64),(.int .i64)] (a,b,())) [] (q40 [(.int .i64),(.int .i64)])
theorem kc1 (N:Nat)(a b:Int):num_Sub_C N a b=jx6 N a b:=by kernel_rfl
def uv0 (m:Int→Int→Option (Int×Int×Unit)):Ent:=q35 [(.int .i64),(.int .i64)] [(.int .i64),(.int .i64)] fun (x:Els [(.int .i64),(.int .i64)])=>m x.1 x.2.1
def vc1 (N:Nat):Ent:=uv0 (jx6 N)
theorem u61 (N:Nat):q16 Tryz.prog 166 (vc1 N):=q15 (kr8 N) Tryz.func166 rfl (by kernel_rfl) fun (x:Els [(.int .i64),(.int .i64)])=>kc1 N x.1 x.2.1
def uh2 :FH:=⟨[],[],[(8,⟨16,54,0,[],[]⟩)],[],false,[],[]⟩
noncomputable def x36 (N:Nat):q48:=tab [(217,qs4 N),(166,vc1 N),(218,qw1 N)]
theorem vp7 (N:Nat):q13 Tryz.prog (x36 N):=q06 (qt2 N) <| q06 (u61 N) <| q06 (qy0 N) <| q27 _
def ym6 (N:Nat)(a b:q00):Option OX3 :=
 (q96 N ([a,b]:List q00)).bind fun r =>
 bif r.2.1 then
  some ((0,0,[],()),r.2.2.1,())
 else
  bif (r.2.2.1 != 0) then
   some ((0,0,[],()),r.2.2.1,())
  else
   bif inR 0 r.1.length then
   bif (((q24 r.1 0 q29).1) == 2) then
    bif inR 0 r.1.length then
    bif inR 1 r.1.length then
    (jx6 N ((q24 r.1 0 q29).2.1) ((q24 r.1 1 q29).2.1)).bind fun r1 =>
    bif (r1.2.1 != 0) then
     some ((0,0,[],()),r1.2.1,())
    else
     bif inR 0 r.1.length then
     some (((q24 r.1 0 q29).1,r1.1,[],()),0,())
     else none
    else none
    else none
   else
    bif inR 0 r.1.length then
    bif inR 1 r.1.length then
    (jx6 N ((q24 r.1 0 q29).2.1) ((q24 r.1 1 q29).2.1)).bind fun r2 =>
    bif (r2.2.1 != 0) then
     some ((0,0,[],()),r2.2.1,())
    else
     bif inR 0 r.1.length then
     some (((q24 r.1 0 q29).1,r2.1,[],()),0,())
     else none
    else none
    else none
   else none
abbrev yf9 :List PK:=[.val q05,.val q05,.fn 166 0,.fn 166 0]
noncomputable def ua8 (N:Nat)(a b:q00):Option (RT [q05,(.int .i64)]):=q22 DR Tryz.prog N (x36 N) uh2 Tryz.f164 (q10 Tryz.f164) (RT [q05,(.int .i64)]) (qx9 yf9 (a,b,())) [] (q40 [q05,(.int .i64)])
theorem ve3 (N:Nat)(a b:q00):ua8 N a b=ym6 N a b:=by kernel_rfl
def xw1 (m:q00→q00→Option OX3):Ent:=qf1 yf9 [q05,(.int .i64)] fun (x:Els [q05,q05])=>m x.1 x.2.1
def y29 (N:Nat):Ent:=xw1 (ym6 N)
theorem xc7 (N:Nat):q16 Tryz.prog 164 (y29 N):=q51 (vp7 N) Tryz.func164 rfl (by kernel_rfl) (by kernel_rfl) fun (x:Els [q05,q05])=>ve3 N x.1 x.2.1
def kb8 :FH:=⟨[],[],[],[],false,[],[]⟩
noncomputable def v26 (N:Nat):q48:=tab [(164,y29 N)]
theorem uq7 (N:Nat):q13 Tryz.prog (v26 N):=q06 (xc7 N) <| q27 _
def zj5 (N:Nat)(a b:q00):Option OX3 :=
 (ym6 N a b).bind fun r =>
 some r
noncomputable def k50 (N:Nat)(a b:q00):Option (RT [q05,(.int .i64)]):=q22 DR Tryz.prog N (v26 N) kb8 Tryz.f96 (q10 Tryz.f96) (RT [q05,(.int .i64)]) (qd2 [q05,q05] (a,b,())) [] (q40 [q05,(.int .i64)])
theorem u73 (N:Nat)(a b:q00):k50 N a b=zj5 N a b:=by kernel_rfl
def vn6 (m:q00→q00→Option OX3):Ent:=q35 [q05,q05] [q05,(.int .i64)] fun (x:Els [q05,q05])=>m x.1 x.2.1
def j77 (N:Nat):Ent:=vn6 (zj5 N)
theorem jv5 (N:Nat):q16 Tryz.prog 96 (j77 N):=q15 (uq7 N) Tryz.func96 rfl (by kernel_rfl) fun (x:Els [q05,q05])=>u73 N x.1 x.2.1
noncomputable def z97 (N:Nat):q48:=tab [(96,j77 N),(101,qg9 N)]
theorem y27 (N:Nat):q13 Tryz.prog (z97 N):=q06 (jv5 N) <| q06 (qe1 N) <| q27 _
noncomputable def wn8 (N:Nat):Ent:=zn6 Tryz.prog N (z97 N) ⟨[],[],[(1,⟨10,15,0,[],[]⟩)],[],false,[],[]⟩ Tryz.f163 (q10 Tryz.f163)
theorem zw5 (N:Nat):q16 Tryz.prog 163 (wn8 N):=qc2 (y27 N) Tryz.func163 rfl (by kernel_rfl)
def z80 :LH:=⟨[(2,.asis),(3,.asis),(6,.asis),(7,.own q05 507 26 3),(10,.int .i64),(11,.int .i64)],[],[.cells [.lst q07,.lst .bool],.cells [.int .u8,.int .i64,.str,.int .i64]]⟩
def qv0 :FH:=⟨[z80],[],[],[],false,[],[]⟩
noncomputable def we9 (N:Nat):q48:=tab [(153,q52 N),(163,wn8 N)]
theorem y88 (N:Nat):q13 Tryz.prog (we9 N):=q06 (q49 N) <| q06 (zw5 N) <| q27 _
noncomputable def zd4 :Sc:=wl6 Tryz.prog qv0
noncomputable def za2 (N:Nat):Cfg:=⟨N,we9 N,0⟩
noncomputable def jq9 (N:Nat):Exit→List TV→List TOb→Option q03:=fin Tryz.prog 0 Tryz.f99.results.toList (q40 [q07])
def w97 (n:Int)(k_l:List q03)(q09:List Bool)(q04 q20:Int)(q19:List UInt8)(q62:Int)(e:List q00×Int):List TV:=match e with
 | (l,t11)=>frm 30 [(2,.func (.func 163) [.ep [.func (.func 96) []] 0]),(3,.ref 0 0),(6,.ref 1 0),(7,.tl q05 l (.own 507 26 3)),(10,.int .i64 n),(11,.int .i64 t11)]
def w85 (n:Int)(k_l:List q03)(q09:List Bool)(q04 q20:Int)(q19:List UInt8)(q62:Int)(e:List q00×Int):List TOb:=match e with
 | (l,t11)=>[.cells [.tl q07 k_l .unk,.tl .bool q09 .unk] 118 true,.cells [.int .u8 q04,.int .i64 q20,.str q19,.int .i64 q62] 115 true]
noncomputable def z72 (N:Nat):(List TV→List TOb→Option q03)→List TV→List TOb→Option q03:=w54 DR zd4 (za2 N) (ql6 (qc4 (q08 (q87 (q08 (q08 (q10 Tryz.f99))))))) z80 (qv0.loops.drop 1) (qk0 0 (qc3 DR zd4 (za2 N) (q08 (q08 (q08 (q10 Tryz.f99)))) (qv0.loops.drop 1) (jq9 N)))
def w79 (N:Nat)(n:Int)(k_l:List q03)(q09:List Bool)(q04 q20:Int)(q19:List UInt8)(q62:Int)(K0:(List q00×Int)→Option q03)(e:List q00×Int):Option q03 :=
 match e with
 | (l,t11) =>
  bif decide (t11 < n) then
   (q58 N (k_l,q09,()) t11).bind fun r =>
   bif (r.2.1 != 0) then
    some r
   else
    bif w23 (l.length + ([r.1]:List q00).length) 4398046511104 then
    bif q26 (t11 + 1) then
    K0 ((l ++ ([r.1]:List q00)),t11 + 1)
    else none
    else none
  else
   bif inR 0 l.length then
   bif inR 1 l.length then
   (zj5 N (q24 l 0 q29) (q24 l 1 q29)).bind fun r1 =>
   (qc7 N r1.1 r1.2.1).bind fun r2 =>
   some r2
   else none
   else none
theorem yc7 (N:Nat)(n:Int)(k_l:List q03)(q09:List Bool)(q04 q20:Int)(q19:List UInt8)(q62:Int)(n_:Nat)(e:List q00×Int):q57 (z72 N ) n_ ((w97 n k_l q09 q04 q20 q19 q62) e) ((w85 n k_l q09 q04 q20 q19 q62) e)=q86 (w79 N n k_l q09 q04 q20 q19 q62 ) n_ e :=
 q39 (w97 n k_l q09 q04 q20 q19 q62) (w85 n k_l q09 q04 q20 q19 q62) (by intro K e; obtain ⟨l,t11⟩:=e; kernel_rfl) n_ e
def zk5 (N:Nat)(k:q34)(n:Int)(l1:Int→(List q03)→(List Bool)→Int→Int→(List UInt8)→Int→(List q00×Int)→Option q03):Option q03 :=
 l1 n k.1 k.2.1 0 0 [] 0 ([],0)
def qq8 (N:Nat)(k:q34)(n:Int):Option q03:=zk5 N k n (fun n k_l q09 q04 q20 q19 q62 e=>q86 (w79 N n k_l q09 q04 q20 q19 q62) N e)
abbrev zb0 :List PK:=[.val q65,.val (.int .i64),.fn 163 1,.ep 1,.fn 96 0]
noncomputable def zh3 (N:Nat)(k:q34)(n:Int):Option (RT [q07]):=q22 DR Tryz.prog N (we9 N) qv0 Tryz.f99 (q10 Tryz.f99) (RT [q07]) (qx9 zb0 (k,n,())) [] (q40 [q07])
theorem jz5 (N:Nat)(k:q34)(n:Int):zh3 N k n=qq8 N k n:=by
 have h:zh3 N k n=zk5 N k n (fun n k_l q09 q04 q20 q19 q62 e=>q57 (z72 N ) N (w97 n k_l q09 q04 q20 q19 q62 e) (w85 n k_l q09 q04 q20 q19 q62 e)):=by kernel_rfl
 rw [h]
 simp only [qq8,yc7] <;> rfl
def jj5 (m:q34→Int→Option q03):Ent:=qf1 zb0 [q07] fun (x:Els [q65,(.int .i64)])=>m x.1 x.2.1
def z13 (N:Nat):Ent:=jj5 (qq8 N)
theorem je5 (N:Nat):q16 Tryz.prog 99 (z13 N):=q51 (y88 N) Tryz.func99 rfl (by kernel_rfl) (by kernel_rfl) fun (x:Els [q65,(.int .i64)])=>jz5 N x.1 x.2.1
def up9 :FH:=⟨[],[],[],[],false,[],[]⟩
noncomputable def xl5 (N:Nat):q48:=tab []
theorem uc6 (N:Nat):q13 Tryz.prog (xl5 N):=q27 _
def j38 (N:Nat)(x:Int):Option Int :=
 bif decide (x ≥ 4294967296) then
  bif decide ((qm4 .u64 x (32:Int)) ≥ 65536) then
   bif decide ((qm4 .u64 (qm4 .u64 x (32:Int)) (16:Int)) ≥ 256) then
    bif inR (IntKind.u8.wrap (qm4 .u64 (qm4 .u64 (qm4 .u64 x (32:Int)) (16:Int)) (8:Int))) q72.length then
    bif q26 (q37 q72 (IntKind.u8.wrap (qm4 .u64 (qm4 .u64 (qm4 .u64 x (32:Int)) (16:Int)) (8:Int)))) then
    bif q26 (56 + (q37 q72 (IntKind.u8.wrap (qm4 .u64 (qm4 .u64 (qm4 .u64 x (32:Int)) (16:Int)) (8:Int))))) then
    some (56 + (q37 q72 (IntKind.u8.wrap (qm4 .u64 (qm4 .u64 (qm4 .u64 x (32:Int)) (16:Int)) (8:Int)))))
    else none
    else none
    else none
   else
    bif inR (IntKind.u8.wrap (qm4 .u64 (qm4 .u64 x (32:Int)) (16:Int))) q72.length then
    bif q26 (q37 q72 (IntKind.u8.wrap (qm4 .u64 (qm4 .u64 x (32:Int)) (16:Int)))) then
    bif q26 (48 + (q37 q72 (IntKind.u8.wrap (qm4 .u64 (qm4 .u64 x (32:Int)) (16:Int))))) then
    some (48 + (q37 q72 (IntKind.u8.wrap (qm4 .u64 (qm4 .u64 x (32:Int)) (16:Int)))))
    else none
    else none
    else none
  else
   bif decide ((qm4 .u64 x (32:Int)) ≥ 256) then
    bif inR (IntKind.u8.wrap (qm4 .u64 (qm4 .u64 x (32:Int)) (8:Int))) q72.length then
    bif q26 (q37 q72 (IntKind.u8.wrap (qm4 .u64 (qm4 .u64 x (32:Int)) (8:Int)))) then
    bif q26 (40 + (q37 q72 (IntKind.u8.wrap (qm4 .u64 (qm4 .u64 x (32:Int)) (8:Int))))) then
    some (40 + (q37 q72 (IntKind.u8.wrap (qm4 .u64 (qm4 .u64 x (32:Int)) (8:Int)))))
    else none
    else none
    else none
   else
    bif inR (IntKind.u8.wrap (qm4 .u64 x (32:Int))) q72.length then
    bif q26 (q37 q72 (IntKind.u8.wrap (qm4 .u64 x (32:Int)))) then
    bif q26 (32 + (q37 q72 (IntKind.u8.wrap (qm4 .u64 x (32:Int))))) then
    some (32 + (q37 q72 (IntKind.u8.wrap (qm4 .u64 x (32:Int)))))
    else none
    else none
    else none
 else
  bif decide (x ≥ 65536) then
   bif decide ((qm4 .u64 x (16:Int)) ≥ 256) then
    bif inR (IntKind.u8.wrap (qm4 .u64 (qm4 .u64 x (16:Int)) (8:Int))) q72.length then
    bif q26 (q37 q72 (IntKind.u8.wrap (qm4 .u64 (qm4 .u64 x (16:Int)) (8:Int)))) then
    bif q26 (24 + (q37 q72 (IntKind.u8.wrap (qm4 .u64 (qm4 .u64 x (16:Int)) (8:Int))))) then
    some (24 + (q37 q72 (IntKind.u8.wrap (qm4 .u64 (qm4 .u64 x (16:Int)) (8:Int)))))
    else none
    else none
    else none
   else
    bif inR (IntKind.u8.wrap (qm4 .u64 x (16:Int))) q72.length then
    bif q26 (q37 q72 (IntKind.u8.wrap (qm4 .u64 x (16:Int)))) then
    bif q26 (16 + (q37 q72 (IntKind.u8.wrap (qm4 .u64 x (16:Int))))) then
    some (16 + (q37 q72 (IntKind.u8.wrap (qm4 .u64 x (16:Int)))))
    else none
    else none
    else none
  else
   bif decide (x ≥ 256) then
    bif inR (IntKind.u8.wrap (qm4 .u64 x (8:Int))) q72.length then
    bif q26 (q37 q72 (IntKind.u8.wrap (qm4 .u64 x (8:Int)))) then
    bif q26 (8 + (q37 q72 (IntKind.u8.wrap (qm4 .u64 x (8:Int))))) then
    some (8 + (q37 q72 (IntKind.u8.wrap (qm4 .u64 x (8:Int)))))
    else none
    else none
    else none
   else
    bif inR (IntKind.u8.wrap x) q72.length then
    bif q26 (q37 q72 (IntKind.u8.wrap x)) then
    bif q26 (0 + (q37 q72 (IntKind.u8.wrap x))) then
    some (0 + (q37 q72 (IntKind.u8.wrap x)))
    else none
    else none
    else none
noncomputable def uq4 (N:Nat)(x:Int):Option (RT [(.int .i64)]):=q22 DR Tryz.prog N (xl5 N) up9 Tryz.f288 (q10 Tryz.f288) (RT [(.int .i64)]) (qd2 [(.int .u64)] (x,())) [] (q40 [(.int .i64)])
theorem vq8 (N:Nat)(x:Int):uq4 N x=j38 N x:=by kernel_rfl
def v85 (m:Int→Option Int):Ent:=q35 [(.int .u64)] [(.int .i64)] fun (x:Els [(.int .u64)])=>m x.1
def yg6 (N:Nat):Ent:=v85 (j38 N)
theorem xs3 (N:Nat):q16 Tryz.prog 288 (yg6 N):=q15 (uc6 N) Tryz.func288 rfl (by kernel_rfl) fun (x:Els [(.int .u64)])=>vq8 N x.1
def jv3 :FH:=⟨[],[],[],[],false,[],[]⟩
noncomputable def wy4 (N:Nat):q48:=tab [(288,yg6 N)]
theorem jn0 (N:Nat):q13 Tryz.prog (wy4 N):=q06 (xs3 N) <| q27 _
def qk3 (N:Nat)(x:Int):Option Int :=
 (j38 N x).bind fun r =>
 bif q26 (64 - r) then
 some (64 - r)
 else none
noncomputable def jw0 (N:Nat)(x:Int):Option (RT [(.int .i64)]):=q22 DR Tryz.prog N (wy4 N) jv3 Tryz.f284 (q10 Tryz.f284) (RT [(.int .i64)]) (qd2 [(.int .u64)] (x,())) [] (q40 [(.int .i64)])
theorem ja7 (N:Nat)(x:Int):jw0 N x=qk3 N x:=by kernel_rfl
def j49 (m:Int→Option Int):Ent:=q35 [(.int .u64)] [(.int .i64)] fun (x:Els [(.int .u64)])=>m x.1
def wh6 (N:Nat):Ent:=j49 (qk3 N)
theorem zt7 (N:Nat):q16 Tryz.prog 284 (wh6 N):=q15 (jn0 N) Tryz.func284 rfl (by kernel_rfl) fun (x:Els [(.int .u64)])=>ja7 N x.1
def yy6 :LH:=⟨[(2,.int .u64),(8,.int .u64),(9,.int .u64),(10,.int .u64),(11,.int .u64),(13,.int .u64),(14,.int .u64),(15,.int .u64),(16,.int .u64)],[],[]⟩
def zf3 :LH:=⟨[(2,.int .u64),(8,.int .u64),(9,.int .u64),(10,.int .u64),(14,.int .u64),(15,.int .u64),(16,.int .u64),(17,.int .u64),(18,.int .u64)],[],[]⟩
def qi9 :FH:=⟨[yy6,zf3],[],[(6,⟨7,135,0,[],[]⟩)],[],false,[],[]⟩
noncomputable def js4 (N:Nat):q48:=tab [(284,wh6 N)]
theorem ua5 (N:Nat):q13 Tryz.prog (js4 N):=q06 (zt7 N) <| q27 _
noncomputable def qn8 :Sc:=wl6 Tryz.prog qi9
noncomputable def qo3 (N:Nat):Cfg:=⟨N,js4 N,0⟩
noncomputable def ws0 (N:Nat):Exit→List TV→List TOb→Option (Int×Int×Unit):=fin Tryz.prog 0 Tryz.f259.results.toList (q40 [(.int .u64),(.int .u64)])
def wj3 (y1 s yn1 yn0 un32 un1 un0:Int)(e:Int×Int):List TV:=match e with
 | (q1,rhat)=>frm 135 [(2,.int .u64 y1),(8,.int .u64 s),(9,.int .u64 yn1),(10,.int .u64 yn0),(11,.int .u64 un32),(13,.int .u64 un1),(14,.int .u64 un0),(15,.int .u64 q1),(16,.int .u64 rhat)]
def wi8 (y1 s yn1 yn0 un32 un1 un0:Int)(e:Int×Int):List TOb:=match e with
 | (q1,rhat)=>[]
def jc3 (y1 s yn1 yn0 un0 q1 un212:Int)(e:Int×Int):List TV:=match e with
 | (rhat3,q02)=>frm 135 [(2,.int .u64 y1),(8,.int .u64 s),(9,.int .u64 yn1),(10,.int .u64 yn0),(14,.int .u64 un0),(15,.int .u64 q1),(16,.int .u64 rhat3),(17,.int .u64 un212),(18,.int .u64 q02)]
def j84 (y1 s yn1 yn0 un0 q1 un212:Int)(e:Int×Int):List TOb:=match e with
 | (rhat3,q02)=>[]
def j93 (y1 s yn1 yn0 un0 q12 un211:Int)(e:Int×Int):List TV:=match e with
 | (rhat2,q01)=>frm 135 [(2,.int .u64 y1),(8,.int .u64 s),(9,.int .u64 yn1),(10,.int .u64 yn0),(14,.int .u64 un0),(15,.int .u64 q12),(16,.int .u64 rhat2),(17,.int .u64 un211),(18,.int .u64 q01)]
def jc0 (y1 s yn1 yn0 un0 q12 un211:Int)(e:Int×Int):List TOb:=match e with
 | (rhat2,q01)=>[]
def jf5 (y1 s yn1 yn0 un0 q11 un21:Int)(e:Int×Int):List TV:=match e with
 | (rhat1,q0)=>frm 135 [(2,.int .u64 y1),(8,.int .u64 s),(9,.int .u64 yn1),(10,.int .u64 yn0),(14,.int .u64 un0),(15,.int .u64 q11),(16,.int .u64 rhat1),(17,.int .u64 un21),(18,.int .u64 q0)]
def jd0 (y1 s yn1 yn0 un0 q11 un21:Int)(e:Int×Int):List TOb:=match e with
 | (rhat1,q0)=>[]
noncomputable def x53 (N:Nat):(List TV→List TOb→Option (Int×Int×Unit))→List TV→List TOb→Option (Int×Int×Unit):=w54 DR qn8 (qo3 N) (ql6 (qc4 (q87 (q08 (q08 (q08 (q08 (q08 (q08 (q08 (q08 (q08 (q08 (q08 (q08 (q08 (q08 (q08 (q08 (q08 (q08 (q10 Tryz.f259)))))))))))))))))))))) zf3 (qi9.loops.drop 2) (qk0 2 (qc3 DR qn8 (qo3 N) (q08 (q08 (q08 (q08 (q08 (q08 (q08 (q08 (q08 (q08 (q08 (q08 (q08 (q08 (q08 (q08 (q08 (q08 (q08 (q10 Tryz.f259)))))))))))))))))))) (qi9.loops.drop 2) (ws0 N)))
def w48 (N:Nat)(y1 s yn1 yn0 un0 q11 un21:Int)(K1:(Int×Int)→Option (Int×Int×Unit))(e:Int×Int):Option (Int×Int×Unit) :=
 match e with
 | (rhat1,q0) =>
  bif decide (q0 ≥ 4294967296) then
   bif decide ((IntKind.u64.wrap (rhat1 + yn1)) ≥ 4294967296) then
    bif !(decide (s < 0)) then
    some ((IntKind.u64.wrap ((IntKind.u64.wrap (q11 * 4294967296)) + (IntKind.u64.wrap (q0 - 1)))),(qm4 .u64 (IntKind.u64.wrap ((IntKind.u64.wrap ((IntKind.u64.wrap (un21 * 4294967296)) + un0)) - (IntKind.u64.wrap ((IntKind.u64.wrap (q0 - 1)) * y1)))) s),())
    else none
   else
    K1 ((IntKind.u64.wrap (rhat1 + yn1)),(IntKind.u64.wrap (q0 - 1)))
  else
   bif decide ((IntKind.u64.wrap (q0 * yn0)) > (IntKind.u64.wrap ((IntKind.u64.wrap (4294967296 * rhat1)) + un0))) then
    bif decide ((IntKind.u64.wrap (rhat1 + yn1)) ≥ 4294967296) then
     bif !(decide (s < 0)) then
     some ((IntKind.u64.wrap ((IntKind.u64.wrap (q11 * 4294967296)) + (IntKind.u64.wrap (q0 - 1)))),(qm4 .u64 (IntKind.u64.wrap ((IntKind.u64.wrap ((IntKind.u64.wrap (un21 * 4294967296)) + un0)) - (IntKind.u64.wrap ((IntKind.u64.wrap (q0 - 1)) * y1)))) s),())
     else none
    else
     K1 ((IntKind.u64.wrap (rhat1 + yn1)),(IntKind.u64.wrap (q0 - 1)))
   else
    bif !(decide (s < 0)) then
    some ((IntKind.u64.wrap ((IntKind.u64.wrap (q11 * 4294967296)) + q0)),(qm4 .u64 (IntKind.u64.wrap ((IntKind.u64.wrap ((IntKind.u64.wrap (un21 * 4294967296)) + un0)) - (IntKind.u64.wrap (q0 * y1)))) s),())
    else none
theorem u96 (N:Nat)(y1 s yn1 yn0 un0 q11 un21:Int)(n_:Nat)(e:Int×Int):q57 (x53 N ) n_ ((jf5 y1 s yn1 yn0 un0 q11 un21) e) ((jd0 y1 s yn1 yn0 un0 q11 un21) e)=q86 (w48 N y1 s yn1 yn0 un0 q11 un21 ) n_ e :=
 q39 (jf5 y1 s yn1 yn0 un0 q11 un21) (jd0 y1 s yn1 yn0 un0 q11 un21) (by intro K e; obtain ⟨rhat1,q0⟩:=e; kernel_rfl) n_ e
noncomputable def x45 (N:Nat):(List TV→List TOb→Option (Int×Int×Unit))→List TV→List TOb→Option (Int×Int×Unit):=w54 DR qn8 (qo3 N) (ql6 (qc4 (q87 (q08 (q08 (q08 (q08 (q08 (q08 (q08 (q08 (q08 (q08 (q08 (q08 (q08 (q08 (q08 (q08 (q08 (q08 (q10 Tryz.f259)))))))))))))))))))))) zf3 (qi9.loops.drop 2) (qk0 2 (qc3 DR qn8 (qo3 N) (q08 (q08 (q08 (q08 (q08 (q08 (q08 (q08 (q08 (q08 (q08 (q08 (q08 (q08 (q08 (q08 (q08 (q08 (q08 (q10 Tryz.f259)))))))))))))))))))) (qi9.loops.drop 2) (ws0 N)))
def yt5 (N:Nat)(y1 s yn1 yn0 un0 q12 un211:Int)(K1:(Int×Int)→Option (Int×Int×Unit))(e:Int×Int):Option (Int×Int×Unit) :=
 match e with
 | (rhat2,q01) =>
  bif decide (q01 ≥ 4294967296) then
   bif decide ((IntKind.u64.wrap (rhat2 + yn1)) ≥ 4294967296) then
    bif !(decide (s < 0)) then
    some ((IntKind.u64.wrap ((IntKind.u64.wrap (q12 * 4294967296)) + (IntKind.u64.wrap (q01 - 1)))),(qm4 .u64 (IntKind.u64.wrap ((IntKind.u64.wrap ((IntKind.u64.wrap (un211 * 4294967296)) + un0)) - (IntKind.u64.wrap ((IntKind.u64.wrap (q01 - 1)) * y1)))) s),())
    else none
   else
    K1 ((IntKind.u64.wrap (rhat2 + yn1)),(IntKind.u64.wrap (q01 - 1)))
  else
   bif decide ((IntKind.u64.wrap (q01 * yn0)) > (IntKind.u64.wrap ((IntKind.u64.wrap (4294967296 * rhat2)) + un0))) then
    bif decide ((IntKind.u64.wrap (rhat2 + yn1)) ≥ 4294967296) then
     bif !(decide (s < 0)) then
     some ((IntKind.u64.wrap ((IntKind.u64.wrap (q12 * 4294967296)) + (IntKind.u64.wrap (q01 - 1)))),(qm4 .u64 (IntKind.u64.wrap ((IntKind.u64.wrap ((IntKind.u64.wrap (un211 * 4294967296)) + un0)) - (IntKind.u64.wrap ((IntKind.u64.wrap (q01 - 1)) * y1)))) s),())
     else none
    else
     K1 ((IntKind.u64.wrap (rhat2 + yn1)),(IntKind.u64.wrap (q01 - 1)))
   else
    bif !(decide (s < 0)) then
    some ((IntKind.u64.wrap ((IntKind.u64.wrap (q12 * 4294967296)) + q01)),(qm4 .u64 (IntKind.u64.wrap ((IntKind.u64.wrap ((IntKind.u64.wrap (un211 * 4294967296)) + un0)) - (IntKind.u64.wrap (q01 * y1)))) s),())
    else none
theorem ui3 (N:Nat)(y1 s yn1 yn0 un0 q12 un211:Int)(n_:Nat)(e:Int×Int):q57 (x45 N ) n_ ((j93 y1 s yn1 yn0 un0 q12 un211) e) ((jc0 y1 s yn1 yn0 un0 q12 un211) e)=q86 (yt5 N y1 s yn1 yn0 un0 q12 un211 ) n_ e :=
 q39 (j93 y1 s yn1 yn0 un0 q12 un211) (jc0 y1 s yn1 yn0 un0 q12 un211) (by intro K e; obtain ⟨rhat2,q01⟩:=e; kernel_rfl) n_ e
noncomputable def x01 (N:Nat):(List TV→List TOb→Option (Int×Int×Unit))→List TV→List TOb→Option (Int×Int×Unit):=w54 DR qn8 (qo3 N) (ql6 (qc4 (q87 (q08 (q08 (q08 (q08 (q08 (q08 (q08 (q08 (q08 (q08 (q08 (q08 (q08 (q08 (q08 (q08 (q08 (q08 (q10 Tryz.f259)))))))))))))))))))))) zf3 (qi9.loops.drop 2) (qk0 2 (qc3 DR qn8 (qo3 N) (q08 (q08 (q08 (q08 (q08 (q08 (q08 (q08 (q08 (q08 (q08 (q08 (q08 (q08 (q08 (q08 (q08 (q08 (q08 (q10 Tryz.f259)))))))))))))))))))) (qi9.loops.drop 2) (ws0 N)))
def x33 (N:Nat)(y1 s yn1 yn0 un0 q1 un212:Int)(K1:(Int×Int)→Option (Int×Int×Unit))(e:Int×Int):Option (Int×Int×Unit) :=
 match e with
 | (rhat3,q02) =>
  bif decide (q02 ≥ 4294967296) then
   bif decide ((IntKind.u64.wrap (rhat3 + yn1)) ≥ 4294967296) then
    bif !(decide (s < 0)) then
    some ((IntKind.u64.wrap ((IntKind.u64.wrap (q1 * 4294967296)) + (IntKind.u64.wrap (q02 - 1)))),(qm4 .u64 (IntKind.u64.wrap ((IntKind.u64.wrap ((IntKind.u64.wrap (un212 * 4294967296)) + un0)) - (IntKind.u64.wrap ((IntKind.u64.wrap (q02 - 1)) * y1)))) s),())
    else none
   else
    K1 ((IntKind.u64.wrap (rhat3 + yn1)),(IntKind.u64.wrap (q02 - 1)))
  else
   bif decide ((IntKind.u64.wrap (q02 * yn0)) > (IntKind.u64.wrap ((IntKind.u64.wrap (4294967296 * rhat3)) + un0))) then
    bif decide ((IntKind.u64.wrap (rhat3 + yn1)) ≥ 4294967296) then
     bif !(decide (s < 0)) then
     some ((IntKind.u64.wrap ((IntKind.u64.wrap (q1 * 4294967296)) + (IntKind.u64.wrap (q02 - 1)))),(qm4 .u64 (IntKind.u64.wrap ((IntKind.u64.wrap ((IntKind.u64.wrap (un212 * 4294967296)) + un0)) - (IntKind.u64.wrap ((IntKind.u64.wrap (q02 - 1)) * y1)))) s),())
     else none
    else
     K1 ((IntKind.u64.wrap (rhat3 + yn1)),(IntKind.u64.wrap (q02 - 1)))
   else
    bif !(decide (s < 0)) then
    some ((IntKind.u64.wrap ((IntKind.u64.wrap (q1 * 4294967296)) + q02)),(qm4 .u64 (IntKind.u64.wrap ((IntKind.u64.wrap ((IntKind.u64.wrap (un212 * 4294967296)) + un0)) - (IntKind.u64.wrap (q02 * y1)))) s),())
    else none
theorem u50 (N:Nat)(y1 s yn1 yn0 un0 q1 un212:Int)(n_:Nat)(e:Int×Int):q57 (x01 N ) n_ ((jc3 y1 s yn1 yn0 un0 q1 un212) e) ((j84 y1 s yn1 yn0 un0 q1 un212) e)=q86 (x33 N y1 s yn1 yn0 un0 q1 un212 ) n_ e :=
 q39 (jc3 y1 s yn1 yn0 un0 q1 un212) (j84 y1 s yn1 yn0 un0 q1 un212) (by intro K e; obtain ⟨rhat3,q02⟩:=e; kernel_rfl) n_ e
noncomputable def jg2 (N:Nat):(List TV→List TOb→Option (Int×Int×Unit))→List TV→List TOb→Option (Int×Int×Unit):=w54 DR qn8 (qo3 N) (ql6 (qc4 (q87 (q08 (q08 (q08 (q08 (q08 (q08 (q08 (q08 (q08 (q08 (q08 (q08 (q08 (q08 (q10 Tryz.f259)))))))))))))))))) yy6 (qi9.loops.drop 1) (qk0 0 (qc3 DR qn8 (qo3 N) (q08 (q08 (q08 (q08 (q08 (q08 (q08 (q08 (q08 (q08 (q08 (q08 (q08 (q08 (q08 (q10 Tryz.f259)))))))))))))))) (qi9.loops.drop 1) (ws0 N)))
def zv3 (N:Nat)(y1 s yn1 yn0 un32 un1 un0:Int)(l2 l3 l4:Int→Int→Int→Int→Int→Int→Int→(Int×Int)→Option (Int×Int×Unit))(K0:(Int×Int)→Option (Int×Int×Unit))(e:Int×Int):Option (Int×Int×Unit) :=
 match e with
 | (q1,rhat) =>
  bif decide (q1 ≥ 4294967296) then
   bif decide ((IntKind.u64.wrap (rhat + yn1)) ≥ 4294967296) then
    bif (decide (yn1≠0) && true) then
    l2 y1 s yn1 yn0 un0 (IntKind.u64.wrap (q1 - 1)) (IntKind.u64.wrap ((IntKind.u64.wrap ((IntKind.u64.wrap (un32 * 4294967296)) + un1)) - (IntKind.u64.wrap ((IntKind.u64.wrap (q1 - 1)) * y1)))) ((IntKind.u64.wrap ((IntKind.u64.wrap ((IntKind.u64.wrap ((IntKind.u64.wrap (un32 * 4294967296)) + un1)) - (IntKind.u64.wrap ((IntKind.u64.wrap (q1 - 1)) * y1)))) - (IntKind.u64.wrap ((IntKind.u64.wrap (Int.tdiv (IntKind.u64.wrap ((IntKind.u64.wrap ((IntKind.u64.wrap (un32 * 4294967296)) + un1)) - (IntKind.u64.wrap ((IntKind.u64.wrap (q1 - 1)) * y1)))) yn1)) * yn1)))),(IntKind.u64.wrap (Int.tdiv (IntKind.u64.wrap ((IntKind.u64.wrap ((IntKind.u64.wrap (un32 * 4294967296)) + un1)) - (IntKind.u64.wrap ((IntKind.u64.wrap (q1 - 1)) * y1)))) yn1)))
    else none
   else
    K0 ((IntKind.u64.wrap (q1 - 1)),(IntKind.u64.wrap (rhat + yn1)))
  else
   bif decide ((IntKind.u64.wrap (q1 * yn0)) > (IntKind.u64.wrap ((IntKind.u64.wrap (4294967296 * rhat)) + un1))) then
    bif decide ((IntKind.u64.wrap (rhat + yn1)) ≥ 4294967296) then
     bif (decide (yn1≠0) && true) then
     l3 y1 s yn1 yn0 un0 (IntKind.u64.wrap (q1 - 1)) (IntKind.u64.wrap ((IntKind.u64.wrap ((IntKind.u64.wrap (un32 * 4294967296)) + un1)) - (IntKind.u64.wrap ((IntKind.u64.wrap (q1 - 1)) * y1)))) ((IntKind.u64.wrap ((IntKind.u64.wrap ((IntKind.u64.wrap ((IntKind.u64.wrap (un32 * 4294967296)) + un1)) - (IntKind.u64.wrap ((IntKind.u64.wrap (q1 - 1)) * y1)))) - (IntKind.u64.wrap ((IntKind.u64.wrap (Int.tdiv (IntKind.u64.wrap ((IntKind.u64.wrap ((IntKind.u64.wrap (un32 * 4294967296)) + un1)) - (IntKind.u64.wrap ((IntKind.u64.wrap (q1 - 1)) * y1)))) yn1)) * yn1)))),(IntKind.u64.wrap (Int.tdiv (IntKind.u64.wrap ((IntKind.u64.wrap ((IntKind.u64.wrap (un32 * 4294967296)) + un1)) - (IntKind.u64.wrap ((IntKind.u64.wrap (q1 - 1)) * y1)))) yn1)))
     else none
    else
     K0 ((IntKind.u64.wrap (q1 - 1)),(IntKind.u64.wrap (rhat + yn1)))
   else
    bif (decide (yn1≠0) && true) then
    l4 y1 s yn1 yn0 un0 q1 (IntKind.u64.wrap ((IntKind.u64.wrap ((IntKind.u64.wrap (un32 * 4294967296)) + un1)) - (IntKind.u64.wrap (q1 * y1)))) ((IntKind.u64.wrap ((IntKind.u64.wrap ((IntKind.u64.wrap ((IntKind.u64.wrap (un32 * 4294967296)) + un1)) - (IntKind.u64.wrap (q1 * y1)))) - (IntKind.u64.wrap ((IntKind.u64.wrap (Int.tdiv (IntKind.u64.wrap ((IntKind.u64.wrap ((IntKind.u64.wrap (un32 * 4294967296)) + un1)) - (IntKind.u64.wrap (q1 * y1)))) yn1)) * yn1)))),(IntKind.u64.wrap (Int.tdiv (IntKind.u64.wrap ((IntKind.u64.wrap ((IntKind.u64.wrap (un32 * 4294967296)) + un1)) - (IntKind.u64.wrap (q1 * y1)))) yn1)))
    else none
def zf5 (N:Nat)(y1 s yn1 yn0 un32 un1 un0:Int)(K0:(Int×Int)→Option (Int×Int×Unit))(e:Int×Int):Option (Int×Int×Unit):=zv3 N y1 s yn1 yn0 un32 un1 un0 (fun y1 s yn1 yn0 un0 q11 un21 e=>q86 (w48 N y1 s yn1 yn0 un0 q11 un21) N e) (fun y1 s yn1 yn0 un0 q12 un211 e=>q86 (yt5 N y1 s yn1 yn0 un0 q12 un211) N e) (fun y1 s yn1 yn0 un0 q1 un212 e=>q86 (x33 N y1 s yn1 yn0 un0 q1 un212) N e) K0 e
theorem uc3 (N:Nat)(y1 s yn1 yn0 un32 un1 un0:Int)(n_:Nat)(e:Int×Int):q57 (jg2 N ) n_ ((wj3 y1 s yn1 yn0 un32 un1 un0) e) ((wi8 y1 s yn1 yn0 un32 un1 un0) e)=q86 (zf5 N y1 s yn1 yn0 un32 un1 un0 ) n_ e :=
 q39 (wj3 y1 s yn1 yn0 un32 un1 un0) (wi8 y1 s yn1 yn0 un32 un1 un0) (by
  intro K e
  have h:(jg2 N ) K ((wj3 y1 s yn1 yn0 un32 un1 un0) e) ((wi8 y1 s yn1 yn0 un32 un1 un0) e)=zv3 N y1 s yn1 yn0 un32 un1 un0 (fun y1 s yn1 yn0 un0 q11 un21 e=>q57 (x53 N ) N (jf5 y1 s yn1 yn0 un0 q11 un21 e) (jd0 y1 s yn1 yn0 un0 q11 un21 e)) (fun y1 s yn1 yn0 un0 q12 un211 e=>q57 (x45 N ) N (j93 y1 s yn1 yn0 un0 q12 un211 e) (jc0 y1 s yn1 yn0 un0 q12 un211 e)) (fun y1 s yn1 yn0 un0 q1 un212 e=>q57 (x01 N ) N (jc3 y1 s yn1 yn0 un0 q1 un212 e) (j84 y1 s yn1 yn0 un0 q1 un212 e)) (fun e=>K ((wj3 y1 s yn1 yn0 un32 un1 un0) e) ((wi8 y1 s yn1 yn0 un32 un1 un0) e)) e:=by obtain ⟨q1,rhat⟩:=e; kernel_rfl
  rw [h]
  simp only [zf5,u96,ui3,u50] <;> rfl) n_ e
def jr5 (N:Nat)(hi lo y:Int)(l1:Int→Int→Int→Int→Int→Int→Int→(Int×Int)→Option (Int×Int×Unit)):Option (Int×Int×Unit) :=
 bif (y == 0) then none else
 bif decide (y≤hi) then none else
 bif (hi == 0) then
  bif (decide (y≠0) && true) then
  bif decide (y≠0) then
  some ((IntKind.u64.wrap (Int.tdiv lo y)),Int.tmod lo y,())
  else none
  else none
 else
  (qk3 N y).bind fun r =>
  bif !(decide ((IntKind.u64.wrap r) < 0)) then
  bif !(decide ((IntKind.u64.wrap r) < 0)) then
  bif !(decide ((IntKind.u64.wrap (64 - (IntKind.u64.wrap r))) < 0)) then
  bif !(decide ((IntKind.u64.wrap r) < 0)) then
  bif (decide ((qm4 .u64 (k25 .u64 y (IntKind.u64.wrap r)) (32:Int))≠0) && true) then
  l1 (k25 .u64 y (IntKind.u64.wrap r)) (IntKind.u64.wrap r) (qm4 .u64 (k25 .u64 y (IntKind.u64.wrap r)) (32:Int)) (z32 .and .u64 (k25 .u64 y (IntKind.u64.wrap r)) 4294967295) (z32 .or .u64 (k25 .u64 hi (IntKind.u64.wrap r)) (qm4 .u64 lo (IntKind.u64.wrap (64 - (IntKind.u64.wrap r))))) (qm4 .u64 (k25 .u64 lo (IntKind.u64.wrap r)) (32:Int)) (z32 .and .u64 (k25 .u64 lo (IntKind.u64.wrap r)) 4294967295) ((IntKind.u64.wrap (Int.tdiv (z32 .or .u64 (k25 .u64 hi (IntKind.u64.wrap r)) (qm4 .u64 lo (IntKind.u64.wrap (64 - (IntKind.u64.wrap r))))) (qm4 .u64 (k25 .u64 y (IntKind.u64.wrap r)) (32:Int)))),(IntKind.u64.wrap ((z32 .or .u64 (k25 .u64 hi (IntKind.u64.wrap r)) (qm4 .u64 lo (IntKind.u64.wrap (64 - (IntKind.u64.wrap r))))) - (IntKind.u64.wrap ((IntKind.u64.wrap (Int.tdiv (z32 .or .u64 (k25 .u64 hi (IntKind.u64.wrap r)) (qm4 .u64 lo (IntKind.u64.wrap (64 - (IntKind.u64.wrap r))))) (qm4 .u64 (k25 .u64 y (IntKind.u64.wrap r)) (32:Int)))) * (qm4 .u64 (k25 .u64 y (IntKind.u64.wrap r)) (32:Int)))))))
  else none
  else none
  else none
  else none
  else none
def zg2 (N:Nat)(hi lo y:Int):Option (Int×Int×Unit):=jr5 N hi lo y (fun y1 s yn1 yn0 un32 un1 un0 e=>q86 (zf5 N y1 s yn1 yn0 un32 un1 un0) N e)
noncomputable def xk0 (N:Nat)(hi lo y:Int):Option (RT [(.int .u64),(.int .u64)]):=q22 DR Tryz.prog N (js4 N) qi9 Tryz.f259 (q10 Tryz.f259) (RT [(.int .u64),(.int .u64)]) (qd2 [(.int .u64),(.int .u64),(.int .u64)] (hi,lo,y,())) [] (q40 [(.int .u64),(.int .u64)])
theorem vp5 (N:Nat)(hi lo y:Int):xk0 N hi lo y=zg2 N hi lo y:=by
 have h:xk0 N hi lo y=jr5 N hi lo y (fun y1 s yn1 yn0 un32 un1 un0 e=>q57 (jg2 N ) N (wj3 y1 s yn1 yn0 un32 un1 un0 e) (wi8 y1 s yn1 yn0 un32 un1 un0 e)):=by kernel_rfl
 rw [h]
 simp only [zg2,uc3] <;> rfl
def v21 (m:Int→Int→Int→Option (Int×Int×Unit)):Ent:=q35 [(.int .u64),(.int .u64),(.int .u64)] [(.int .u64),(.int .u64)] fun (x:Els [(.int .u64),(.int .u64),(.int .u64)])=>m x.1 x.2.1 x.2.2.1
def yf5 (N:Nat):Ent:=v21 (zg2 N)
theorem xv8 (N:Nat):q16 Tryz.prog 259 (yf5 N):=q15 (ua5 N) Tryz.func259 rfl (by kernel_rfl) fun (x:Els [(.int .u64),(.int .u64),(.int .u64)])=>vp5 N x.1 x.2.1 x.2.2.1
noncomputable def yh4 (N:Nat):q48:=tab [(221,w98 N)]
theorem vf0 (N:Nat):q13 Tryz.prog (yh4 N):=q06 (wb5 N) <| q27 _
noncomputable def jg7 (N:Nat):Ent:=zn6 Tryz.prog N (yh4 N) ⟨[],[],[],[],false,[],[]⟩ Tryz.f258 (q10 Tryz.f258)
theorem x20 (N:Nat):q16 Tryz.prog 258 (jg7 N):=qc2 (vf0 N) Tryz.func258 rfl (by kernel_rfl)
def kx4 :FH:=⟨[],[],[(1,⟨9,61,0,[],[]⟩)],[],false,[258],[]⟩
noncomputable def u22 (N:Nat):q48:=tab [(220,wy0 N),(219,ws1 N),(259,yf5 N),(258,jg7 N)]
theorem k45 (N:Nat):q13 Tryz.prog (u22 N):=q06 (ws3 N) <| q06 (z46 N) <| q06 (xv8 N) <| q06 (x20 N) <| q27 _
def y67 (N:Nat)(a b d:Int):Option (Int×Int×Unit) :=
 (w41 N a).bind fun r =>
 (w41 N b).bind fun r1 =>
 (qx5 N r r1).bind fun r2 =>
 (w41 N d).bind fun r3 =>
 bif decide (r2.1 ≥ r3) then
  some (0,9,())
 else
  (zg2 N r2.1 r2.2.1 r3).bind fun r4 =>
  bif decide (r4.2.1 > (IntKind.u64.wrap (r3 - r4.2.1))) then
   bif ((IntKind.u64.wrap (r4.1 + 1)) == 0) then
    some (0,9,())
   else
    (qj4 N (!((!((decide (a < 0)) == (decide (b < 0)))) == (decide (d < 0)))) 0 (IntKind.u64.wrap (r4.1 + 1))).bind fun r5 =>
    some r5
  else
   bif (r4.2.1 == (IntKind.u64.wrap (r3 - r4.2.1))) then
    bif ((z32 .and .u64 r4.1 1) == 1) then
     bif ((IntKind.u64.wrap (r4.1 + 1)) == 0) then
      some (0,9,())
     else
      (qj4 N (!((!((decide (a < 0)) == (decide (b < 0)))) == (decide (d < 0)))) 0 (IntKind.u64.wrap (r4.1 + 1))).bind fun r6 =>
      some r6
    else
     (qj4 N (!((!((decide (a < 0)) == (decide (b < 0)))) == (decide (d < 0)))) 0 r4.1).bind fun r7 =>
     some r7
   else
    (qj4 N (!((!((decide (a < 0)) == (decide (b < 0)))) == (decide (d < 0)))) 0 r4.1).bind fun r8 =>
    some r8
noncomputable def kr4 (N:Nat)(a b d:Int):Option (RT [(.int .i64),(.int .i64)]):=q22 DR Tryz.prog N (u22 N) kx4 Tryz.f222 (q10 Tryz.f222) (RT [(.int .i64),(.int .i64)]) (qd2 [(.int .i64),(.int .i64),(.int .i64)] (a,b,d,())) [] (q40 [(.int .i64),(.int .i64)])
theorem ul7 (N:Nat)(a b d:Int):kr4 N a b d=y67 N a b d:=by kernel_rfl
def ui8 (m:Int→Int→Int→Option (Int×Int×Unit)):Ent:=q35 [(.int .i64),(.int .i64),(.int .i64)] [(.int .i64),(.int .i64)] fun (x:Els [(.int .i64),(.int .i64),(.int .i64)])=>m x.1 x.2.1 x.2.2.1
def jw1 (N:Nat):Ent:=ui8 (y67 N)
theorem yf2 (N:Nat):q16 Tryz.prog 222 (jw1 N):=q15 (k45 N) Tryz.func222 rfl (by kernel_rfl) fun (x:Els [(.int .i64),(.int .i64),(.int .i64)])=>ul7 N x.1 x.2.1 x.2.2.1
def uz1 :FH:=⟨[],[],[],[],false,[],[]⟩
noncomputable def xq3 (N:Nat):q48:=tab [(222,jw1 N)]
theorem u99 (N:Nat):q13 Tryz.prog (xq3 N):=q06 (yf2 N) <| q27 _
def zg7 (N:Nat)(a b:Int):Option (Int×Int×Unit) :=
 (y67 N a b 10000).bind fun r =>
 some r
noncomputable def uo7 (N:Nat)(a b:Int):Option (RT [(.int .i64),(.int .i64)]):=q22 DR Tryz.prog N (xq3 N) uz1 Tryz.f168 (q10 Tryz.f168) (RT [(.int .i64),(.int .i64)]) (qd2 [(.int .i64),(.int .i64)] (a,b,())) [] (q40 [(.int .i64),(.int .i64)])
theorem vo5 (N:Nat)(a b:Int):uo7 N a b=zg7 N a b:=by kernel_rfl
def vd4 (m:Int→Int→Option (Int×Int×Unit)):Ent:=q35 [(.int .i64),(.int .i64)] [(.int .i64),(.int .i64)] fun (x:Els [(.int .i64),(.int .i64)])=>m x.1 x.2.1
def yh0 (N:Nat):Ent:=vd4 (zg7 N)
theorem xu9 (N:Nat):q16 Tryz.prog 168 (yh0 N):=q15 (u99 N) Tryz.func168 rfl (by kernel_rfl) fun (x:Els [(.int .i64),(.int .i64)])=>vo5 N x.1 x.2.1
def u93 :FH:=⟨[],[],[(8,⟨16,54,0,[],[]⟩)],[],false,[],[]⟩
noncomputable def yw5 (N:Nat):q48:=tab [(217,qs4 N),(168,yh0 N),(218,qw1 N),(167,yr2 N)]
theorem vo3 (N:Nat):q13 Tryz.prog (yw5 N):=q06 (qt2 N) <| q06 (xu9 N) <| q06 (qy0 N) <| q06 (yt1 N) <| q27 _
def yj6 (N:Nat)(a b:q00):Option OX3 :=
 (q96 N ([a,b]:List q00)).bind fun r =>
 bif r.2.1 then
  some ((0,0,[],()),r.2.2.1,())
 else
  bif (r.2.2.1 != 0) then
   some ((0,0,[],()),r.2.2.1,())
  else
   bif inR 0 r.1.length then
   bif (((q24 r.1 0 q29).1) == 2) then
    bif inR 0 r.1.length then
    bif inR 1 r.1.length then
    (zg7 N ((q24 r.1 0 q29).2.1) ((q24 r.1 1 q29).2.1)).bind fun r1 =>
    bif (r1.2.1 != 0) then
     some ((0,0,[],()),r1.2.1,())
    else
     bif inR 0 r.1.length then
     some (((q24 r.1 0 q29).1,r1.1,[],()),0,())
     else none
    else none
    else none
   else
    bif inR 0 r.1.length then
    bif inR 1 r.1.length then
    (yq6 N ((q24 r.1 0 q29).2.1) ((q24 r.1 1 q29).2.1)).bind fun r2 =>
    bif (r2.2.1 != 0) then
     some ((0,0,[],()),r2.2.1,())
    else
     bif inR 0 r.1.length then
     some (((q24 r.1 0 q29).1,r2.1,[],()),0,())
     else none
    else none
    else none
   else none
abbrev yg8 :List PK:=[.val q05,.val q05,.fn 167 0,.fn 168 0]
noncomputable def ua4 (N:Nat)(a b:q00):Option (RT [q05,(.int .i64)]):=q22 DR Tryz.prog N (yw5 N) u93 Tryz.f164 (q10 Tryz.f164) (RT [q05,(.int .i64)]) (qx9 yg8 (a,b,())) [] (q40 [q05,(.int .i64)])
theorem v92 (N:Nat)(a b:q00):ua4 N a b=yj6 N a b:=by kernel_rfl
def xx3 (m:q00→q00→Option OX3):Ent:=qf1 yg8 [q05,(.int .i64)] fun (x:Els [q05,q05])=>m x.1 x.2.1
def y14 (N:Nat):Ent:=xx3 (yj6 N)
theorem xb6 (N:Nat):q16 Tryz.prog 164 (y14 N):=q51 (vo3 N) Tryz.func164 rfl (by kernel_rfl) (by kernel_rfl) fun (x:Els [q05,q05])=>v92 N x.1 x.2.1
def k87 :FH:=⟨[],[],[],[],false,[],[]⟩
noncomputable def vl7 (N:Nat):q48:=tab [(164,y14 N)]
theorem uw7 (N:Nat):q13 Tryz.prog (vl7 N):=q06 (xb6 N) <| q27 _
def j16 (N:Nat)(a b:q00):Option OX3 :=
 (yj6 N a b).bind fun r =>
 some r
noncomputable def k37 (N:Nat)(a b:q00):Option (RT [q05,(.int .i64)]):=q22 DR Tryz.prog N (vl7 N) k87 Tryz.f97 (q10 Tryz.f97) (RT [q05,(.int .i64)]) (qd2 [q05,q05] (a,b,())) [] (q40 [q05,(.int .i64)])
theorem uc0 (N:Nat)(a b:q00):k37 N a b=j16 N a b:=by kernel_rfl
def vs3 (m:q00→q00→Option OX3):Ent:=q35 [q05,q05] [q05,(.int .i64)] fun (x:Els [q05,q05])=>m x.1 x.2.1
def x24 (N:Nat):Ent:=vs3 (j16 N)
theorem v54 (N:Nat):q16 Tryz.prog 97 (x24 N):=q15 (uw7 N) Tryz.func97 rfl (by kernel_rfl) fun (x:Els [q05,q05])=>uc0 N x.1 x.2.1
noncomputable def z96 (N:Nat):q48:=tab [(97,x24 N),(101,qg9 N)]
theorem jr4 (N:Nat):q13 Tryz.prog (z96 N):=q06 (v54 N) <| q06 (qe1 N) <| q27 _
noncomputable def wn1 (N:Nat):Ent:=zn6 Tryz.prog N (z96 N) ⟨[],[],[(1,⟨10,15,0,[],[]⟩)],[],false,[],[]⟩ Tryz.f163 (q10 Tryz.f163)
theorem zx0 (N:Nat):q16 Tryz.prog 163 (wn1 N):=qc2 (jr4 N) Tryz.func163 rfl (by kernel_rfl)
def z91 :LH:=⟨[(2,.asis),(3,.asis),(6,.asis),(7,.own q05 507 26 3),(10,.int .i64),(11,.int .i64)],[],[.cells [.lst q07,.lst .bool],.cells [.int .u8,.int .i64,.str,.int .i64]]⟩
def qu3 :FH:=⟨[z91],[],[],[],false,[],[]⟩
noncomputable def wc4 (N:Nat):q48:=tab [(153,q52 N),(163,wn1 N)]
theorem yc0 (N:Nat):q13 Tryz.prog (wc4 N):=q06 (q49 N) <| q06 (zx0 N) <| q27 _
noncomputable def zd6 :Sc:=wl6 Tryz.prog qu3
noncomputable def zd2 (N:Nat):Cfg:=⟨N,wc4 N,0⟩
noncomputable def js1 (N:Nat):Exit→List TV→List TOb→Option q03:=fin Tryz.prog 0 Tryz.f99.results.toList (q40 [q07])
def w59 (n:Int)(k_l:List q03)(q09:List Bool)(q04 q20:Int)(q19:List UInt8)(q62:Int)(e:List q00×Int):List TV:=match e with
 | (l,t11)=>frm 30 [(2,.func (.func 163) [.ep [.func (.func 97) []] 0]),(3,.ref 0 0),(6,.ref 1 0),(7,.tl q05 l (.own 507 26 3)),(10,.int .i64 n),(11,.int .i64 t11)]
def w94 (n:Int)(k_l:List q03)(q09:List Bool)(q04 q20:Int)(q19:List UInt8)(q62:Int)(e:List q00×Int):List TOb:=match e with
 | (l,t11)=>[.cells [.tl q07 k_l .unk,.tl .bool q09 .unk] 118 true,.cells [.int .u8 q04,.int .i64 q20,.str q19,.int .i64 q62] 115 true]
noncomputable def z70 (N:Nat):(List TV→List TOb→Option q03)→List TV→List TOb→Option q03:=w54 DR zd6 (zd2 N) (ql6 (qc4 (q08 (q87 (q08 (q08 (q10 Tryz.f99))))))) z91 (qu3.loops.drop 1) (qk0 0 (qc3 DR zd6 (zd2 N) (q08 (q08 (q08 (q10 Tryz.f99)))) (qu3.loops.drop 1) (js1 N)))
def w91 (N:Nat)(n:Int)(k_l:List q03)(q09:List Bool)(q04 q20:Int)(q19:List UInt8)(q62:Int)(K0:(List q00×Int)→Option q03)(e:List q00×Int):Option q03 :=
 match e with
 | (l,t11) =>
  bif decide (t11 < n) then
   (q58 N (k_l,q09,()) t11).bind fun r =>
   bif (r.2.1 != 0) then
    some r
   else
    bif w23 (l.length + ([r.1]:List q00).length) 4398046511104 then
    bif q26 (t11 + 1) then
    K0 ((l ++ ([r.1]:List q00)),t11 + 1)
    else none
    else none
  else
   bif inR 0 l.length then
   bif inR 1 l.length then
   (j16 N (q24 l 0 q29) (q24 l 1 q29)).bind fun r1 =>
   (qc7 N r1.1 r1.2.1).bind fun r2 =>
   some r2
   else none
   else none
theorem yb2 (N:Nat)(n:Int)(k_l:List q03)(q09:List Bool)(q04 q20:Int)(q19:List UInt8)(q62:Int)(n_:Nat)(e:List q00×Int):q57 (z70 N ) n_ ((w59 n k_l q09 q04 q20 q19 q62) e) ((w94 n k_l q09 q04 q20 q19 q62) e)=q86 (w91 N n k_l q09 q04 q20 q19 q62 ) n_ e :=
 q39 (w59 n k_l q09 q04 q20 q19 q62) (w94 n k_l q09 q04 q20 q19 q62) (by intro K e; obtain ⟨l,t11⟩:=e; kernel_rfl) n_ e
def zh5 (N:Nat)(k:q34)(n:Int)(l1:Int→(List q03)→(List Bool)→Int→Int→(List UInt8)→Int→(List q00×Int)→Option q03):Option q03 :=
 l1 n k.1 k.2.1 0 0 [] 0 ([],0)
def qs6 (N:Nat)(k:q34)(n:Int):Option q03:=zh5 N k n (fun n k_l q09 q04 q20 q19 q62 e=>q86 (w91 N n k_l q09 q04 q20 q19 q62) N e)
abbrev z51 :List PK:=[.val q65,.val (.int .i64),.fn 163 1,.ep 1,.fn 97 0]
noncomputable def zi2 (N:Nat)(k:q34)(n:Int):Option (RT [q07]):=q22 DR Tryz.prog N (wc4 N) qu3 Tryz.f99 (q10 Tryz.f99) (RT [q07]) (qx9 z51 (k,n,())) [] (q40 [q07])
theorem y08 (N:Nat)(k:q34)(n:Int):zi2 N k n=qs6 N k n:=by
 have h:zi2 N k n=zh5 N k n (fun n k_l q09 q04 q20 q19 q62 e=>q57 (z70 N ) N (w59 n k_l q09 q04 q20 q19 q62 e) (w94 n k_l q09 q04 q20 q19 q62 e)):=by kernel_rfl
 rw [h]
 simp only [qs6,yb2] <;> rfl
def jk7 (m:q34→Int→Option q03):Ent:=qf1 z51 [q07] fun (x:Els [q65,(.int .i64)])=>m x.1 x.2.1
def z03 (N:Nat):Ent:=jk7 (qs6 N)
theorem j98 (N:Nat):q16 Tryz.prog 99 (z03 N):=q51 (yc0 N) Tryz.func99 rfl (by kernel_rfl) (by kernel_rfl) fun (x:Els [q65,(.int .i64)])=>y08 N x.1 x.2.1
def un6 :FH:=⟨[],[],[],[],false,[],[]⟩
noncomputable def xn0 (N:Nat):q48:=tab [(222,jw1 N)]
theorem u90 (N:Nat):q13 Tryz.prog (xn0 N):=q06 (yf2 N) <| q27 _
def zg0 (N:Nat)(a b:Int):Option (Int×Int×Unit) :=
 bif (b == 0) then
  some (0,10,())
 else
  (y67 N a 10000 b).bind fun r =>
  some r
noncomputable def k02 (N:Nat)(a b:Int):Option (RT [(.int .i64),(.int .i64)]):=q22 DR Tryz.prog N (xn0 N) un6 Tryz.f170 (q10 Tryz.f170) (RT [(.int .i64),(.int .i64)]) (qd2 [(.int .i64),(.int .i64)] (a,b,())) [] (q40 [(.int .i64),(.int .i64)])
theorem vu9 (N:Nat)(a b:Int):k02 N a b=zg0 N a b:=by kernel_rfl
def ve6 (m:Int→Int→Option (Int×Int×Unit)):Ent:=q35 [(.int .i64),(.int .i64)] [(.int .i64),(.int .i64)] fun (x:Els [(.int .i64),(.int .i64)])=>m x.1 x.2.1
def yh8 (N:Nat):Ent:=ve6 (zg0 N)
theorem xv2 (N:Nat):q16 Tryz.prog 170 (yh8 N):=q15 (u90 N) Tryz.func170 rfl (by kernel_rfl) fun (x:Els [(.int .i64),(.int .i64)])=>vu9 N x.1 x.2.1
def num_Quo_H :FH:=⟨[],[],[],[],false,[],[]⟩
noncomputable def uy2 (N:Nat):q48:=tab [(220,wy0 N),(221,w98 N)]
theorem kx6 (N:Nat):q13 Tryz.prog (uy2 N):=q06 (ws3 N) <| q06 (wb5 N) <| q27 _
def xf6 (N:Nat)(a b:Int):Option (Int×Int×Unit) :=
 bif (b == 0) then
  some (0,10,())
 else
  (w41 N a).bind fun r =>
  (w41 N b).bind fun r1 =>
  bif (decide (r1≠0) && true) then
  (qj4 N (!((decide (a < 0)) == (decide (b < 0)))) 0 (IntKind.u64.wrap (Int.tdiv r r1))).bind fun r2 =>
  some r2
  else none
noncomputable def num_Quo_C (N:Nat)(a b:Int):Option (RT [(.int .i64),(.int .i64)]):=q22 DR Tryz.prog N (uy2 N) num_Quo_H Tryz.f169 (q10 Tryz.f169) (RT [(.int .i64),(.int .i64)]) (qd2 [(.int .i64),(.int .i64)] (a,b,())) [] (q40 [(.int .i64),(.int .i64)])
theorem k52 (N:Nat)(a b:Int):num_Quo_C N a b=xf6 N a b:=by kernel_rfl
def up2 (m:Int→Int→Option (Int×Int×Unit)):Ent:=q35 [(.int .i64),(.int .i64)] [(.int .i64),(.int .i64)] fun (x:Els [(.int .i64),(.int .i64)])=>m x.1 x.2.1
def vc0 (N:Nat):Ent:=up2 (xf6 N)
theorem ua3 (N:Nat):q16 Tryz.prog 169 (vc0 N):=q15 (kx6 N) Tryz.func169 rfl (by kernel_rfl) fun (x:Els [(.int .i64),(.int .i64)])=>k52 N x.1 x.2.1
def u83 :FH:=⟨[],[],[(8,⟨16,54,0,[],[]⟩)],[],false,[],[]⟩
noncomputable def yt4 (N:Nat):q48:=tab [(217,qs4 N),(170,yh8 N),(218,qw1 N),(169,vc0 N)]
theorem vt5 (N:Nat):q13 Tryz.prog (yt4 N):=q06 (qt2 N) <| q06 (xv2 N) <| q06 (qy0 N) <| q06 (ua3 N) <| q27 _
def yo9 (N:Nat)(a b:q00):Option OX3 :=
 (q96 N ([a,b]:List q00)).bind fun r =>
 bif r.2.1 then
  some ((0,0,[],()),r.2.2.1,())
 else
  bif (r.2.2.1 != 0) then
   some ((0,0,[],()),r.2.2.1,())
  else
   bif inR 0 r.1.length then
   bif (((q24 r.1 0 q29).1) == 2) then
    bif inR 0 r.1.length then
    bif inR 1 r.1.length then
    (zg0 N ((q24 r.1 0 q29).2.1) ((q24 r.1 1 q29).2.1)).bind fun r1 =>
    bif (r1.2.1 != 0) then
     some ((0,0,[],()),r1.2.1,())
    else
     bif inR 0 r.1.length then
     some (((q24 r.1 0 q29).1,r1.1,[],()),0,())
     else none
    else none
    else none
   else
    bif inR 0 r.1.length then
    bif inR 1 r.1.length then
    (xf6 N ((q24 r.1 0 q29).2.1) ((q24 r.1 1 q29).2.1)).bind fun r2 =>
    bif (r2.2.1 != 0) then
     some ((0,0,[],()),r2.2.1,())
    else
     bif inR 0 r.1.length then
     some (((q24 r.1 0 q29).1,r2.1,[],()),0,())
     else none
    else none
    else none
   else none
abbrev yg2 :List PK:=[.val q05,.val q05,.fn 169 0,.fn 170 0]
noncomputable def ud0 (N:Nat)(a b:q00):Option (RT [q05,(.int .i64)]):=q22 DR Tryz.prog N (yt4 N) u83 Tryz.f164 (q10 Tryz.f164) (RT [q05,(.int .i64)]) (qx9 yg2 (a,b,())) [] (q40 [q05,(.int .i64)])
theorem vm7 (N:Nat)(a b:q00):ud0 N a b=yo9 N a b:=by kernel_rfl
def xu6 (m:q00→q00→Option OX3):Ent:=qf1 yg2 [q05,(.int .i64)] fun (x:Els [q05,q05])=>m x.1 x.2.1
def jr6 (N:Nat):Ent:=xu6 (yo9 N)
theorem xc9 (N:Nat):q16 Tryz.prog 164 (jr6 N):=q51 (vt5 N) Tryz.func164 rfl (by kernel_rfl) (by kernel_rfl) fun (x:Els [q05,q05])=>vm7 N x.1 x.2.1
def k47 :FH:=⟨[],[],[],[],false,[],[]⟩
noncomputable def vc8 (N:Nat):q48:=tab [(164,jr6 N)]
theorem up5 (N:Nat):q13 Tryz.prog (vc8 N):=q06 (xc9 N) <| q27 _
def j52 (N:Nat)(a b:q00):Option OX3 :=
 (yo9 N a b).bind fun r =>
 some r
noncomputable def k56 (N:Nat)(a b:q00):Option (RT [q05,(.int .i64)]):=q22 DR Tryz.prog N (vc8 N) k47 Tryz.f98 (q10 Tryz.f98) (RT [q05,(.int .i64)]) (qd2 [q05,q05] (a,b,())) [] (q40 [q05,(.int .i64)])
theorem uf1 (N:Nat)(a b:q00):k56 N a b=j52 N a b:=by kernel_rfl
def vv4 (m:q00→q00→Option OX3):Ent:=q35 [q05,q05] [q05,(.int .i64)] fun (x:Els [q05,q05])=>m x.1 x.2.1
def yu3 (N:Nat):Ent:=vv4 (j52 N)
theorem v99 (N:Nat):q16 Tryz.prog 98 (yu3 N):=q15 (up5 N) Tryz.func98 rfl (by kernel_rfl) fun (x:Els [q05,q05])=>uf1 N x.1 x.2.1
noncomputable def z58 (N:Nat):q48:=tab [(98,yu3 N),(101,qg9 N)]
theorem y19 (N:Nat):q13 Tryz.prog (z58 N):=q06 (v99 N) <| q06 (qe1 N) <| q27 _
noncomputable def wm3 (N:Nat):Ent:=zn6 Tryz.prog N (z58 N) ⟨[],[],[(1,⟨10,15,0,[],[]⟩)],[],false,[],[]⟩ Tryz.f163 (q10 Tryz.f163)
theorem j18 (N:Nat):q16 Tryz.prog 163 (wm3 N):=qc2 (y19 N) Tryz.func163 rfl (by kernel_rfl)
def z00 :LH:=⟨[(2,.asis),(3,.asis),(6,.asis),(7,.own q05 507 26 3),(10,.int .i64),(11,.int .i64)],[],[.cells [.lst q07,.lst .bool],.cells [.int .u8,.int .i64,.str,.int .i64]]⟩
def qp7 :FH:=⟨[z00],[],[],[],false,[],[]⟩
noncomputable def w80 (N:Nat):q48:=tab [(153,q52 N),(163,wm3 N)]
theorem y52 (N:Nat):q13 Tryz.prog (w80 N):=q06 (q49 N) <| q06 (j18 N) <| q27 _
noncomputable def z23 :Sc:=wl6 Tryz.prog qp7
noncomputable def wv3 (N:Nat):Cfg:=⟨N,w80 N,0⟩
noncomputable def jm4 (N:Nat):Exit→List TV→List TOb→Option q03:=fin Tryz.prog 0 Tryz.f99.results.toList (q40 [q07])
def w20 (n:Int)(k_l:List q03)(q09:List Bool)(q04 q20:Int)(q19:List UInt8)(q62:Int)(e:List q00×Int):List TV:=match e with
 | (l,t11)=>frm 30 [(2,.func (.func 163) [.ep [.func (.func 98) []] 0]),(3,.ref 0 0),(6,.ref 1 0),(7,.tl q05 l (.own 507 26 3)),(10,.int .i64 n),(11,.int .i64 t11)]
def qz6 (n:Int)(k_l:List q03)(q09:List Bool)(q04 q20:Int)(q19:List UInt8)(q62:Int)(e:List q00×Int):List TOb:=match e with
 | (l,t11)=>[.cells [.tl q07 k_l .unk,.tl .bool q09 .unk] 118 true,.cells [.int .u8 q04,.int .i64 q20,.str q19,.int .i64 q62] 115 true]
noncomputable def z11 (N:Nat):(List TV→List TOb→Option q03)→List TV→List TOb→Option q03:=w54 DR z23 (wv3 N) (ql6 (qc4 (q08 (q87 (q08 (q08 (q10 Tryz.f99))))))) z00 (qp7.loops.drop 1) (qk0 0 (qc3 DR z23 (wv3 N) (q08 (q08 (q08 (q10 Tryz.f99)))) (qp7.loops.drop 1) (jm4 N)))
def w15 (N:Nat)(n:Int)(k_l:List q03)(q09:List Bool)(q04 q20:Int)(q19:List UInt8)(q62:Int)(K0:(List q00×Int)→Option q03)(e:List q00×Int):Option q03 :=
 match e with
 | (l,t11) =>
  bif decide (t11 < n) then
   (q58 N (k_l,q09,()) t11).bind fun r =>
   bif (r.2.1 != 0) then
    some r
   else
    bif w23 (l.length + ([r.1]:List q00).length) 4398046511104 then
    bif q26 (t11 + 1) then
    K0 ((l ++ ([r.1]:List q00)),t11 + 1)
    else none
    else none
  else
   bif inR 0 l.length then
   bif inR 1 l.length then
   (j52 N (q24 l 0 q29) (q24 l 1 q29)).bind fun r1 =>
   (qc7 N r1.1 r1.2.1).bind fun r2 =>
   some r2
   else none
   else none
theorem y15 (N:Nat)(n:Int)(k_l:List q03)(q09:List Bool)(q04 q20:Int)(q19:List UInt8)(q62:Int)(n_:Nat)(e:List q00×Int):q57 (z11 N ) n_ ((w20 n k_l q09 q04 q20 q19 q62) e) ((qz6 n k_l q09 q04 q20 q19 q62) e)=q86 (w15 N n k_l q09 q04 q20 q19 q62 ) n_ e :=
 q39 (w20 n k_l q09 q04 q20 q19 q62) (qz6 n k_l q09 q04 q20 q19 q62) (by intro K e; obtain ⟨l,t11⟩:=e; kernel_rfl) n_ e
def zb3 (N:Nat)(k:q34)(n:Int)(l1:Int→(List q03)→(List Bool)→Int→Int→(List UInt8)→Int→(List q00×Int)→Option q03):Option q03 :=
 l1 n k.1 k.2.1 0 0 [] 0 ([],0)
def qo7 (N:Nat)(k:q34)(n:Int):Option q03:=zb3 N k n (fun n k_l q09 q04 q20 q19 q62 e=>q86 (w15 N n k_l q09 q04 q20 q19 q62) N e)
abbrev wv1 :List PK:=[.val q65,.val (.int .i64),.fn 163 1,.ep 1,.fn 98 0]
noncomputable def zd0 (N:Nat)(k:q34)(n:Int):Option (RT [q07]):=q22 DR Tryz.prog N (w80 N) qp7 Tryz.f99 (q10 Tryz.f99) (RT [q07]) (qx9 wv1 (k,n,())) [] (q40 [q07])
theorem jj4 (N:Nat)(k:q34)(n:Int):zd0 N k n=qo7 N k n:=by
 have h:zd0 N k n=zb3 N k n (fun n k_l q09 q04 q20 q19 q62 e=>q57 (z11 N ) N (w20 n k_l q09 q04 q20 q19 q62 e) (qz6 n k_l q09 q04 q20 q19 q62 e)):=by kernel_rfl
 rw [h]
 simp only [qo7,y15] <;> rfl
def jc2 (m:q34→Int→Option q03):Ent:=qf1 wv1 [q07] fun (x:Els [q65,(.int .i64)])=>m x.1 x.2.1
def wl8 (N:Nat):Ent:=jc2 (qo7 N)
theorem j01 (N:Nat):q16 Tryz.prog 99 (wl8 N):=q51 (y52 N) Tryz.func99 rfl (by kernel_rfl) (by kernel_rfl) fun (x:Els [q65,(.int .i64)])=>jj4 N x.1 x.2.1
def k76 :FH:=⟨[],[],[],[],false,[],[]⟩
noncomputable def v29 (N:Nat):q48:=tab [(96,j77 N)]
theorem up1 (N:Nat):q13 Tryz.prog (v29 N):=q06 (jv5 N) <| q27 _
def j10 (N:Nat)(a:q00):Option OX3 :=
 (zj5 N ((vn1 (iMin a.1 (2:Int)) (1:Int)),0,[],()) a).bind fun r =>
 some r
noncomputable def kd5 (N:Nat)(a:q00):Option (RT [q05,(.int .i64)]):=q22 DR Tryz.prog N (v29 N) k76 Tryz.f102 (q10 Tryz.f102) (RT [q05,(.int .i64)]) (qd2 [q05] (a,())) [] (q40 [q05,(.int .i64)])
theorem ug4 (N:Nat)(a:q00):kd5 N a=j10 N a:=by kernel_rfl
def vo0 (m:q00→Option OX3):Ent:=q35 [q05] [q05,(.int .i64)] fun (x:Els [q05])=>m x.1
def ja0 (N:Nat):Ent:=vo0 (j10 N)
theorem jx0 (N:Nat):q16 Tryz.prog 102 (ja0 N):=q15 (up1 N) Tryz.func102 rfl (by kernel_rfl) fun (x:Els [q05])=>ug4 N x.1
def vd7 :FH:=⟨[],[],[],[],false,[],[]⟩
noncomputable def y41 (N:Nat):q48:=tab [(102,ja0 N),(101,qg9 N)]
theorem xv9 (N:Nat):q13 Tryz.prog (y41 N):=q06 (jx0 N) <| q06 (qe1 N) <| q27 _
def wl1 (N:Nat)(l:List q00):Option q03 :=
 bif inR 0 l.length then
 (j10 N (q24 l 0 q29)).bind fun r =>
 (qc7 N r.1 r.2.1).bind fun r1 =>
 some r1
 else none
noncomputable def vg6 (N:Nat)(l:List q00):Option (RT [q07]):=q22 DR Tryz.prog N (y41 N) vd7 Tryz.f100 (q10 Tryz.f100) (RT [q07]) (qd2 [(.list q05)] (l,())) [] (q40 [q07])
theorem xg3 (N:Nat)(l:List q00):vg6 N l=wl1 N l:=by kernel_rfl
def ys6 (m:(List q00)→Option q03):Ent:=q35 [(.list q05)] [q07] fun (x:Els [(.list q05)])=>m x.1
def zz7 (N:Nat):Ent:=ys6 (wl1 N)
theorem yo2 (N:Nat):q16 Tryz.prog 100 (zz7 N):=q15 (xv9 N) Tryz.func100 rfl (by kernel_rfl) fun (x:Els [(.list q05)])=>xg3 N x.1
def wu7 :LH:=⟨[(2,.asis),(3,.asis),(6,.asis),(7,.own q05 507 26 3),(10,.int .i64),(11,.int .i64)],[],[.cells [.lst q07,.lst .bool],.cells [.int .u8,.int .i64,.str,.int .i64]]⟩
def qp3 :FH:=⟨[wu7],[],[],[],false,[],[]⟩
noncomputable def w65 (N:Nat):q48:=tab [(153,q52 N),(100,zz7 N)]
theorem y49 (N:Nat):q13 Tryz.prog (w65 N):=q06 (q49 N) <| q06 (yo2 N) <| q27 _
noncomputable def wz1 :Sc:=wl6 Tryz.prog qp3
noncomputable def ww6 (N:Nat):Cfg:=⟨N,w65 N,0⟩
noncomputable def jo4 (N:Nat):Exit→List TV→List TOb→Option q03:=fin Tryz.prog 0 Tryz.f99.results.toList (q40 [q07])
def qz5 (n:Int)(k_l:List q03)(q09:List Bool)(q04 q20:Int)(q19:List UInt8)(q62:Int)(e:List q00×Int):List TV:=match e with
 | (l,t11)=>frm 30 [(2,.func (.func 100) []),(3,.ref 0 0),(6,.ref 1 0),(7,.tl q05 l (.own 507 26 3)),(10,.int .i64 n),(11,.int .i64 t11)]
def w09 (n:Int)(k_l:List q03)(q09:List Bool)(q04 q20:Int)(q19:List UInt8)(q62:Int)(e:List q00×Int):List TOb:=match e with
 | (l,t11)=>[.cells [.tl q07 k_l .unk,.tl .bool q09 .unk] 118 true,.cells [.int .u8 q04,.int .i64 q20,.str q19,.int .i64 q62] 115 true]
noncomputable def wz3 (N:Nat):(List TV→List TOb→Option q03)→List TV→List TOb→Option q03:=w54 DR wz1 (ww6 N) (ql6 (qc4 (q08 (q87 (q08 (q08 (q10 Tryz.f99))))))) wu7 (qp3.loops.drop 1) (qk0 0 (qc3 DR wz1 (ww6 N) (q08 (q08 (q08 (q10 Tryz.f99)))) (qp3.loops.drop 1) (jo4 N)))
def w16 (N:Nat)(n:Int)(k_l:List q03)(q09:List Bool)(q04 q20:Int)(q19:List UInt8)(q62:Int)(K0:(List q00×Int)→Option q03)(e:List q00×Int):Option q03 :=
 match e with
 | (l,t11) =>
  bif decide (t11 < n) then
   (q58 N (k_l,q09,()) t11).bind fun r =>
   bif (r.2.1 != 0) then
    some r
   else
    bif w23 (l.length + ([r.1]:List q00).length) 4398046511104 then
    bif q26 (t11 + 1) then
    K0 ((l ++ ([r.1]:List q00)),t11 + 1)
    else none
    else none
  else
   (wl1 N l).bind fun r1 =>
   some r1
theorem ju9 (N:Nat)(n:Int)(k_l:List q03)(q09:List Bool)(q04 q20:Int)(q19:List UInt8)(q62:Int)(n_:Nat)(e:List q00×Int):q57 (wz3 N ) n_ ((qz5 n k_l q09 q04 q20 q19 q62) e) ((w09 n k_l q09 q04 q20 q19 q62) e)=q86 (w16 N n k_l q09 q04 q20 q19 q62 ) n_ e :=
 q39 (qz5 n k_l q09 q04 q20 q19 q62) (w09 n k_l q09 q04 q20 q19 q62) (by intro K e; obtain ⟨l,t11⟩:=e; kernel_rfl) n_ e
def z63 (N:Nat)(k:q34)(n:Int)(l1:Int→(List q03)→(List Bool)→Int→Int→(List UInt8)→Int→(List q00×Int)→Option q03):Option q03 :=
 l1 n k.1 k.2.1 0 0 [] 0 ([],0)
def qn0 (N:Nat)(k:q34)(n:Int):Option q03:=z63 N k n (fun n k_l q09 q04 q20 q19 q62 e=>q86 (w16 N n k_l q09 q04 q20 q19 q62) N e)
abbrev wz0 :List PK:=[.val q65,.val (.int .i64),.fn 100 0]
noncomputable def zc5 (N:Nat)(k:q34)(n:Int):Option (RT [q07]):=q22 DR Tryz.prog N (w65 N) qp3 Tryz.f99 (q10 Tryz.f99) (RT [q07]) (qx9 wz0 (k,n,())) [] (q40 [q07])
theorem jl0 (N:Nat)(k:q34)(n:Int):zc5 N k n=qn0 N k n:=by
 have h:zc5 N k n=z63 N k n (fun n k_l q09 q04 q20 q19 q62 e=>q57 (wz3 N ) N (qz5 n k_l q09 q04 q20 q19 q62 e) (w09 n k_l q09 q04 q20 q19 q62 e)):=by kernel_rfl
 rw [h]
 simp only [qn0,ju9] <;> rfl
def je7 (m:q34→Int→Option q03):Ent:=qf1 wz0 [q07] fun (x:Els [q65,(.int .i64)])=>m x.1 x.2.1
def wn3 (N:Nat):Ent:=je7 (qn0 N)
theorem j31 (N:Nat):q16 Tryz.prog 99 (wn3 N):=q51 (y49 N) Tryz.func99 rfl (by kernel_rfl) (by kernel_rfl) fun (x:Els [q65,(.int .i64)])=>jl0 N x.1 x.2.1
def yi0 :LH:=⟨[(0,.int .i64),(4,.asis),(9,.asis),(33,.lst q05),(34,.int .i64),(35,.int .i64)],[],[.cells [.int .u8,.int .i64,.str],.cells [.int .u8,.int .i64,.str]]⟩
def ze9 :FH:=⟨[yi0],[],[],[],false,[],[]⟩
noncomputable def j74 (N:Nat):q48:=tab [(217,qs4 N),(223,w06 N)]
theorem vo6 (N:Nat):q13 Tryz.prog (j74 N):=q06 (qt2 N) <| q06 (wk7 N) <| q27 _
noncomputable def yi1 :Sc:=wl6 Tryz.prog ze9
noncomputable def ye6 (N:Nat):Cfg:=⟨N,j74 N,0⟩
noncomputable def va3 (N:Nat):Exit→List TV→List TOb→Option OX3:=fin Tryz.prog 0 Tryz.f171.results.toList (q40 [q05,(.int .i64)])
def zt1 (c:Int)(t33:List q00)(t34 wi2 km5:Int)(km8:List UInt8)(e:Int×Int×Int×List UInt8):List TV:=match e with
 | (t35,out_Kind,out_N,out_S)=>frm 49 [(0,.int .i64 c),(4,.ref 0 0),(9,.ref 1 0),(33,.tl q05 t33 .unk),(34,.int .i64 t34),(35,.int .i64 t35)]
def zu3 (c:Int)(t33:List q00)(t34 wi2 km5:Int)(km8:List UInt8)(e:Int×Int×Int×List UInt8):List TOb:=match e with
 | (t35,out_Kind,out_N,out_S)=>[.cells [.int .u8 wi2,.int .i64 km5,.str km8] 26 true,.cells [.int .u8 out_Kind,.int .i64 out_N,.str out_S] 26 true]
noncomputable def yg5 (N:Nat):(List TV→List TOb→Option OX3)→List TV→List TOb→Option OX3:=w54 DR yi1 (ye6 N) (ql6 (qc4 (q08 (q87 (q08 (q08 (q08 (q08 (q10 Tryz.f171))))))))) yi0 (ze9.loops.drop 1) (qk0 0 (qc3 DR yi1 (ye6 N) (q08 (q08 (q08 (q08 (q08 (q10 Tryz.f171)))))) (ze9.loops.drop 1) (va3 N)))
def zt5 (N:Nat)(c:Int)(t33:List q00)(t34 wi2 km5:Int)(km8:List UInt8)(K0:(Int×Int×Int×List UInt8)→Option OX3)(e:Int×Int×Int×List UInt8):Option OX3 :=
 match e with
 | (t35,out_Kind,out_N,out_S) =>
  bif decide (t35 < t34) then
   bif inR t35 t33.length then
   (qj9 N ((q24 t33 t35 q29).2.1) out_N).bind fun r1 =>
   bif (r1 == c) then
    bif q26 (t35 + 1) then
    K0 (t35 + 1,(q24 t33 t35 q29).1,(q24 t33 t35 q29).2.1,(q24 t33 t35 q29).2.2.1)
    else none
   else
    bif q26 (t35 + 1) then
    K0 (t35 + 1,out_Kind,out_N,out_S)
    else none
   else none
  else
   some ((out_Kind,out_N,out_S,()),0,())
theorem vn9 (N:Nat)(c:Int)(t33:List q00)(t34 wi2 km5:Int)(km8:List UInt8)(n_:Nat)(e:Int×Int×Int×List UInt8):q57 (yg5 N ) n_ ((zt1 c t33 t34 wi2 km5 km8) e) ((zu3 c t33 t34 wi2 km5 km8) e)=q86 (zt5 N c t33 t34 wi2 km5 km8 ) n_ e :=
 q39 (zt1 c t33 t34 wi2 km5 km8) (zu3 c t33 t34 wi2 km5 km8) (by intro K e; obtain ⟨t35,out_Kind,out_N,out_S⟩:=e; kernel_rfl) n_ e
def j66 (N:Nat)(c:Int)(l:List q00)(l1:Int→(List q00)→Int→Int→Int→(List UInt8)→(Int×Int×Int×List UInt8)→Option OX3):Option OX3 :=
 (q96 N l).bind fun r =>
 bif r.2.1 then
  some ((0,0,[],()),r.2.2.1,())
 else
  bif (r.2.2.1 != 0) then
   some ((0,0,[],()),r.2.2.1,())
  else
   bif ((r.1.length:Int) == 0) then
    some ((0,0,[],()),r.2.2.1,())
   else
    bif inR 0 r.1.length then
    l1 c r.1 (r.1.length:Int) 0 0 [] (0,(q24 r.1 0 q29).1,(q24 r.1 0 q29).2.1,(q24 r.1 0 q29).2.2.1)
    else none
def qg2 (N:Nat)(c:Int)(l:List q00):Option OX3:=j66 N c l (fun c t33 t34 wi2 km5 km8 e=>q86 (zt5 N c t33 t34 wi2 km5 km8) N e)
noncomputable def x39 (N:Nat)(c:Int)(l:List q00):Option (RT [q05,(.int .i64)]):=q22 DR Tryz.prog N (j74 N) ze9 Tryz.f171 (q10 Tryz.f171) (RT [q05,(.int .i64)]) (qd2 [(.int .i64),(.list q05)] (c,l,())) [] (q40 [q05,(.int .i64)])
theorem vm5 (N:Nat)(c:Int)(l:List q00):x39 N c l=qg2 N c l:=by
 have h:x39 N c l=j66 N c l (fun c t33 t34 wi2 km5 km8 e=>q57 (yg5 N ) N (zt1 c t33 t34 wi2 km5 km8 e) (zu3 c t33 t34 wi2 km5 km8 e)):=by kernel_rfl
 rw [h]
 simp only [qg2,vn9] <;> rfl
def xw3 (m:Int→(List q00)→Option OX3):Ent:=q35 [(.int .i64),(.list q05)] [q05,(.int .i64)] fun (x:Els [(.int .i64),(.list q05)])=>m x.1 x.2.1
def zl6 (N:Nat):Ent:=xw3 (qg2 N)
theorem j20 (N:Nat):q16 Tryz.prog 171 (zl6 N):=q15 (vo6 N) Tryz.func171 rfl (by kernel_rfl) fun (x:Els [(.int .i64),(.list q05)])=>vm5 N x.1 x.2.1
def u80 :FH:=⟨[],[],[],[],false,[],[]⟩
noncomputable def yx5 (N:Nat):q48:=tab [(171,zl6 N)]
theorem vr4 (N:Nat):q13 Tryz.prog (yx5 N):=q06 (j20 N) <| q27 _
def j92 (N:Nat)(l:List q00):Option OX3 :=
 (qg2 N (-1) l).bind fun r =>
 some r
noncomputable def u84 (N:Nat)(l:List q00):Option (RT [q05,(.int .i64)]):=q22 DR Tryz.prog N (yx5 N) u80 Tryz.f104 (q10 Tryz.f104) (RT [q05,(.int .i64)]) (qd2 [(.list q05)] (l,())) [] (q40 [q05,(.int .i64)])
theorem va1 (N:Nat)(l:List q00):u84 N l=j92 N l:=by kernel_rfl
def xs4 (m:(List q00)→Option OX3):Ent:=q35 [(.list q05)] [q05,(.int .i64)] fun (x:Els [(.list q05)])=>m x.1
def y45 (N:Nat):Ent:=xs4 (j92 N)
theorem xf3 (N:Nat):q16 Tryz.prog 104 (y45 N):=q15 (vr4 N) Tryz.func104 rfl (by kernel_rfl) fun (x:Els [(.list q05)])=>va1 N x.1
def vk6 :FH:=⟨[],[],[],[],false,[],[]⟩
noncomputable def y09 (N:Nat):q48:=tab [(104,y45 N),(101,qg9 N)]
theorem xs7 (N:Nat):q13 Tryz.prog (y09 N):=q06 (xf3 N) <| q06 (qe1 N) <| q27 _
def wl4 (N:Nat)(l:List q00):Option q03 :=
 (j92 N l).bind fun r =>
 (qc7 N r.1 r.2.1).bind fun r1 =>
 some r1
noncomputable def vc3 (N:Nat)(l:List q00):Option (RT [q07]):=q22 DR Tryz.prog N (y09 N) vk6 Tryz.f103 (q10 Tryz.f103) (RT [q07]) (qd2 [(.list q05)] (l,())) [] (q40 [q07])
theorem x86 (N:Nat)(l:List q00):vc3 N l=wl4 N l:=by kernel_rfl
def x23 (m:(List q00)→Option q03):Ent:=q35 [(.list q05)] [q07] fun (x:Els [(.list q05)])=>m x.1
def j13 (N:Nat):Ent:=x23 (wl4 N)
theorem yp8 (N:Nat):q16 Tryz.prog 103 (j13 N):=q15 (xs7 N) Tryz.func103 rfl (by kernel_rfl) fun (x:Els [(.list q05)])=>x86 N x.1
def wz6 :LH:=⟨[(2,.asis),(3,.asis),(6,.asis),(7,.own q05 507 26 3),(10,.int .i64),(11,.int .i64)],[],[.cells [.lst q07,.lst .bool],.cells [.int .u8,.int .i64,.str,.int .i64]]⟩
def qq1 :FH:=⟨[wz6],[],[],[],false,[],[]⟩
noncomputable def w78 (N:Nat):q48:=tab [(153,q52 N),(103,j13 N)]
theorem jq6 (N:Nat):q13 Tryz.prog (w78 N):=q06 (q49 N) <| q06 (yp8 N) <| q27 _
noncomputable def z18 :Sc:=wl6 Tryz.prog qq1
noncomputable def ww5 (N:Nat):Cfg:=⟨N,w78 N,0⟩
noncomputable def jk5 (N:Nat):Exit→List TV→List TOb→Option q03:=fin Tryz.prog 0 Tryz.f99.results.toList (q40 [q07])
def w21 (n:Int)(k_l:List q03)(q09:List Bool)(q04 q20:Int)(q19:List UInt8)(q62:Int)(e:List q00×Int):List TV:=match e with
 | (l,t11)=>frm 30 [(2,.func (.func 103) []),(3,.ref 0 0),(6,.ref 1 0),(7,.tl q05 l (.own 507 26 3)),(10,.int .i64 n),(11,.int .i64 t11)]
def w10 (n:Int)(k_l:List q03)(q09:List Bool)(q04 q20:Int)(q19:List UInt8)(q62:Int)(e:List q00×Int):List TOb:=match e with
 | (l,t11)=>[.cells [.tl q07 k_l .unk,.tl .bool q09 .unk] 118 true,.cells [.int .u8 q04,.int .i64 q20,.str q19,.int .i64 q62] 115 true]
noncomputable def wu6 (N:Nat):(List TV→List TOb→Option q03)→List TV→List TOb→Option q03:=w54 DR z18 (ww5 N) (ql6 (qc4 (q08 (q87 (q08 (q08 (q10 Tryz.f99))))))) wz6 (qq1.loops.drop 1) (qk0 0 (qc3 DR z18 (ww5 N) (q08 (q08 (q08 (q10 Tryz.f99)))) (qq1.loops.drop 1) (jk5 N)))
def w14 (N:Nat)(n:Int)(k_l:List q03)(q09:List Bool)(q04 q20:Int)(q19:List UInt8)(q62:Int)(K0:(List q00×Int)→Option q03)(e:List q00×Int):Option q03 :=
 match e with
 | (l,t11) =>
  bif decide (t11 < n) then
   (q58 N (k_l,q09,()) t11).bind fun r =>
   bif (r.2.1 != 0) then
    some r
   else
    bif w23 (l.length + ([r.1]:List q00).length) 4398046511104 then
    bif q26 (t11 + 1) then
    K0 ((l ++ ([r.1]:List q00)),t11 + 1)
    else none
    else none
  else
   (wl4 N l).bind fun r1 =>
   some r1
theorem ju5 (N:Nat)(n:Int)(k_l:List q03)(q09:List Bool)(q04 q20:Int)(q19:List UInt8)(q62:Int)(n_:Nat)(e:List q00×Int):q57 (wu6 N ) n_ ((w21 n k_l q09 q04 q20 q19 q62) e) ((w10 n k_l q09 q04 q20 q19 q62) e)=q86 (w14 N n k_l q09 q04 q20 q19 q62 ) n_ e :=
 q39 (w21 n k_l q09 q04 q20 q19 q62) (w10 n k_l q09 q04 q20 q19 q62) (by intro K e; obtain ⟨l,t11⟩:=e; kernel_rfl) n_ e
def zb9 (N:Nat)(k:q34)(n:Int)(l1:Int→(List q03)→(List Bool)→Int→Int→(List UInt8)→Int→(List q00×Int)→Option q03):Option q03 :=
 l1 n k.1 k.2.1 0 0 [] 0 ([],0)
def qh5 (N:Nat)(k:q34)(n:Int):Option q03:=zb9 N k n (fun n k_l q09 q04 q20 q19 q62 e=>q86 (w14 N n k_l q09 q04 q20 q19 q62) N e)
abbrev wx2 :List PK:=[.val q65,.val (.int .i64),.fn 103 0]
noncomputable def z81 (N:Nat)(k:q34)(n:Int):Option (RT [q07]):=q22 DR Tryz.prog N (w78 N) qq1 Tryz.f99 (q10 Tryz.f99) (RT [q07]) (qx9 wx2 (k,n,())) [] (q40 [q07])
theorem jn2 (N:Nat)(k:q34)(n:Int):z81 N k n=qh5 N k n:=by
 have h:z81 N k n=zb9 N k n (fun n k_l q09 q04 q20 q19 q62 e=>q57 (wu6 N ) N (w21 n k_l q09 q04 q20 q19 q62 e) (w10 n k_l q09 q04 q20 q19 q62 e)):=by kernel_rfl
 rw [h]
 simp only [qh5,ju5] <;> rfl
def j61 (m:q34→Int→Option q03):Ent:=qf1 wx2 [q07] fun (x:Els [q65,(.int .i64)])=>m x.1 x.2.1
def wm7 (N:Nat):Ent:=j61 (qh5 N)
theorem j14 (N:Nat):q16 Tryz.prog 99 (wm7 N):=q51 (jq6 N) Tryz.func99 rfl (by kernel_rfl) (by kernel_rfl) fun (x:Els [q65,(.int .i64)])=>jn2 N x.1 x.2.1
def us1 :FH:=⟨[],[],[],[],false,[],[]⟩
noncomputable def xm0 (N:Nat):q48:=tab [(171,zl6 N)]
theorem u46 (N:Nat):q13 Tryz.prog (xm0 N):=q06 (j20 N) <| q27 _
def y62 (N:Nat)(l:List q00):Option OX3 :=
 (qg2 N 1 l).bind fun r =>
 some r
noncomputable def um3 (N:Nat)(l:List q00):Option (RT [q05,(.int .i64)]):=q22 DR Tryz.prog N (xm0 N) us1 Tryz.f106 (q10 Tryz.f106) (RT [q05,(.int .i64)]) (qd2 [(.list q05)] (l,())) [] (q40 [q05,(.int .i64)])
theorem vt6 (N:Nat)(l:List q00):um3 N l=y62 N l:=by kernel_rfl
def vi0 (m:(List q00)→Option OX3):Ent:=q35 [(.list q05)] [q05,(.int .i64)] fun (x:Els [(.list q05)])=>m x.1
def yg7 (N:Nat):Ent:=vi0 (y62 N)
theorem xx1 (N:Nat):q16 Tryz.prog 106 (yg7 N):=q15 (u46 N) Tryz.func106 rfl (by kernel_rfl) fun (x:Els [(.list q05)])=>vt6 N x.1
def vf9 :FH:=⟨[],[],[],[],false,[],[]⟩
noncomputable def jx4 (N:Nat):q48:=tab [(106,yg7 N),(101,qg9 N)]
theorem xu8 (N:Nat):q13 Tryz.prog (jx4 N):=q06 (xx1 N) <| q06 (qe1 N) <| q27 _
def wh4 (N:Nat)(l:List q00):Option q03 :=
 (y62 N l).bind fun r =>
 (qc7 N r.1 r.2.1).bind fun r1 =>
 some r1
noncomputable def v93 (N:Nat)(l:List q00):Option (RT [q07]):=q22 DR Tryz.prog N (jx4 N) vf9 Tryz.f105 (q10 Tryz.f105) (RT [q07]) (qd2 [(.list q05)] (l,())) [] (q40 [q07])
theorem xg4 (N:Nat)(l:List q00):v93 N l=wh4 N l:=by kernel_rfl
def x43 (m:(List q00)→Option q03):Ent:=q35 [(.list q05)] [q07] fun (x:Els [(.list q05)])=>m x.1
def j00 (N:Nat):Ent:=x43 (wh4 N)
theorem yk3 (N:Nat):q16 Tryz.prog 105 (j00 N):=q15 (xu8 N) Tryz.func105 rfl (by kernel_rfl) fun (x:Els [(.list q05)])=>xg4 N x.1
def wv5 :LH:=⟨[(2,.asis),(3,.asis),(6,.asis),(7,.own q05 507 26 3),(10,.int .i64),(11,.int .i64)],[],[.cells [.lst q07,.lst .bool],.cells [.int .u8,.int .i64,.str,.int .i64]]⟩
def qp9 :FH:=⟨[wv5],[],[],[],false,[],[]⟩
noncomputable def w72 (N:Nat):q48:=tab [(153,q52 N),(105,j00 N)]
theorem jt0 (N:Nat):q13 Tryz.prog (w72 N):=q06 (q49 N) <| q06 (yk3 N) <| q27 _
noncomputable def z08 :Sc:=wl6 Tryz.prog qp9
noncomputable def z06 (N:Nat):Cfg:=⟨N,w72 N,0⟩
noncomputable def jo2 (N:Nat):Exit→List TV→List TOb→Option q03:=fin Tryz.prog 0 Tryz.f99.results.toList (q40 [q07])
def w18 (n:Int)(k_l:List q03)(q09:List Bool)(q04 q20:Int)(q19:List UInt8)(q62:Int)(e:List q00×Int):List TV:=match e with
 | (l,t11)=>frm 30 [(2,.func (.func 105) []),(3,.ref 0 0),(6,.ref 1 0),(7,.tl q05 l (.own 507 26 3)),(10,.int .i64 n),(11,.int .i64 t11)]
def w13 (n:Int)(k_l:List q03)(q09:List Bool)(q04 q20:Int)(q19:List UInt8)(q62:Int)(e:List q00×Int):List TOb:=match e with
 | (l,t11)=>[.cells [.tl q07 k_l .unk,.tl .bool q09 .unk] 118 true,.cells [.int .u8 q04,.int .i64 q20,.str q19,.int .i64 q62] 115 true]
noncomputable def ww2 (N:Nat):(List TV→List TOb→Option q03)→List TV→List TOb→Option q03:=w54 DR z08 (z06 N) (ql6 (qc4 (q08 (q87 (q08 (q08 (q10 Tryz.f99))))))) wv5 (qp9.loops.drop 1) (qk0 0 (qc3 DR z08 (z06 N) (q08 (q08 (q08 (q10 Tryz.f99)))) (qp9.loops.drop 1) (jo2 N)))
def w05 (N:Nat)(n:Int)(k_l:List q03)(q09:List Bool)(q04 q20:Int)(q19:List UInt8)(q62:Int)(K0:(List q00×Int)→Option q03)(e:List q00×Int):Option q03 :=
 match e with
 | (l,t11) =>
  bif decide (t11 < n) then
   (q58 N (k_l,q09,()) t11).bind fun r =>
   bif (r.2.1 != 0) then
    some r
   else
    bif w23 (l.length + ([r.1]:List q00).length) 4398046511104 then
    bif q26 (t11 + 1) then
    K0 ((l ++ ([r.1]:List q00)),t11 + 1)
    else none
    else none
  else
   (wh4 N l).bind fun r1 =>
   some r1
theorem jo9 (N:Nat)(n:Int)(k_l:List q03)(q09:List Bool)(q04 q20:Int)(q19:List UInt8)(q62:Int)(n_:Nat)(e:List q00×Int):q57 (ww2 N ) n_ ((w18 n k_l q09 q04 q20 q19 q62) e) ((w13 n k_l q09 q04 q20 q19 q62) e)=q86 (w05 N n k_l q09 q04 q20 q19 q62 ) n_ e :=
 q39 (w18 n k_l q09 q04 q20 q19 q62) (w13 n k_l q09 q04 q20 q19 q62) (by intro K e; obtain ⟨l,t11⟩:=e; kernel_rfl) n_ e
def z86 (N:Nat)(k:q34)(n:Int)(l1:Int→(List q03)→(List Bool)→Int→Int→(List UInt8)→Int→(List q00×Int)→Option q03):Option q03 :=
 l1 n k.1 k.2.1 0 0 [] 0 ([],0)
def qh2 (N:Nat)(k:q34)(n:Int):Option q03:=z86 N k n (fun n k_l q09 q04 q20 q19 q62 e=>q86 (w05 N n k_l q09 q04 q20 q19 q62) N e)
abbrev wu5 :List PK:=[.val q65,.val (.int .i64),.fn 105 0]
noncomputable def zb2 (N:Nat)(k:q34)(n:Int):Option (RT [q07]):=q22 DR Tryz.prog N (w72 N) qp9 Tryz.f99 (q10 Tryz.f99) (RT [q07]) (qx9 wu5 (k,n,())) [] (q40 [q07])
theorem jl5 (N:Nat)(k:q34)(n:Int):zb2 N k n=qh2 N k n:=by
 have h:zb2 N k n=z86 N k n (fun n k_l q09 q04 q20 q19 q62 e=>q57 (ww2 N ) N (w18 n k_l q09 q04 q20 q19 q62 e) (w13 n k_l q09 q04 q20 q19 q62 e)):=by kernel_rfl
 rw [h]
 simp only [qh2,jo9] <;> rfl
def j86 (m:q34→Int→Option q03):Ent:=qf1 wu5 [q07] fun (x:Els [q65,(.int .i64)])=>m x.1 x.2.1
def wm8 (N:Nat):Ent:=j86 (qh2 N)
theorem j36 (N:Nat):q16 Tryz.prog 99 (wm8 N):=q51 (jt0 N) Tryz.func99 rfl (by kernel_rfl) (by kernel_rfl) fun (x:Els [q65,(.int .i64)])=>jl5 N x.1 x.2.1
def kt8 :FH:=⟨[],[],[],[],false,[],[]⟩
noncomputable def u11 (N:Nat):q48:=tab [(159,qe3 N),(76,q91 N),(102,ja0 N),(101,qg9 N)]
theorem k91 (N:Nat):q13 Tryz.prog (u11 N):=q06 (qc6 N) <| q06 (q80 N) <| q06 (jx0 N) <| q06 (qe1 N) <| q27 _
def y60 (N:Nat)(l:List q00):Option q03 :=
 (qa8 N 1 2 l).bind fun r =>
 bif (!r) then
  (qd7 N 8).bind fun r1 =>
  some r1
 else
  bif inR 0 l.length then
  bif decide (((q24 l 0 q29).2.1) < 0) then
   bif inR 0 l.length then
   (j10 N (q24 l 0 q29)).bind fun r2 =>
   (qc7 N r2.1 r2.2.1).bind fun r3 =>
   some r3
   else none
  else
   bif inR 0 l.length then
   some ((q24 l 0 q29),0,())
   else none
  else none
noncomputable def ks4 (N:Nat)(l:List q00):Option (RT [q07]):=q22 DR Tryz.prog N (u11 N) kt8 Tryz.f107 (q10 Tryz.f107) (RT [q07]) (qd2 [(.list q05)] (l,())) [] (q40 [q07])
theorem uy1 (N:Nat)(l:List q00):ks4 N l=y60 N l:=by kernel_rfl
def ug3 (m:(List q00)→Option q03):Ent:=q35 [(.list q05)] [q07] fun (x:Els [(.list q05)])=>m x.1
def xl9 (N:Nat):Ent:=ug3 (y60 N)
theorem vo2 (N:Nat):q16 Tryz.prog 107 (xl9 N):=q15 (k91 N) Tryz.func107 rfl (by kernel_rfl) fun (x:Els [(.list q05)])=>uy1 N x.1
end Go.Proofs.YtgicljncknbgcaaGreat.Abs
