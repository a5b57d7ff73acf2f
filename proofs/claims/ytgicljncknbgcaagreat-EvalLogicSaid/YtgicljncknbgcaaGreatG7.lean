/- The functions of the program, told on typed values, printed by a program: each tells what the reckoning of its body tells. -/
import Derived.Test.YtgicljncknbgcaaGreatL7
import Derived.Test.YtgicljncknbgcaaGreatG6
import Derived.Test.YtgicljncknbgcaaGreatLA
import Derived.Test.YtgicljncknbgcaaGreatProg
set_option linter.unusedVariables false
set_option linter.unusedSimpArgs false
set_option linter.unusedSectionVars false
namespace Go.Proofs.YtgicljncknbgcaaGreat.Abs
set_option maxRecDepth 100000
open Go Go.Proofs
def wv5 :LH:=⟨[(2,.asis),(3,.asis),(6,.asis),(7,.own q05 507 26 3),(10,.int .i64),(11,.int .i64)],[],[.cells [.lst q07,.lst .bool],.cells [.int .u8,.int .i64,.str,.int .i64]]⟩
def qq2 :FH:=⟨[wv5],[],[],[],false,[],[]⟩
noncomputable def wa3 (N:Nat):q49:=tab [(153,q53 N),(107,xs7 N)]
theorem y15 (N:Nat):q14 Tryz.prog (wa3 N):=q06 (q50 N) <| q06 (vt1 N) <| q28 _
noncomputable def wv1 :Sc:=wm4 Tryz.prog qq2
noncomputable def z24 (N:Nat):Cfg:=⟨N,wa3 N,0⟩
noncomputable def jm0 (N:Nat):Exit→List TV→List TOb→Option q03:=fin Tryz.prog 0 Tryz.f99.results.toList (q42 [q07])
def w23 (n:Int)(k_l:List q03)(q09:List Bool)(q04 q21:Int)(q22:List UInt8)(q63:Int)(e:List q00×Int):List TV:=match e with
 | (l,t11)=>frm 30 [(2,.func (.func 107) []),(3,.ref 0 0),(6,.ref 1 0),(7,.tl q05 l (.own 507 26 3)),(10,.int .i64 n),(11,.int .i64 t11)]
def w05 (n:Int)(k_l:List q03)(q09:List Bool)(q04 q21:Int)(q22:List UInt8)(q63:Int)(e:List q00×Int):List TOb:=match e with
 | (l,t11)=>[.cells [.tl q07 k_l .unk,.tl .bool q09 .unk] 118 true,.cells [.int .u8 q04,.int .i64 q21,.str q22,.int .i64 q63] 115 true]
noncomputable def wz5 (N:Nat):(List TV→List TOb→Option q03)→List TV→List TOb→Option q03:=w66 DR wv1 (z24 N) (qm3 (qc6 (q08 (q88 (q08 (q08 (q13 Tryz.f99))))))) wv5 (qq2.loops.drop 1) (qj9 0 (qc5 DR wv1 (z24 N) (q08 (q08 (q08 (q13 Tryz.f99)))) (qq2.loops.drop 1) (jm0 N)))
def w28 (N:Nat)(n:Int)(k_l:List q03)(q09:List Bool)(q04 q21:Int)(q22:List UInt8)(q63:Int)(K0:(List q00×Int)→Option q03)(e:List q00×Int):Option q03 :=
 match e with
 | (l,t11) =>
  bif decide (t11 < n) then
   (q59 N (k_l,q09,()) t11).bind fun r =>
   bif (r.2.1 != 0) then
    some r
   else
    bif w33 (l.length + ([r.1]:List q00).length) 4398046511104 then
    bif q27 (t11 + 1) then
    K0 ((l ++ ([r.1]:List q00)),t11 + 1)
    else none
    else none
  else
   (y82 N l).bind fun r1 =>
   some r1
theorem jt8 (N:Nat)(n:Int)(k_l:List q03)(q09:List Bool)(q04 q21:Int)(q22:List UInt8)(q63:Int)(n_:Nat)(e:List q00×Int):q58 (wz5 N ) n_ ((w23 n k_l q09 q04 q21 q22 q63) e) ((w05 n k_l q09 q04 q21 q22 q63) e)=q87 (w28 N n k_l q09 q04 q21 q22 q63 ) n_ e :=
 q41 (w23 n k_l q09 q04 q21 q22 q63) (w05 n k_l q09 q04 q21 q22 q63) (by intro K e; obtain ⟨l,t11⟩:=e; kernel_rfl) n_ e
def z65 (N:Nat)(k:q34)(n:Int)(l1:Int→(List q03)→(List Bool)→Int→Int→(List UInt8)→Int→(List q00×Int)→Option q03):Option q03 :=
 l1 n k.1 k.2.1 0 0 [] 0 ([],0)
def qn9 (N:Nat)(k:q34)(n:Int):Option q03:=z65 N k n (fun n k_l q09 q04 q21 q22 q63 e=>q87 (w28 N n k_l q09 q04 q21 q22 q63) N e)
abbrev z31 :List PK:=[.val q66,.val (.int .i64),.fn 107 0]
noncomputable def zb9 (N:Nat)(k:q34)(n:Int):Option (RT [q07]):=q24 DR Tryz.prog N (wa3 N) qq2 Tryz.f99 (q13 Tryz.f99) (RT [q07]) (qy6 z31 (k,n,())) [] (q42 [q07])
theorem jn3 (N:Nat)(k:q34)(n:Int):zb9 N k n=qn9 N k n:=by
 have h:zb9 N k n=z65 N k n (fun n k_l q09 q04 q21 q22 q63 e=>q58 (wz5 N ) N (w23 n k_l q09 q04 q21 q22 q63 e) (w05 n k_l q09 q04 q21 q22 q63 e)):=by kernel_rfl
 rw [h]
 simp only [qn9,jt8] <;> rfl
def jf7 (m:q34→Int→Option q03):Ent:=qf3 z31 [q07] fun (x:Els [q66,(.int .i64)])=>m x.1 x.2.1
def wn9 (N:Nat):Ent:=jf7 (qn9 N)
theorem j32 (N:Nat):q17 Tryz.prog 99 (wn9 N):=q52 (y15 N) Tryz.func99 rfl (by kernel_rfl) (by kernel_rfl) fun (x:Els [q66,(.int .i64)])=>jn3 N x.1 x.2.1
def num_Mod_H :FH:=⟨[],[],[],[],false,[],[]⟩
noncomputable def ur8 (N:Nat):q49:=tab [(220,ww8 N),(221,wa7 N)]
theorem kv3 (N:Nat):q14 Tryz.prog (ur8 N):=q06 (wt8 N) <| q06 (wc1 N) <| q28 _
def v88 (N:Nat)(a b:Int):Option (Int×Int×Unit) :=
 bif (b == 0) then
  some (0,10,())
 else
  (w39 N a).bind fun r =>
  (w39 N b).bind fun r1 =>
  bif decide (r1≠0) then
  (qk2 N (decide (a < 0)) 0 (Int.tmod r r1)).bind fun r2 =>
  some r2
  else none
noncomputable def num_Mod_C (N:Nat)(a b:Int):Option (RT [(.int .i64),(.int .i64)]):=q24 DR Tryz.prog N (ur8 N) num_Mod_H Tryz.f172 (q13 Tryz.f172) (RT [(.int .i64),(.int .i64)]) (qd4 [(.int .i64),(.int .i64)] (a,b,())) [] (q42 [(.int .i64),(.int .i64)])
theorem ka1 (N:Nat)(a b:Int):num_Mod_C N a b=v88 N a b:=by kernel_rfl
def up1 (m:Int→Int→Option (Int×Int×Unit)):Ent:=q37 [(.int .i64),(.int .i64)] [(.int .i64),(.int .i64)] fun (x:Els [(.int .i64),(.int .i64)])=>m x.1 x.2.1
def ve1 (N:Nat):Ent:=up1 (v88 N)
theorem u83 (N:Nat):q17 Tryz.prog 172 (ve1 N):=q16 (kv3 N) Tryz.func172 rfl (by kernel_rfl) fun (x:Els [(.int .i64),(.int .i64)])=>ka1 N x.1 x.2.1
def ui7 :FH:=⟨[],[],[],[],false,[],[]⟩
noncomputable def x40 (N:Nat):q49:=tab []
theorem vr2 (N:Nat):q14 Tryz.prog (x40 N):=q28 _
def zo0 (N:Nat)(n:Int):Option q00 :=
 some (1,n,[],())
noncomputable def ub2 (N:Nat)(n:Int):Option (RT [q05]):=q24 DR Tryz.prog N (x40 N) ui7 Tryz.f110 (q13 Tryz.f110) (RT [q05]) (qd4 [(.int .i64)] (n,())) [] (q42 [q05])
theorem va2 (N:Nat)(n:Int):ub2 N n=zo0 N n:=by kernel_rfl
def v05 (m:Int→Option q00):Ent:=q37 [(.int .i64)] [q05] fun (x:Els [(.int .i64)])=>m x.1
def zn8 (N:Nat):Ent:=v05 (zo0 N)
theorem j47 (N:Nat):q17 Tryz.prog 110 (zn8 N):=q16 (vr2 N) Tryz.func110 rfl (by kernel_rfl) fun (x:Els [(.int .i64)])=>va2 N x.1
def ks4 :FH:=⟨[],[],[(1,⟨13,21,0,[],[]⟩)],[],false,[],[]⟩
noncomputable def vz5 (N:Nat):q49:=tab [(172,ve1 N),(110,zn8 N),(101,qh0 N)]
theorem ki6 (N:Nat):q14 Tryz.prog (vz5 N):=q06 (u83 N) <| q06 (j47 N) <| q06 (qd6 N) <| q28 _
def v16 (N:Nat)(l:List q00):Option q03 :=
 bif inR 0 l.length then
 bif inR 1 l.length then
 (v88 N ((q25 l 0 q30).2.1) ((q25 l 1 q30).2.1)).bind fun r =>
 (zo0 N r.1).bind fun r1 =>
 (qd1 N r1 r.2.1).bind fun r2 =>
 some r2
 else none
 else none
noncomputable def ku7 (N:Nat)(l:List q00):Option (RT [q07]):=q24 DR Tryz.prog N (vz5 N) ks4 Tryz.f108 (q13 Tryz.f108) (RT [q07]) (qd4 [(.list q05)] (l,())) [] (q42 [q07])
theorem ux1 (N:Nat)(l:List q00):ku7 N l=v16 N l:=by kernel_rfl
def ug8 (m:(List q00)→Option q03):Ent:=q37 [(.list q05)] [q07] fun (x:Els [(.list q05)])=>m x.1
def xt7 (N:Nat):Ent:=ug8 (v16 N)
theorem vv5 (N:Nat):q17 Tryz.prog 108 (xt7 N):=q16 (ki6 N) Tryz.func108 rfl (by kernel_rfl) fun (x:Els [(.list q05)])=>ux1 N x.1
def y61 :FH:=⟨[],[],[],[],false,[],[]⟩
noncomputable def z23 (N:Nat):q49:=tab [(159,qe5 N),(76,q93 N),(157,qb3 N),(108,xt7 N)]
theorem jp1 (N:Nat):q14 Tryz.prog (z23 N):=q06 (qc9 N) <| q06 (q82 N) <| q06 (qa7 N) <| q06 (vv5 N) <| q28 _
def qf7 (N:Nat)(l:List q00)(t1:Int):Option q03 :=
 (qb1 N t1 t1 l).bind fun r =>
 bif (!r) then
  (qd8 N 8).bind fun r1 =>
  some r1
 else
  (q83 N l).bind fun r2 =>
  bif r2 then
   some ((0,0,[],()),0,())
  else
   (v16 N l).bind fun r3 =>
   some r3
abbrev wo6 :List PK:=[.val (.list q05),.ep 1,.val (.int .u8),.ep 1,.fn 108 0]
noncomputable def jv3 (N:Nat)(l:List q00)(t1:Int):Option (RT [q07]):=q24 DR Tryz.prog N (z23 N) y61 Tryz.f160 (q13 Tryz.f160) (RT [q07]) (qy6 wo6 (l,t1,())) [] (q42 [q07])
theorem je2 (N:Nat)(l:List q00)(t1:Int):jv3 N l t1=qf7 N l t1:=by kernel_rfl
def zx6 (m:(List q00)→Int→Option q03):Ent:=qf3 wo6 [q07] fun (x:Els [(.list q05),(.int .u8)])=>m x.1 x.2.1
def wi6 (N:Nat):Ent:=zx6 (qf7 N)
theorem zv8 (N:Nat):q17 Tryz.prog 160 (wi6 N):=q52 (jp1 N) Tryz.func160 rfl (by kernel_rfl) (by kernel_rfl) fun (x:Els [(.list q05),(.int .u8)])=>je2 N x.1 x.2.1
def wu7 :LH:=⟨[(2,.asis),(3,.asis),(6,.asis),(7,.own q05 507 26 3),(10,.int .i64),(11,.int .i64)],[],[.cells [.lst q07,.lst .bool],.cells [.int .u8,.int .i64,.str,.int .i64]]⟩
def qp9 :FH:=⟨[wu7],[],[],[],false,[],[]⟩
noncomputable def wa5 (N:Nat):q49:=tab [(153,q53 N),(160,wi6 N)]
theorem jt3 (N:Nat):q14 Tryz.prog (wa5 N):=q06 (q50 N) <| q06 (zv8 N) <| q28 _
noncomputable def z36 :Sc:=wm4 Tryz.prog qp9
noncomputable def z11 (N:Nat):Cfg:=⟨N,wa5 N,0⟩
noncomputable def jn4 (N:Nat):Exit→List TV→List TOb→Option q03:=fin Tryz.prog 0 Tryz.f99.results.toList (q42 [q07])
def qz6 (n:Int)(k_l:List q03)(q09:List Bool)(q04 q21:Int)(q22:List UInt8)(q63 t1:Int)(e:List q00×Int):List TV:=match e with
 | (l,t11)=>frm 30 [(2,.func (.func 160) [.ep [.int .u8 t1] 0,.ep [.func (.func 108) []] 0]),(3,.ref 0 0),(6,.ref 1 0),(7,.tl q05 l (.own 507 26 3)),(10,.int .i64 n),(11,.int .i64 t11)]
def w04 (n:Int)(k_l:List q03)(q09:List Bool)(q04 q21:Int)(q22:List UInt8)(q63 t1:Int)(e:List q00×Int):List TOb:=match e with
 | (l,t11)=>[.cells [.tl q07 k_l .unk,.tl .bool q09 .unk] 118 true,.cells [.int .u8 q04,.int .i64 q21,.str q22,.int .i64 q63] 115 true]
noncomputable def ww5 (N:Nat):(List TV→List TOb→Option q03)→List TV→List TOb→Option q03:=w66 DR z36 (z11 N) (qm3 (qc6 (q08 (q88 (q08 (q08 (q13 Tryz.f99))))))) wu7 (qp9.loops.drop 1) (qj9 0 (qc5 DR z36 (z11 N) (q08 (q08 (q08 (q13 Tryz.f99)))) (qp9.loops.drop 1) (jn4 N)))
def w27 (N:Nat)(n:Int)(k_l:List q03)(q09:List Bool)(q04 q21:Int)(q22:List UInt8)(q63 t1:Int)(K0:(List q00×Int)→Option q03)(e:List q00×Int):Option q03 :=
 match e with
 | (l,t11) =>
  bif decide (t11 < n) then
   (q59 N (k_l,q09,()) t11).bind fun r =>
   bif (r.2.1 != 0) then
    some r
   else
    bif w33 (l.length + ([r.1]:List q00).length) 4398046511104 then
    bif q27 (t11 + 1) then
    K0 ((l ++ ([r.1]:List q00)),t11 + 1)
    else none
    else none
  else
   (qf7 N l t1).bind fun r1 =>
   some r1
theorem y24 (N:Nat)(n:Int)(k_l:List q03)(q09:List Bool)(q04 q21:Int)(q22:List UInt8)(q63 t1:Int)(n_:Nat)(e:List q00×Int):q58 (ww5 N ) n_ ((qz6 n k_l q09 q04 q21 q22 q63 t1) e) ((w04 n k_l q09 q04 q21 q22 q63 t1) e)=q87 (w27 N n k_l q09 q04 q21 q22 q63 t1 ) n_ e :=
 q41 (qz6 n k_l q09 q04 q21 q22 q63 t1) (w04 n k_l q09 q04 q21 q22 q63 t1) (by intro K e; obtain ⟨l,t11⟩:=e; kernel_rfl) n_ e
def za3 (N:Nat)(k:q34)(n t1:Int)(l1:Int→(List q03)→(List Bool)→Int→Int→(List UInt8)→Int→Int→(List q00×Int)→Option q03):Option q03 :=
 l1 n k.1 k.2.1 0 0 [] 0 t1 ([],0)
def qp5 (N:Nat)(k:q34)(n t1:Int):Option q03:=za3 N k n t1 (fun n k_l q09 q04 q21 q22 q63 t1 e=>q87 (w27 N n k_l q09 q04 q21 q22 q63 t1) N e)
abbrev z05 :List PK:=[.val q66,.val (.int .i64),.fn 160 2,.ep 1,.val (.int .u8),.ep 1,.fn 108 0]
noncomputable def z71 (N:Nat)(k:q34)(n t1:Int):Option (RT [q07]):=q24 DR Tryz.prog N (wa5 N) qp9 Tryz.f99 (q13 Tryz.f99) (RT [q07]) (qy6 z05 (k,n,t1,())) [] (q42 [q07])
theorem jo9 (N:Nat)(k:q34)(n t1:Int):z71 N k n t1=qp5 N k n t1:=by
 have h:z71 N k n t1=za3 N k n t1 (fun n k_l q09 q04 q21 q22 q63 t1 e=>q58 (ww5 N ) N (qz6 n k_l q09 q04 q21 q22 q63 t1 e) (w04 n k_l q09 q04 q21 q22 q63 t1 e)):=by kernel_rfl
 rw [h]
 simp only [qp5,y24] <;> rfl
def jc1 (m:q34→Int→Int→Option q03):Ent:=qf3 z05 [q07] fun (x:Els [q66,(.int .i64),(.int .u8)])=>m x.1 x.2.1 x.2.2.1
def wn8 (N:Nat):Ent:=jc1 (qp5 N)
theorem j00 (N:Nat):q17 Tryz.prog 99 (wn8 N):=q52 (jt3 N) Tryz.func99 rfl (by kernel_rfl) (by kernel_rfl) fun (x:Els [q66,(.int .i64),(.int .u8)])=>jo9 N x.1 x.2.1 x.2.2.1
def vh1 :FH:=⟨[],[],[],[],false,[],[]⟩
noncomputable def jy2 (N:Nat):q49:=tab [(110,zn8 N)]
theorem xz6 (N:Nat):q14 Tryz.prog (jy2 N):=q06 (j47 N) <| q28 _
def jg9 (N:Nat)(l:List q00):Option q03 :=
 bif inR 0 l.length then
 (zo0 N (((q25 l 0 q30).2.2.1).length:Int)).bind fun r =>
 some (r,0,())
 else none
noncomputable def vl2 (N:Nat)(l:List q00):Option (RT [q07]):=q24 DR Tryz.prog N (jy2 N) vh1 Tryz.f109 (q13 Tryz.f109) (RT [q07]) (qd4 [(.list q05)] (l,())) [] (q42 [q07])
theorem xk9 (N:Nat)(l:List q00):vl2 N l=jg9 N l:=by kernel_rfl
def yz4 (m:(List q00)→Option q03):Ent:=q37 [(.list q05)] [q07] fun (x:Els [(.list q05)])=>m x.1
def j39 (N:Nat):Ent:=yz4 (jg9 N)
theorem yk8 (N:Nat):q17 Tryz.prog 109 (j39 N):=q16 (xz6 N) Tryz.func109 rfl (by kernel_rfl) fun (x:Els [(.list q05)])=>xk9 N x.1
def y43 :FH:=⟨[],[],[],[],false,[],[]⟩
noncomputable def z19 (N:Nat):q49:=tab [(159,qe5 N),(76,q93 N),(157,qb3 N),(109,j39 N)]
theorem jn7 (N:Nat):q14 Tryz.prog (z19 N):=q06 (qc9 N) <| q06 (q82 N) <| q06 (qa7 N) <| q06 (yk8 N) <| q28 _
def qg0 (N:Nat)(l:List q00)(t1:Int):Option q03 :=
 (qb1 N t1 t1 l).bind fun r =>
 bif (!r) then
  (qd8 N 8).bind fun r1 =>
  some r1
 else
  (q83 N l).bind fun r2 =>
  bif r2 then
   some ((0,0,[],()),0,())
  else
   (jg9 N l).bind fun r3 =>
   some r3
abbrev wn6 :List PK:=[.val (.list q05),.ep 1,.val (.int .u8),.ep 1,.fn 109 0]
noncomputable def y27 (N:Nat)(l:List q00)(t1:Int):Option (RT [q07]):=q24 DR Tryz.prog N (z19 N) y43 Tryz.f160 (q13 Tryz.f160) (RT [q07]) (qy6 wn6 (l,t1,())) [] (q42 [q07])
theorem j90 (N:Nat)(l:List q00)(t1:Int):y27 N l t1=qg0 N l t1:=by kernel_rfl
def zy8 (m:(List q00)→Int→Option q03):Ent:=qf3 wn6 [q07] fun (x:Els [(.list q05),(.int .u8)])=>m x.1 x.2.1
def wl4 (N:Nat):Ent:=zy8 (qg0 N)
theorem zv5 (N:Nat):q17 Tryz.prog 160 (wl4 N):=q52 (jn7 N) Tryz.func160 rfl (by kernel_rfl) (by kernel_rfl) fun (x:Els [(.list q05),(.int .u8)])=>j90 N x.1 x.2.1
def wy5 :LH:=⟨[(2,.asis),(3,.asis),(6,.asis),(7,.own q05 507 26 3),(10,.int .i64),(11,.int .i64)],[],[.cells [.lst q07,.lst .bool],.cells [.int .u8,.int .i64,.str,.int .i64]]⟩
def qq9 :FH:=⟨[wy5],[],[],[],false,[],[]⟩
noncomputable def w90 (N:Nat):q49:=tab [(153,q53 N),(160,wl4 N)]
theorem y20 (N:Nat):q14 Tryz.prog (w90 N):=q06 (q50 N) <| q06 (zv5 N) <| q28 _
noncomputable def z08 :Sc:=wm4 Tryz.prog qq9
noncomputable def wy2 (N:Nat):Cfg:=⟨N,w90 N,0⟩
noncomputable def jo0 (N:Nat):Exit→List TV→List TOb→Option q03:=fin Tryz.prog 0 Tryz.f99.results.toList (q42 [q07])
def w11 (n:Int)(k_l:List q03)(q09:List Bool)(q04 q21:Int)(q22:List UInt8)(q63 t1:Int)(e:List q00×Int):List TV:=match e with
 | (l,t11)=>frm 30 [(2,.func (.func 160) [.ep [.int .u8 t1] 0,.ep [.func (.func 109) []] 0]),(3,.ref 0 0),(6,.ref 1 0),(7,.tl q05 l (.own 507 26 3)),(10,.int .i64 n),(11,.int .i64 t11)]
def qz8 (n:Int)(k_l:List q03)(q09:List Bool)(q04 q21:Int)(q22:List UInt8)(q63 t1:Int)(e:List q00×Int):List TOb:=match e with
 | (l,t11)=>[.cells [.tl q07 k_l .unk,.tl .bool q09 .unk] 118 true,.cells [.int .u8 q04,.int .i64 q21,.str q22,.int .i64 q63] 115 true]
noncomputable def z21 (N:Nat):(List TV→List TOb→Option q03)→List TV→List TOb→Option q03:=w66 DR z08 (wy2 N) (qm3 (qc6 (q08 (q88 (q08 (q08 (q13 Tryz.f99))))))) wy5 (qq9.loops.drop 1) (qj9 0 (qc5 DR z08 (wy2 N) (q08 (q08 (q08 (q13 Tryz.f99)))) (qq9.loops.drop 1) (jo0 N)))
def w19 (N:Nat)(n:Int)(k_l:List q03)(q09:List Bool)(q04 q21:Int)(q22:List UInt8)(q63 t1:Int)(K0:(List q00×Int)→Option q03)(e:List q00×Int):Option q03 :=
 match e with
 | (l,t11) =>
  bif decide (t11 < n) then
   (q59 N (k_l,q09,()) t11).bind fun r =>
   bif (r.2.1 != 0) then
    some r
   else
    bif w33 (l.length + ([r.1]:List q00).length) 4398046511104 then
    bif q27 (t11 + 1) then
    K0 ((l ++ ([r.1]:List q00)),t11 + 1)
    else none
    else none
  else
   (qg0 N l t1).bind fun r1 =>
   some r1
theorem y51 (N:Nat)(n:Int)(k_l:List q03)(q09:List Bool)(q04 q21:Int)(q22:List UInt8)(q63 t1:Int)(n_:Nat)(e:List q00×Int):q58 (z21 N ) n_ ((w11 n k_l q09 q04 q21 q22 q63 t1) e) ((qz8 n k_l q09 q04 q21 q22 q63 t1) e)=q87 (w19 N n k_l q09 q04 q21 q22 q63 t1 ) n_ e :=
 q41 (w11 n k_l q09 q04 q21 q22 q63 t1) (qz8 n k_l q09 q04 q21 q22 q63 t1) (by intro K e; obtain ⟨l,t11⟩:=e; kernel_rfl) n_ e
def za9 (N:Nat)(k:q34)(n t1:Int)(l1:Int→(List q03)→(List Bool)→Int→Int→(List UInt8)→Int→Int→(List q00×Int)→Option q03):Option q03 :=
 l1 n k.1 k.2.1 0 0 [] 0 t1 ([],0)
def qo0 (N:Nat)(k:q34)(n t1:Int):Option q03:=za9 N k n t1 (fun n k_l q09 q04 q21 q22 q63 t1 e=>q87 (w19 N n k_l q09 q04 q21 q22 q63 t1) N e)
abbrev z06 :List PK:=[.val q66,.val (.int .i64),.fn 160 2,.ep 1,.val (.int .u8),.ep 1,.fn 109 0]
noncomputable def z67 (N:Nat)(k:q34)(n t1:Int):Option (RT [q07]):=q24 DR Tryz.prog N (w90 N) qq9 Tryz.f99 (q13 Tryz.f99) (RT [q07]) (qy6 z06 (k,n,t1,())) [] (q42 [q07])
theorem jl1 (N:Nat)(k:q34)(n t1:Int):z67 N k n t1=qo0 N k n t1:=by
 have h:z67 N k n t1=za9 N k n t1 (fun n k_l q09 q04 q21 q22 q63 t1 e=>q58 (z21 N ) N (w11 n k_l q09 q04 q21 q22 q63 t1 e) (qz8 n k_l q09 q04 q21 q22 q63 t1 e)):=by kernel_rfl
 rw [h]
 simp only [qo0,y51] <;> rfl
def je7 (m:q34→Int→Int→Option q03):Ent:=qf3 z06 [q07] fun (x:Els [q66,(.int .i64),(.int .u8)])=>m x.1 x.2.1 x.2.2.1
def wo3 (N:Nat):Ent:=je7 (qo0 N)
theorem j05 (N:Nat):q17 Tryz.prog 99 (wo3 N):=q52 (y20 N) Tryz.func99 rfl (by kernel_rfl) (by kernel_rfl) fun (x:Els [q66,(.int .i64),(.int .u8)])=>jl1 N x.1 x.2.1 x.2.2.1
def y57 :FH:=⟨[],[],[],[],false,[],[]⟩
noncomputable def wy9 (N:Nat):q49:=tab [(159,qe5 N),(76,q93 N),(157,qb3 N),(111,yh4 N)]
theorem jp8 (N:Nat):q14 Tryz.prog (wy9 N):=q06 (qc9 N) <| q06 (q82 N) <| q06 (qa7 N) <| q06 (xx1 N) <| q28 _
def qg4 (N:Nat)(l:List q00)(t1:Int):Option q03 :=
 (qb1 N t1 t1 l).bind fun r =>
 bif (!r) then
  (qd8 N 8).bind fun r1 =>
  some r1
 else
  (q83 N l).bind fun r2 =>
  bif r2 then
   some ((0,0,[],()),0,())
  else
   (y89 N l).bind fun r3 =>
   some r3
abbrev wo5 :List PK:=[.val (.list q05),.ep 1,.val (.int .u8),.ep 1,.fn 111 0]
noncomputable def y66 (N:Nat)(l:List q00)(t1:Int):Option (RT [q07]):=q24 DR Tryz.prog N (wy9 N) y57 Tryz.f160 (q13 Tryz.f160) (RT [q07]) (qy6 wo5 (l,t1,())) [] (q42 [q07])
theorem ja4 (N:Nat)(l:List q00)(t1:Int):y66 N l t1=qg4 N l t1:=by kernel_rfl
def j28 (m:(List q00)→Int→Option q03):Ent:=qf3 wo5 [q07] fun (x:Els [(.list q05),(.int .u8)])=>m x.1 x.2.1
def wj6 (N:Nat):Ent:=j28 (qg4 N)
theorem zw2 (N:Nat):q17 Tryz.prog 160 (wj6 N):=q52 (jp8 N) Tryz.func160 rfl (by kernel_rfl) (by kernel_rfl) fun (x:Els [(.list q05),(.int .u8)])=>ja4 N x.1 x.2.1
def wy8 :LH:=⟨[(2,.asis),(3,.asis),(6,.asis),(7,.own q05 507 26 3),(10,.int .i64),(11,.int .i64)],[],[.cells [.lst q07,.lst .bool],.cells [.int .u8,.int .i64,.str,.int .i64]]⟩
def qq0 :FH:=⟨[wy8],[],[],[],false,[],[]⟩
noncomputable def wa6 (N:Nat):q49:=tab [(153,q53 N),(160,wj6 N)]
theorem jy6 (N:Nat):q14 Tryz.prog (wa6 N):=q06 (q50 N) <| q06 (zw2 N) <| q28 _
noncomputable def z30 :Sc:=wm4 Tryz.prog qq0
noncomputable def z01 (N:Nat):Cfg:=⟨N,wa6 N,0⟩
noncomputable def jo1 (N:Nat):Exit→List TV→List TOb→Option q03:=fin Tryz.prog 0 Tryz.f99.results.toList (q42 [q07])
def qz9 (n:Int)(k_l:List q03)(q09:List Bool)(q04 q21:Int)(q22:List UInt8)(q63 t1:Int)(e:List q00×Int):List TV:=match e with
 | (l,t11)=>frm 30 [(2,.func (.func 160) [.ep [.int .u8 t1] 0,.ep [.func (.func 111) []] 0]),(3,.ref 0 0),(6,.ref 1 0),(7,.tl q05 l (.own 507 26 3)),(10,.int .i64 n),(11,.int .i64 t11)]
def w02 (n:Int)(k_l:List q03)(q09:List Bool)(q04 q21:Int)(q22:List UInt8)(q63 t1:Int)(e:List q00×Int):List TOb:=match e with
 | (l,t11)=>[.cells [.tl q07 k_l .unk,.tl .bool q09 .unk] 118 true,.cells [.int .u8 q04,.int .i64 q21,.str q22,.int .i64 q63] 115 true]
noncomputable def wy4 (N:Nat):(List TV→List TOb→Option q03)→List TV→List TOb→Option q03:=w66 DR z30 (z01 N) (qm3 (qc6 (q08 (q88 (q08 (q08 (q13 Tryz.f99))))))) wy8 (qq0.loops.drop 1) (qj9 0 (qc5 DR z30 (z01 N) (q08 (q08 (q08 (q13 Tryz.f99)))) (qq0.loops.drop 1) (jo1 N)))
def w09 (N:Nat)(n:Int)(k_l:List q03)(q09:List Bool)(q04 q21:Int)(q22:List UInt8)(q63 t1:Int)(K0:(List q00×Int)→Option q03)(e:List q00×Int):Option q03 :=
 match e with
 | (l,t11) =>
  bif decide (t11 < n) then
   (q59 N (k_l,q09,()) t11).bind fun r =>
   bif (r.2.1 != 0) then
    some r
   else
    bif w33 (l.length + ([r.1]:List q00).length) 4398046511104 then
    bif q27 (t11 + 1) then
    K0 ((l ++ ([r.1]:List q00)),t11 + 1)
    else none
    else none
  else
   (qg4 N l t1).bind fun r1 =>
   some r1
theorem y16 (N:Nat)(n:Int)(k_l:List q03)(q09:List Bool)(q04 q21:Int)(q22:List UInt8)(q63 t1:Int)(n_:Nat)(e:List q00×Int):q58 (wy4 N ) n_ ((qz9 n k_l q09 q04 q21 q22 q63 t1) e) ((w02 n k_l q09 q04 q21 q22 q63 t1) e)=q87 (w09 N n k_l q09 q04 q21 q22 q63 t1 ) n_ e :=
 q41 (qz9 n k_l q09 q04 q21 q22 q63 t1) (w02 n k_l q09 q04 q21 q22 q63 t1) (by intro K e; obtain ⟨l,t11⟩:=e; kernel_rfl) n_ e
def z83 (N:Nat)(k:q34)(n t1:Int)(l1:Int→(List q03)→(List Bool)→Int→Int→(List UInt8)→Int→Int→(List q00×Int)→Option q03):Option q03 :=
 l1 n k.1 k.2.1 0 0 [] 0 t1 ([],0)
def qp3 (N:Nat)(k:q34)(n t1:Int):Option q03:=z83 N k n t1 (fun n k_l q09 q04 q21 q22 q63 t1 e=>q87 (w09 N n k_l q09 q04 q21 q22 q63 t1) N e)
abbrev wx9 :List PK:=[.val q66,.val (.int .i64),.fn 160 2,.ep 1,.val (.int .u8),.ep 1,.fn 111 0]
noncomputable def ze4 (N:Nat)(k:q34)(n t1:Int):Option (RT [q07]):=q24 DR Tryz.prog N (wa6 N) qq0 Tryz.f99 (q13 Tryz.f99) (RT [q07]) (qy6 wx9 (k,n,t1,())) [] (q42 [q07])
theorem jo8 (N:Nat)(k:q34)(n t1:Int):ze4 N k n t1=qp3 N k n t1:=by
 have h:ze4 N k n t1=z83 N k n t1 (fun n k_l q09 q04 q21 q22 q63 t1 e=>q58 (wy4 N ) N (qz9 n k_l q09 q04 q21 q22 q63 t1 e) (w02 n k_l q09 q04 q21 q22 q63 t1 e)):=by kernel_rfl
 rw [h]
 simp only [qp3,y16] <;> rfl
def jb5 (m:q34→Int→Int→Option q03):Ent:=qf3 wx9 [q07] fun (x:Els [q66,(.int .i64),(.int .u8)])=>m x.1 x.2.1 x.2.2.1
def wm8 (N:Nat):Ent:=jb5 (qp3 N)
theorem j25 (N:Nat):q17 Tryz.prog 99 (wm8 N):=q52 (jy6 N) Tryz.func99 rfl (by kernel_rfl) (by kernel_rfl) fun (x:Els [q66,(.int .i64),(.int .u8)])=>jo8 N x.1 x.2.1 x.2.2.1
def x25 :FH:=⟨[],[],[],[],false,[],[]⟩
noncomputable def zr6 (N:Nat):q49:=tab [(80,ql0 N),(153,q53 N)]
theorem yr6 (N:Nat):q14 Tryz.prog (zr6 N):=q06 (qp2 N) <| q06 (q50 N) <| q28 _
def wc0 (N:Nat)(k:q34):Option q03 :=
 (q84 N k 0).bind fun r =>
 bif (r.2.1 != 0) then
  some r
 else
  bif (r.1.1 == 0) then
   some r
  else
   bif (r.1.2.1 == 1) then
    (q59 N k 1).bind fun r1 =>
    some r1
   else
    (q59 N k 2).bind fun r2 =>
    some r2
noncomputable def x11 (N:Nat)(k:q34):Option (RT [q07]):=q24 DR Tryz.prog N (zr6 N) x25 Tryz.f112 (q13 Tryz.f112) (RT [q07]) (qd4 [q66] (k,())) [] (q42 [q07])
theorem yd2 (N:Nat)(k:q34):x11 N k=wc0 N k:=by kernel_rfl
def jv2 (m:q34→Option q03):Ent:=q37 [q66] [q07] fun (x:Els [q66])=>m x.1
def z87 (N:Nat):Ent:=jv2 (wc0 N)
theorem jm3 (N:Nat):q17 Tryz.prog 112 (z87 N):=q16 (yr6 N) Tryz.func112 rfl (by kernel_rfl) fun (x:Els [q66])=>yd2 N x.1
noncomputable def zz4 (N:Nat):q49:=tab [(99,sel [0,0,173,3,105] (z33 N) <| sel [0,0,173,3,106] (wz2 N) <| sel [0,0,173,3,107] (z12 N) <| sel [0,0,173,3,108] (wn0 N) k80)]
theorem yw1 (N:Nat):q14 Tryz.prog (zz4 N):=q06 (qe1 (j89 N) <| qe1 (je4 N) <| qe1 (jg3 N) <| qe1 (zx7 N) wr3) <| q28 _
noncomputable def zj9 (N:Nat):Ent:=z63 Tryz.prog N (zz4 N) ⟨[],[],[],[],false,[99],[]⟩ Tryz.f94 (q13 Tryz.f94)
theorem y11 (N:Nat):q17 Tryz.prog 94 (zj9 N):=qb4 (yw1 N) Tryz.func94 rfl (by kernel_rfl)
noncomputable def zk5 (N:Nat):q49:=tab [(99,sel [0,0,170,3,0,3,118] (wn8 N) <| sel [0,0,170,3,0,3,119] (wo3 N) <| sel [0,0,170,3,0,3,121] (wm8 N) k80)]
theorem yb3 (N:Nat):q14 Tryz.prog (zk5 N):=q06 (qe1 (j00 N) <| qe1 (j05 N) <| qe1 (j25 N) wr3) <| q28 _
noncomputable def wz1 (N:Nat):Ent:=z63 Tryz.prog N (zk5 N) ⟨[],[],[],[],false,[99],[]⟩ Tryz.f88 (q13 Tryz.f88)
theorem j79 (N:Nat):q17 Tryz.prog 88 (wz1 N):=qb4 (yb3 N) Tryz.func88 rfl (by kernel_rfl)
def u67 :FH:=⟨[],[],[],[],false,[],[]⟩
noncomputable def x39 (N:Nat):q49:=tab [(94,zj9 N),(99,sel [0,0,110] (wo1 N) <| sel [0,0,113] (wo4 N) <| sel [0,0,115] (wo7 N) <| sel [0,0,117] (wn9 N) k80),(88,wz1 N),(112,z87 N),(76,q93 N)]
theorem vs3 (N:Nat):q14 Tryz.prog (x39 N):=q06 (y11 N) <| q06 (qe1 (j24 N) <| qe1 (j27 N) <| qe1 (j15 N) <| qe1 (j32 N) wr3) <| q06 (j79 N) <| q06 (jm3 N) <| q06 (q82 N) <| q28 _
def qu9 (N:Nat)(op:Int)(k:q34):Option q03 :=
 bif (op == 13) then
  (qt5 N k 2).bind fun r =>
  some r
 else
  bif (op == 14) then
   (qs5 N k 2).bind fun r1 =>
   some r1
  else
   bif (op == 15) then
    (qr8 N k 2).bind fun r2 =>
    some r2
   else
    bif (op == 16) then
     (qn6 N k 2).bind fun r3 =>
     some r3
    else
     bif (op == 17) then
      (qo5 N k 1).bind fun r4 =>
      some r4
     else
      bif (op == 19) then
       (qh5 N k (k.1.length:Int)).bind fun r5 =>
       some r5
      else
       bif (op == 20) then
        (qi0 N k (k.1.length:Int)).bind fun r6 =>
        some r6
       else
        bif (op == 18) then
         (qn9 N k 1).bind fun r7 =>
         some r7
        else
         bif (op == 21) then
          (qp5 N k 2 1).bind fun r8 =>
          some r8
         else
          bif (op == 22) then
           (qo0 N k 1 3).bind fun r9 =>
           some r9
          else
           bif (op == 23) then
            (qp3 N k 1 3).bind fun r10 =>
            some r10
           else
            bif (op == 26) then
             (wc0 N k).bind fun r11 =>
             some r11
            else
             (qd8 N 2).bind fun r12 =>
             some r12
noncomputable def ui5 (N:Nat)(op:Int)(k:q34):Option (RT [q07]):=q24 DR Tryz.prog N (x39 N) u67 Tryz.f38 (q13 Tryz.f38) (RT [q07]) (qd4 [(.int .u8),q66] (op,k,())) [] (q42 [q07])
theorem va0 (N:Nat)(op:Int)(k:q34):ui5 N op k=qu9 N op k:=by kernel_rfl
def xw0 (m:Int→q34→Option q03):Ent:=q37 [(.int .u8),q66] [q07] fun (x:Els [(.int .u8),q66])=>m x.1 x.2.1
def jq3 (N:Nat):Ent:=xw0 (qu9 N)
theorem xj6 (N:Nat):q17 Tryz.prog 38 (jq3 N):=q16 (vs3 N) Tryz.func38 rfl (by kernel_rfl) fun (x:Els [(.int .u8),q66])=>va0 N x.1 x.2.1
def jb0 :LH:=⟨[(0,.lst q81),(2,.lst qa6),(4,.asis),(6,.asis),(8,.asis),(9,.asis),(20,.lst q81),(21,.int .i64),(22,.int .i64)],[],[.cells [.int .u8,.int .i64,.str],.cells [.int .u8,.int .i64,.str],.same,.cells [.int .u8,.int .i64,.str,.int .i64]]⟩
def x45 :LH:=⟨[(0,.lst q81),(2,.lst qa6),(4,.asis),(6,.asis),(8,.asis),(9,.asis),(10,.int .i64),(11,.asis),(12,.asis),(20,.lst q81),(21,.int .i64),(22,.int .i64),(28,.lst (.int .i64)),(29,.int .i64),(30,.int .i64)],[],[.cells [.int .u8,.int .i64,.str],.cells [.int .u8,.int .i64,.str],.same,.cells [.int .u8,.int .i64,.str,.int .i64],.cells [.int .u8,.int .u8,.int .i64,.str,.str,.lst (.int .i64),.int .i64,.int .i64],.cells [.own q07 2500 115 4,.own .bool 2501 4 1]]⟩
def qu2 :FH:=⟨[jb0,x45],[19],[(11,⟨10,114,0,[(4,.app 2500),(8,.app 2501)],[]⟩),(12,⟨28,114,0,[(7,.app 2500),(26,.app 2501)],[]⟩),(19,⟨6,114,0,[(5,.store true 2)],[]⟩),(21,⟨5,114,0,[(4,.store true 1)],[]⟩)],[],false,[],[]⟩
noncomputable def jt4 (N:Nat):q49:=tab [(36,x87 N),(37,y67 N),(38,jq3 N)]
theorem ud8 (N:Nat):q14 Tryz.prog (jt4 N):=q06 (vq1 N) <| q06 (xf4 N) <| q06 (xj6 N) <| q28 _
noncomputable def w58 :Sc:=wm4 Tryz.prog qu2
noncomputable def qu6 (N:Nat):Cfg:=⟨N,jt4 N,0⟩
noncomputable def yj1 (N:Nat):Exit→List TV→List TOb→Option OX3:=fin Tryz.prog 0 Tryz.f15.results.toList (q42 [q05,(.int .i64)])
def w34 (t:List q20)(vars:List q40)(t21 q36 q71:Int)(q70:List UInt8)(qa3 jg5:Int)(j83:List UInt8)(e:Int×List q03×Int×Int×List UInt8×Int):List TV:=match e with
 | (t22,all,q90,qh1,qh3,wa8)=>frm 114 [(0,.tl q81 t .unk),(2,.tl qa6 vars .unk),(4,.ref 0 0),(6,.ref 1 0),(8,.arr 2 ((t.length:Int).toNat)),(9,.ref 3 0),(20,.tl q81 t .unk),(21,.int .i64 t21),(22,.int .i64 t22)]
def w35 (t:List q20)(vars:List q40)(t21 q36 q71:Int)(q70:List UInt8)(qa3 jg5:Int)(j83:List UInt8)(e:Int×List q03×Int×Int×List UInt8×Int):List TOb:=match e with
 | (t22,all,q90,qh1,qh3,wa8)=>[.cells [.int .u8 q36,.int .i64 q71,.str q70] 26 true,.cells [.int .u8 qa3,.int .i64 jg5,.str j83] 26 true,.tarr q07 all 115 true,.cells [.int .u8 q90,.int .i64 qh1,.str qh3,.int .i64 wa8] 115 true]
def jd9 (t:List q20)(vars:List q40)(t22 t21:Int)(t28:List Int)(t29 q36 q71:Int)(q70:List UInt8)(qa3 jg5:Int)(j83:List UInt8)(all:List q03)(q90 qh1:Int)(qh3:List UInt8)(wa8 jh1 q26 q61:Int)(q62 q39:List UInt8)(qb2:List Int)(q15 q18:Int)(e:Int×List q03×List Bool):List TV:=match e with
 | (t30,k_l,q09)=>frm 114 [(0,.tl q81 t .unk),(2,.tl qa6 vars .unk),(4,.ref 0 0),(6,.ref 1 0),(8,.arr 2 ((t.length:Int).toNat)),(9,.ref 3 0),(10,.int .i64 t22),(11,.ref 4 0),(12,.ref 5 0),(20,.tl q81 t .unk),(21,.int .i64 t21),(22,.int .i64 t22),(28,.tl (.int .i64) t28 .unk),(29,.int .i64 t29),(30,.int .i64 t30)]
def jf4 (t:List q20)(vars:List q40)(t22 t21:Int)(t28:List Int)(t29 q36 q71:Int)(q70:List UInt8)(qa3 jg5:Int)(j83:List UInt8)(all:List q03)(q90 qh1:Int)(qh3:List UInt8)(wa8 jh1 q26 q61:Int)(q62 q39:List UInt8)(qb2:List Int)(q15 q18:Int)(e:Int×List q03×List Bool):List TOb:=match e with
 | (t30,k_l,q09)=>[.cells [.int .u8 q36,.int .i64 q71,.str q70] 26 true,.cells [.int .u8 qa3,.int .i64 jg5,.str j83] 26 true,.tarr q07 all 115 true,.cells [.int .u8 q90,.int .i64 qh1,.str qh3,.int .i64 wa8] 115 true,.cells [.int .u8 jh1,.int .u8 q26,.int .i64 q61,.str q62,.str q39,.tl (.int .i64) qb2 .unk,.int .i64 q15,.int .i64 q18] 54 true,.cells [.tl q07 k_l (.own 2500 115 4),.tl .bool q09 (.own 2501 4 1)] 118 true]
noncomputable def x53 (N:Nat)(K0r:List TV→List TOb→Option OX3):(List TV→List TOb→Option OX3)→List TV→List TOb→Option OX3:=w66 DR w58 (qu6 N) (qm3 (qc6 (q08 (q88 (q08 (q08 (qc6 (q88 (q08 (q08 (qm3 (qc6 (q08 (q88 (q08 (q08 (q08 (q13 Tryz.f15)))))))))))))))))) x45 (qu2.loops.drop 2) (qj9 2 (qc5 DR w58 (qu6 N) (q08 (q08 (q08 (qc6 (q88 (q08 (q08 (qm3 (qc6 (q08 (q88 (q08 (q08 (q08 (q13 Tryz.f15))))))))))))))) (qu2.loops.drop 2) (qj9 1 (qc5 DR w58 (qu6 N) (q08 (q08 (q08 (qm3 (qc6 (q08 (q88 (q08 (q08 (q08 (q13 Tryz.f15))))))))))) (qu2.loops.drop 2) (ug3 (qu6 N) jb0 (qj9 0 (qc5 DR w58 (qu6 N) (q08 (q08 (q08 (q08 (q13 Tryz.f15))))) (qu2.loops.drop 2) (yj1 N))) K0r)))))
def jb2 (N:Nat)(t:List q20)(vars:List q40)(t22 t21:Int)(t28:List Int)(t29 q36 q71:Int)(q70:List UInt8)(qa3 jg5:Int)(j83:List UInt8)(all:List q03)(q90 qh1:Int)(qh3:List UInt8)(wa8 jh1 q26 q61:Int)(q62 q39:List UInt8)(qb2:List Int)(q15 q18:Int)(K0:(Int×List q03×Int×Int×List UInt8×Int)→Option OX3)(K1:(Int×List q03×List Bool)→Option OX3)(e:Int×List q03×List Bool):Option OX3 :=
 match e with
 | (t30,k_l,q09) =>
  bif decide (t30 < t29) then
   bif inR t30 t28.length then
   bif decide ((q25 t28 t30 0) < 0) then
    bif w33 (k_l.length + ([((0,0,[],()),0,())]:List q03).length) 3518437208883 then
    bif w33 (q09.length + [false].length) 140737488355328 then
    bif q27 (t30 + 1) then
    K1 (t30 + 1,(k_l ++ ([((0,0,[],()),0,())]:List q03)),(q09 ++ [false]))
    else none
    else none
    else none
   else
    bif decide ((q25 t28 t30 0) ≥ t22) then
     bif w33 (k_l.length + ([((0,0,[],()),0,())]:List q03).length) 3518437208883 then
     bif w33 (q09.length + [false].length) 140737488355328 then
     bif q27 (t30 + 1) then
     K1 (t30 + 1,(k_l ++ ([((0,0,[],()),0,())]:List q03)),(q09 ++ [false]))
     else none
     else none
     else none
    else
     bif inR (q25 t28 t30 0) ((t.length:Int).toNat) then
     bif inR (q25 t28 t30 0) (all).length then
     bif w33 (k_l.length + ([(((q25 all (q25 t28 t30 0) wt6).1),(q25 all (q25 t28 t30 0) wt6).2.1,())]:List q03).length) 3518437208883 then
     bif inR (q25 t28 t30 0) t.length then
     bif (((q25 t (q25 t28 t30 0) qb7).1) == 1) then
      bif inR (q25 t28 t30 0) t.length then
      bif w33 (q09.length + [((((q25 t (q25 t28 t30 0) qb7).2.1).1) == 0)].length) 140737488355328 then
      bif q27 (t30 + 1) then
      K1 (t30 + 1,(k_l ++ ([(((q25 all (q25 t28 t30 0) wt6).1),(q25 all (q25 t28 t30 0) wt6).2.1,())]:List q03)),(q09 ++ [((((q25 t (q25 t28 t30 0) qb7).2.1).1) == 0)]))
      else none
      else none
      else none
     else
      bif w33 (q09.length + [false].length) 140737488355328 then
      bif q27 (t30 + 1) then
      K1 (t30 + 1,(k_l ++ ([(((q25 all (q25 t28 t30 0) wt6).1),(q25 all (q25 t28 t30 0) wt6).2.1,())]:List q03)),(q09 ++ [false]))
      else none
      else none
     else none
     else none
     else none
     else none
   else none
  else
   (wz0 N (jh1,(q26,q61,q62,()),q39,qb2,(q15,q18,()),()) (q36,q71,q70,()) vars).bind fun r =>
   bif (!r.2.1) then
    (we1 N jh1 (k_l,q09,())).bind fun r1 =>
    bif (!r1.2.1) then
     (qu9 N jh1 (k_l,q09,())).bind fun r2 =>
     bif inR t22 ((t.length:Int).toNat) then
     bif inR t22 all.length then
     bif q27 (t22 + 1) then
     K0 (t22 + 1,(setD all t22 r2),r2.1.1,r2.1.2.1,r2.1.2.2.1,r2.2.1)
     else none
     else none
     else none
    else
     bif inR t22 ((t.length:Int).toNat) then
     bif inR t22 all.length then
     bif q27 (t22 + 1) then
     K0 (t22 + 1,(setD all t22 r1.1),r1.1.1.1,r1.1.1.2.1,r1.1.1.2.2.1,r1.1.2.1)
     else none
     else none
     else none
   else
    bif (!r.2.1) then
     (qu9 N jh1 (k_l,q09,())).bind fun r3 =>
     bif inR t22 ((t.length:Int).toNat) then
     bif inR t22 all.length then
     bif q27 (t22 + 1) then
     K0 (t22 + 1,(setD all t22 r3),r3.1.1,r3.1.2.1,r3.1.2.2.1,r3.2.1)
     else none
     else none
     else none
    else
     bif inR t22 ((t.length:Int).toNat) then
     bif inR t22 all.length then
     bif q27 (t22 + 1) then
     K0 (t22 + 1,(setD all t22 r.1),r.1.1.1,r.1.1.2.1,r.1.1.2.2.1,r.1.2.1)
     else none
     else none
     else none
theorem uj9 (N:Nat)(t:List q20)(vars:List q40)(t22 t21:Int)(t28:List Int)(t29 q36 q71:Int)(q70:List UInt8)(qa3 jg5:Int)(j83:List UInt8)(all:List q03)(q90 qh1:Int)(qh3:List UInt8)(wa8 jh1 q26 q61:Int)(q62 q39:List UInt8)(qb2:List Int)(q15 q18:Int)(K0r:List TV→List TOb→Option OX3)(n_:Nat)(e:Int×List q03×List Bool):q58 (x53 N K0r) n_ ((jd9 t vars t22 t21 t28 t29 q36 q71 q70 qa3 jg5 j83 all q90 qh1 qh3 wa8 jh1 q26 q61 q62 q39 qb2 q15 q18) e) ((jf4 t vars t22 t21 t28 t29 q36 q71 q70 qa3 jg5 j83 all q90 qh1 qh3 wa8 jh1 q26 q61 q62 q39 qb2 q15 q18) e)=q87 (jb2 N t vars t22 t21 t28 t29 q36 q71 q70 qa3 jg5 j83 all q90 qh1 qh3 wa8 jh1 q26 q61 q62 q39 qb2 q15 q18 (fun a=>K0r (w34 t vars t21 q36 q71 q70 qa3 jg5 j83 a) (w35 t vars t21 q36 q71 q70 qa3 jg5 j83 a))) n_ e :=
 q41 (jd9 t vars t22 t21 t28 t29 q36 q71 q70 qa3 jg5 j83 all q90 qh1 qh3 wa8 jh1 q26 q61 q62 q39 qb2 q15 q18) (jf4 t vars t22 t21 t28 t29 q36 q71 q70 qa3 jg5 j83 all q90 qh1 qh3 wa8 jh1 q26 q61 q62 q39 qb2 q15 q18) (by intro K e; obtain ⟨t30,k_l,q09⟩:=e; kernel_rfl) n_ e
noncomputable def j94 (N:Nat):(List TV→List TOb→Option OX3)→List TV→List TOb→Option OX3:=w66 DR w58 (qu6 N) (qm3 (qc6 (q08 (q88 (q08 (q08 (q08 (q13 Tryz.f15)))))))) jb0 (qu2.loops.drop 1) (qj9 0 (qc5 DR w58 (qu6 N) (q08 (q08 (q08 (q08 (q13 Tryz.f15))))) (qu2.loops.drop 2) (yj1 N)))
def zx2 (N:Nat)(t:List q20)(vars:List q40)(t21 q36 q71:Int)(q70:List UInt8)(qa3 jg5:Int)(j83:List UInt8)(l2:(List q20)→(List q40)→Int→Int→(List Int)→Int→Int→Int→(List UInt8)→Int→Int→(List UInt8)→(List q03)→Int→Int→(List UInt8)→Int→Int→Int→Int→(List UInt8)→(List UInt8)→(List Int)→Int→Int→(Int×List q03×List Bool)→Option OX3)(K0:(Int×List q03×Int×Int×List UInt8×Int)→Option OX3)(e:Int×List q03×Int×Int×List UInt8×Int):Option OX3 :=
 match e with
 | (t22,all,q90,qh1,qh3,wa8) =>
  bif decide (t22 < t21) then
   bif inR t22 t.length then
   l2 t vars t22 t21 ((q25 t t22 qb7).2.2.2.1) (((q25 t t22 qb7).2.2.2.1).length:Int) q36 q71 q70 qa3 jg5 j83 all q90 qh1 qh3 wa8 ((q25 t t22 qb7).1) (((q25 t t22 qb7).2.1).1) (((q25 t t22 qb7).2.1).2.1) (((q25 t t22 qb7).2.1).2.2.1) ((q25 t t22 qb7).2.2.1) ((q25 t t22 qb7).2.2.2.1) (((q25 t t22 qb7).2.2.2.2.1).1) (((q25 t t22 qb7).2.2.2.2.1).2.1) (0,[],[])
   else none
  else
   some ((q90,qh1,qh3,()),wa8,())
def zf7 (N:Nat)(t:List q20)(vars:List q40)(t21 q36 q71:Int)(q70:List UInt8)(qa3 jg5:Int)(j83:List UInt8)(K0:(Int×List q03×Int×Int×List UInt8×Int)→Option OX3)(e:Int×List q03×Int×Int×List UInt8×Int):Option OX3:=zx2 N t vars t21 q36 q71 q70 qa3 jg5 j83 (fun t vars t22 t21 t28 t29 q36 q71 q70 qa3 jg5 j83 all q90 qh1 qh3 wa8 jh1 q26 q61 q62 q39 qb2 q15 q18 e=>q87 (jb2 N t vars t22 t21 t28 t29 q36 q71 q70 qa3 jg5 j83 all q90 qh1 qh3 wa8 jh1 q26 q61 q62 q39 qb2 q15 q18 K0) N e) K0 e
theorem ug0 (N:Nat)(t:List q20)(vars:List q40)(t21 q36 q71:Int)(q70:List UInt8)(qa3 jg5:Int)(j83:List UInt8)(n_:Nat)(e:Int×List q03×Int×Int×List UInt8×Int):q58 (j94 N ) n_ ((w34 t vars t21 q36 q71 q70 qa3 jg5 j83) e) ((w35 t vars t21 q36 q71 q70 qa3 jg5 j83) e)=q87 (zf7 N t vars t21 q36 q71 q70 qa3 jg5 j83 ) n_ e :=
 q41 (w34 t vars t21 q36 q71 q70 qa3 jg5 j83) (w35 t vars t21 q36 q71 q70 qa3 jg5 j83) (by
  intro K e
  have h:(j94 N ) K ((w34 t vars t21 q36 q71 q70 qa3 jg5 j83) e) ((w35 t vars t21 q36 q71 q70 qa3 jg5 j83) e)=zx2 N t vars t21 q36 q71 q70 qa3 jg5 j83 (fun t vars t22 t21 t28 t29 q36 q71 q70 qa3 jg5 j83 all q90 qh1 qh3 wa8 jh1 q26 q61 q62 q39 qb2 q15 q18 e=>q58 (x53 N K) N (jd9 t vars t22 t21 t28 t29 q36 q71 q70 qa3 jg5 j83 all q90 qh1 qh3 wa8 jh1 q26 q61 q62 q39 qb2 q15 q18 e) (jf4 t vars t22 t21 t28 t29 q36 q71 q70 qa3 jg5 j83 all q90 qh1 qh3 wa8 jh1 q26 q61 q62 q39 qb2 q15 q18 e)) (fun e=>K ((w34 t vars t21 q36 q71 q70 qa3 jg5 j83) e) ((w35 t vars t21 q36 q71 q70 qa3 jg5 j83) e)) e:=by obtain ⟨t22,all,q90,qh1,qh3,wa8⟩:=e; kernel_rfl
  rw [h]
  simp only [zf7,uj9] <;> rfl) n_ e
def y10 (N:Nat)(t:List q20)(self:q00)(vars:List q40)(l1:(List q20)→(List q40)→Int→Int→Int→(List UInt8)→Int→Int→(List UInt8)→(Int×List q03×Int×Int×List UInt8×Int)→Option OX3):Option OX3 :=
 bif js4 40 (t.length:Int) (t.length:Int) then
 l1 t vars (t.length:Int) self.1 self.2.1 self.2.2.1 0 0 [] (0,(List.replicate (t.length:Int).toNat wt6),0,0,[],0)
 else none
def qs7 (N:Nat)(t:List q20)(self:q00)(vars:List q40):Option OX3:=y10 N t self vars (fun t vars t21 q36 q71 q70 qa3 jg5 j83 e=>q87 (zf7 N t vars t21 q36 q71 q70 qa3 jg5 j83) N e)
noncomputable def xo8 (N:Nat)(t:List q20)(self:q00)(vars:List q40):Option (RT [q05,(.int .i64)]):=q24 DR Tryz.prog N (jt4 N) qu2 Tryz.f15 (q13 Tryz.f15) (RT [q05,(.int .i64)]) (qd4 [(.list q81),q05,(.list qa6)] (t,self,vars,())) [] (q42 [q05,(.int .i64)])
theorem vv6 (N:Nat)(t:List q20)(self:q00)(vars:List q40):xo8 N t self vars=qs7 N t self vars:=by
 have h:xo8 N t self vars=y10 N t self vars (fun t vars t21 q36 q71 q70 qa3 jg5 j83 e=>q58 (j94 N ) N (w34 t vars t21 q36 q71 q70 qa3 jg5 j83 e) (w35 t vars t21 q36 q71 q70 qa3 jg5 j83 e)):=by kernel_rfl
 rw [h]
 simp only [qs7,ug0] <;> rfl
def vh6 (m:(List q20)→q00→(List q40)→Option OX3):Ent:=q37 [(.list q81),q05,(.list qa6)] [q05,(.int .i64)] fun (x:Els [(.list q81),q05,(.list qa6)])=>m x.1 x.2.1 x.2.2.1
def zv7 (N:Nat):Ent:=vh6 (qs7 N)
theorem ji8 (N:Nat):q17 Tryz.prog 15 (zv7 N):=q16 (ud8 N) Tryz.func15 rfl (by kernel_rfl) fun (x:Els [(.list q81),q05,(.list qa6)])=>vv6 N x.1 x.2.1 x.2.2.1
def w10_of_H :FH:=⟨[],[],[],[],false,[],[]⟩
noncomputable def kp9 (N:Nat):q49:=tab [(11,jf6 N),(15,zv7 N)]
theorem w10_of_Ts (N:Nat):q14 Tryz.prog (kp9 N):=q06 (jc2 N) <| q06 (ji8 N) <| q28 _
def xp0 (N:Nat)(s:List UInt8):Option OX3 :=
 (wf0 N s).bind fun r =>
 (qs7 N r.1 (0,0,[],()) ([([97],(0,0,[],()),())]:List q40)).bind fun r1 =>
 some r1
noncomputable def w10_of_C (N:Nat)(s:List UInt8):Option (RT [q05,(.int .i64)]):=q24 DR Tryz.prog N (kp9 N) w10_of_H Tryz.f32 (q13 Tryz.f32) (RT [q05,(.int .i64)]) (qd4 [.str] (s,())) [] (q42 [q05,(.int .i64)])
theorem ks6 (N:Nat)(s:List UInt8):w10_of_C N s=xp0 N s:=by kernel_rfl
def k92 (m:(List UInt8)→Option OX3):Ent:=q37 [.str] [q05,(.int .i64)] fun (x:Els [.str])=>m x.1
def vz9 (N:Nat):Ent:=k92 (xp0 N)
theorem k08 (N:Nat):q17 Tryz.prog 32 (vz9 N):=q16 (w10_of_Ts N) Tryz.func32 rfl (by kernel_rfl) fun (x:Els [.str])=>ks6 N x.1
def k57 :FH:=⟨[],[],[],[],false,[],[]⟩
noncomputable def ve8 (N:Nat):q49:=tab [(32,vz9 N)]
theorem uw8 (N:Nat):q14 Tryz.prog (ve8 N):=q06 (k08 N) <| q28 _
def qx6 (N:Nat):Option Bool :=
 (xp0 N [49,32,47,32,48,32,61,32,49,32,111,114,32,116,114,117,101]).bind fun r =>
 (xp0 N [116,114,117,101,32,111,114,32,49,32,47,32,48,32,61,32,49]).bind fun r1 =>
 (xp0 N [110,117,108,108,32,97,110,100,32,102,97,108,115,101]).bind fun r2 =>
 (xp0 N [49,32,43,32,110,117,108,108]).bind fun r3 =>
 (xp0 N [63,97,32,61,32,110,117,108,108]).bind fun r4 =>
 (xp0 N [105,102,40,110,117,108,108,44,32,49,44,32,50,41]).bind fun r5 =>
 bif (r.2.1 == 10) then
  bif (r1.2.1 == 0) then
   bif (r2.2.1 == 0) then
    bif (r3.2.1 == 0) then
     bif (r4.2.1 == 0) then
      bif (r5.2.1 == 0) then
       bif (r1.1.2.1 == 1) then
        bif ((r2.1.1 == (4:Int)) && ((r2.1.2.1 == (0:Int)) && ((r2.1.2.2.1 == ([]:List UInt8)) && true))) then
         bif ((r3.1.1 == (0:Int)) && ((r3.1.2.1 == (0:Int)) && ((r3.1.2.2.1 == ([]:List UInt8)) && true))) then
          bif (r4.1.2.1 == 1) then
           some ((r5.1.1 == (0:Int)) && ((r5.1.2.1 == (0:Int)) && ((r5.1.2.2.1 == ([]:List UInt8)) && true)))
          else
           some false
         else
          some false
        else
         some false
       else
        some false
      else
       some false
     else
      some false
    else
     some false
   else
    some false
  else
   some false
 else
  some false
noncomputable def k98 (N:Nat):Option (RT [.bool]):=q24 DR Tryz.prog N (ve8 N) k57 Tryz.f12 (q13 Tryz.f12) (RT [.bool]) (qd4 [] (())) [] (q42 [.bool])
theorem um4 (N:Nat):k98 N=qx6 N:=by kernel_rfl
def vw8 (m:Option Bool):Ent:=q37 [] [.bool] fun (x:Els [])=>m 
def x16 (N:Nat):Ent:=vw8 (qx6 N)
theorem vb2 (N:Nat):q17 Tryz.prog 12 (x16 N):=q16 (uw8 N) Tryz.func12 rfl (by kernel_rfl) fun (x:Els [])=>um4 N 
def t_Arr2 :Ty:=.st [.str,.str]
abbrev x72 :Type:=(List UInt8)×(List UInt8)×Unit
def d_Arr2 :x72:=([],[],())
def t_Arr3 :Ty:=.st [t_Arr2,t_Arr2,t_Arr2]
abbrev vz0 :Type:=x72×x72×x72×Unit
noncomputable def zo8 (N:Nat):q49:=tab [(11,jf6 N),(15,zv7 N)]
theorem yf7 (N:Nat):q14 Tryz.prog (zo8 N):=q06 (jc2 N) <| q06 (ji8 N) <| q28 _
noncomputable def z17 (N:Nat):Ent:=z63 Tryz.prog N (zo8 N) ⟨[],[],[],[],false,[],[]⟩ Tryz.f16 (q13 Tryz.f16)
theorem jb6 (N:Nat):q17 Tryz.prog 16 (z17 N):=qb4 (yf7 N) Tryz.func16 rfl (by kernel_rfl)
def jj0 :LH:=⟨[(0,.str),(1,.str),(6,.asis),(7,.asis),(48,.int .i64),(49,.int .i64)],[],[.cells [.int .u8,.int .i64,.str],.cells [.lst qa6]]⟩
def jk6 :LH:=⟨[(10,.asis),(123,.agg t_Arr3),(124,.int .i64)],[],[.cells [.int .u8,.int .i64,.str],.cells [.lst qa6],.cells [.int .i64,.int .i64],.cells [.int .i64,.int .i64]]⟩
def qr5 :FH:=⟨[jj0,jk6],[],[],[],false,[16],[]⟩
noncomputable def zn3 (N:Nat):q49:=tab [(12,x16 N),(11,jf6 N),(16,z17 N)]
theorem xv6 (N:Nat):q14 Tryz.prog (zn3 N):=q06 (vb2 N) <| q06 (jc2 N) <| q06 (jb6 N) <| q28 _
noncomputable def wc8 :Sc:=wm4 Tryz.prog qr5
noncomputable def wc3 (N:Nat):Cfg:=⟨N,zn3 N,0⟩
noncomputable def j02 (N:Nat):Exit→List TV→List TOb→Option Bool:=fin Tryz.prog 0 Tryz.f4.results.toList (q42 [.bool])
def qx2 (s t:List UInt8)(t48 q36 q71:Int)(q70:List UInt8)(vars:List q40)(e:Int):List TV:=match e with
 | t49=>frm 159 [(0,.str s),(1,.str t),(6,.ref 0 0),(7,.ref 1 0),(48,.int .i64 t48),(49,.int .i64 t49)]
def qx8 (s t:List UInt8)(t48 q36 q71:Int)(q70:List UInt8)(vars:List q40)(e:Int):List TOb:=match e with
 | t49=>[.cells [.int .u8 q36,.int .i64 q71,.str q70] 26 true,.cells [.tl qa6 vars .unk] 39 true]
def z50 (t123:vz0)(q36 q71:Int)(q70:List UInt8)(vars:List q40)(wl3 zr5 wj5 zt0 e:Int):List TV:=match e with
 | t124=>frm 159 [(10,.func (.func 16) [.ref 0 0,.ref 1 0]),(123,.agg [.str t123.1.1,.str t123.1.2.1,.str t123.2.1.1,.str t123.2.1.2.1,.str t123.2.2.1.1,.str t123.2.2.1.2.1]),(124,.int .i64 t124)]
def z51 (t123:vz0)(q36 q71:Int)(q70:List UInt8)(vars:List q40)(wl3 zr5 wj5 zt0 e:Int):List TOb:=match e with
 | t124=>[.cells [.int .u8 q36,.int .i64 q71,.str q70] 26 true,.cells [.tl qa6 vars .unk] 39 true,.cells [.int .i64 wl3,.int .i64 zr5] 31 true,.cells [.int .i64 wj5,.int .i64 zt0] 31 true]
noncomputable def jj1 (N:Nat):(List TV→List TOb→Option Bool)→List TV→List TOb→Option Bool:=w66 DR wc8 (wc3 N) (qm3 (qc6 (q08 (q88 (q08 (q08 (q08 (q08 (q08 (q08 (q08 (q08 (q13 Tryz.f4))))))))))))) jk6 (qr5.loops.drop 2) (qj9 2 (qc5 DR wc8 (wc3 N) (q08 (q08 (q08 (q08 (q08 (q08 (q08 (q08 (q08 (q13 Tryz.f4)))))))))) (qr5.loops.drop 2) (j02 N)))
def wd0 (N:Nat)(t123:vz0)(q36 q71:Int)(q70:List UInt8)(vars:List q40)(wl3 zr5 wj5 zt0:Int)(K1:Int→Option Bool)(e:Int):Option Bool :=
 match e with
 | t124 =>
  bif decide (t124 < 3) then
   bif inR t124 3 then
   (wf0 N ((q25 ([t123.1,t123.2.1,t123.2.2.1]:List x72) t124 d_Arr2).1)).bind fun r9 =>
   (qs7 N r9.1 (q36,q71,q70,()) vars).bind fun r10 =>
   (wf0 N ((q25 ([t123.1,t123.2.1,t123.2.2.1]:List x72) t124 d_Arr2).2.1)).bind fun r11 =>
   (qs7 N r11.1 (q36,q71,q70,()) vars).bind fun r12 =>
   bif (r9.2.2.1 == 0) then
    bif (r11.2.2.1 == 0) then
     bif (!((r10.1.1 == r12.1.1) && ((r10.1.2.1 == r12.1.2.1) && ((r10.1.2.2.1 == r12.1.2.2.1) && true)))) then
      some false
     else
      bif (r10.2.1 != r12.2.1) then
       some false
      else
       bif q27 (t124 + 1) then
       K1 (t124 + 1)
       else none
    else
     bif q27 (t124 + 1) then
     K1 (t124 + 1)
     else none
   else
    bif q27 (t124 + 1) then
    K1 (t124 + 1)
    else none
   else none
  else
   (qx6 N).bind fun r13 =>
   some r13
theorem v03 (N:Nat)(t123:vz0)(q36 q71:Int)(q70:List UInt8)(vars:List q40)(wl3 zr5 wj5 zt0:Int)(n_:Nat)(e:Int):q58 (jj1 N ) n_ ((z50 t123 q36 q71 q70 vars wl3 zr5 wj5 zt0) e) ((z51 t123 q36 q71 q70 vars wl3 zr5 wj5 zt0) e)=q87 (wd0 N t123 q36 q71 q70 vars wl3 zr5 wj5 zt0 ) n_ e :=
 q41 (z50 t123 q36 q71 q70 vars wl3 zr5 wj5 zt0) (z51 t123 q36 q71 q70 vars wl3 zr5 wj5 zt0) (by intro K e; kernel_rfl) n_ e
noncomputable def z45 (N:Nat):(List TV→List TOb→Option Bool)→List TV→List TOb→Option Bool:=w66 DR wc8 (wc3 N) (qm3 (qc6 (q08 (q88 (q08 (q08 (q13 Tryz.f4))))))) jj0 (qr5.loops.drop 1) (qj9 0 (qc5 DR wc8 (wc3 N) (q08 (q08 (q08 (q13 Tryz.f4)))) (qr5.loops.drop 1) (j02 N)))
def ws9 (N:Nat)(s t:List UInt8)(t48 q36 q71:Int)(q70:List UInt8)(vars:List q40)(l2:vz0→Int→Int→(List UInt8)→(List q40)→Int→Int→Int→Int→Int→Option Bool)(K0:Int→Option Bool)(e:Int):Option Bool :=
 match e with
 | t49 =>
  bif decide (t49 < t48) then
   bif inR t49 vars.length then
   bif decide (((((q25 vars t49 vl5).2.1).2.2.1).length:Int) > 300) then
    (qx6 N).bind fun r4 =>
    some r4
   else
    bif q27 (t49 + 1) then
    K0 (t49 + 1)
    else none
   else none
  else
   (wf0 N s).bind fun r5 =>
   (wf0 N t).bind fun r6 =>
   bif (r5.2.2.1 != 0) then
    (qx6 N).bind fun r7 =>
    some r7
   else
    bif (r6.2.2.1 != 0) then
     (qx6 N).bind fun r8 =>
     some r8
    else
     bif qf6 ([40]:List UInt8) s then
     bif qf6 (([40]:List UInt8) ++ s) ([10,41]:List UInt8) then
     bif qf6 ([40]:List UInt8) t then
     bif qf6 (([40]:List UInt8) ++ t) ([10,41]:List UInt8) then
     bif qf6 ([110,111,116,32,40]:List UInt8) ((([40]:List UInt8) ++ s) ++ ([10,41]:List UInt8)) then
     bif qf6 (([110,111,116,32,40]:List UInt8) ++ ((([40]:List UInt8) ++ s) ++ ([10,41]:List UInt8))) ([32,97,110,100,32]:List UInt8) then
     bif qf6 ((([110,111,116,32,40]:List UInt8) ++ ((([40]:List UInt8) ++ s) ++ ([10,41]:List UInt8))) ++ ([32,97,110,100,32]:List UInt8)) ((([40]:List UInt8) ++ t) ++ ([10,41]:List UInt8)) then
     bif qf6 (((([110,111,116,32,40]:List UInt8) ++ ((([40]:List UInt8) ++ s) ++ ([10,41]:List UInt8))) ++ ([32,97,110,100,32]:List UInt8)) ++ ((([40]:List UInt8) ++ t) ++ ([10,41]:List UInt8))) ([41]:List UInt8) then
     bif qf6 ([40,110,111,116,32]:List UInt8) ((([40]:List UInt8) ++ s) ++ ([10,41]:List UInt8)) then
     bif qf6 (([40,110,111,116,32]:List UInt8) ++ ((([40]:List UInt8) ++ s) ++ ([10,41]:List UInt8))) ([32,111,114,32,110,111,116,32]:List UInt8) then
     bif qf6 ((([40,110,111,116,32]:List UInt8) ++ ((([40]:List UInt8) ++ s) ++ ([10,41]:List UInt8))) ++ ([32,111,114,32,110,111,116,32]:List UInt8)) ((([40]:List UInt8) ++ t) ++ ([10,41]:List UInt8)) then
     bif qf6 (((([40,110,111,116,32]:List UInt8) ++ ((([40]:List UInt8) ++ s) ++ ([10,41]:List UInt8))) ++ ([32,111,114,32,110,111,116,32]:List UInt8)) ++ ((([40]:List UInt8) ++ t) ++ ([10,41]:List UInt8))) ([41]:List UInt8) then
     bif qf6 ((([40]:List UInt8) ++ s) ++ ([10,41]:List UInt8)) ([32,61,32]:List UInt8) then
     bif qf6 (((([40]:List UInt8) ++ s) ++ ([10,41]:List UInt8)) ++ ([32,61,32]:List UInt8)) ((([40]:List UInt8) ++ t) ++ ([10,41]:List UInt8)) then
     bif qf6 ([110,111,116,32,40]:List UInt8) ((([40]:List UInt8) ++ s) ++ ([10,41]:List UInt8)) then
     bif qf6 (([110,111,116,32,40]:List UInt8) ++ ((([40]:List UInt8) ++ s) ++ ([10,41]:List UInt8))) ([32,60,62,32]:List UInt8) then
     bif qf6 ((([110,111,116,32,40]:List UInt8) ++ ((([40]:List UInt8) ++ s) ++ ([10,41]:List UInt8))) ++ ([32,60,62,32]:List UInt8)) ((([40]:List UInt8) ++ t) ++ ([10,41]:List UInt8)) then
     bif qf6 (((([110,111,116,32,40]:List UInt8) ++ ((([40]:List UInt8) ++ s) ++ ([10,41]:List UInt8))) ++ ([32,60,62,32]:List UInt8)) ++ ((([40]:List UInt8) ++ t) ++ ([10,41]:List UInt8))) ([41]:List UInt8) then
     bif qf6 ((([40]:List UInt8) ++ s) ++ ([10,41]:List UInt8)) ([32,60,32]:List UInt8) then
     bif qf6 (((([40]:List UInt8) ++ s) ++ ([10,41]:List UInt8)) ++ ([32,60,32]:List UInt8)) ((([40]:List UInt8) ++ t) ++ ([10,41]:List UInt8)) then
     bif qf6 ([110,111,116,32,40]:List UInt8) ((([40]:List UInt8) ++ s) ++ ([10,41]:List UInt8)) then
     bif qf6 (([110,111,116,32,40]:List UInt8) ++ ((([40]:List UInt8) ++ s) ++ ([10,41]:List UInt8))) ([32,62,61,32]:List UInt8) then
     bif qf6 ((([110,111,116,32,40]:List UInt8) ++ ((([40]:List UInt8) ++ s) ++ ([10,41]:List UInt8))) ++ ([32,62,61,32]:List UInt8)) ((([40]:List UInt8) ++ t) ++ ([10,41]:List UInt8)) then
     bif qf6 (((([110,111,116,32,40]:List UInt8) ++ ((([40]:List UInt8) ++ s) ++ ([10,41]:List UInt8))) ++ ([32,62,61,32]:List UInt8)) ++ ((([40]:List UInt8) ++ t) ++ ([10,41]:List UInt8))) ([41]:List UInt8) then
     l2 ((((((([110,111,116,32,40]:List UInt8) ++ ((([40]:List UInt8) ++ s) ++ ([10,41]:List UInt8))) ++ ([32,97,110,100,32]:List UInt8)) ++ ((([40]:List UInt8) ++ t) ++ ([10,41]:List UInt8))) ++ ([41]:List UInt8)),((((([40,110,111,116,32]:List UInt8) ++ ((([40]:List UInt8) ++ s) ++ ([10,41]:List UInt8))) ++ ([32,111,114,32,110,111,116,32]:List UInt8)) ++ ((([40]:List UInt8) ++ t) ++ ([10,41]:List UInt8))) ++ ([41]:List UInt8)),()),(((((([40]:List UInt8) ++ s) ++ ([10,41]:List UInt8)) ++ ([32,61,32]:List UInt8)) ++ ((([40]:List UInt8) ++ t) ++ ([10,41]:List UInt8))),((((([110,111,116,32,40]:List UInt8) ++ ((([40]:List UInt8) ++ s) ++ ([10,41]:List UInt8))) ++ ([32,60,62,32]:List UInt8)) ++ ((([40]:List UInt8) ++ t) ++ ([10,41]:List UInt8))) ++ ([41]:List UInt8)),()),(((((([40]:List UInt8) ++ s) ++ ([10,41]:List UInt8)) ++ ([32,60,32]:List UInt8)) ++ ((([40]:List UInt8) ++ t) ++ ([10,41]:List UInt8))),((((([110,111,116,32,40]:List UInt8) ++ ((([40]:List UInt8) ++ s) ++ ([10,41]:List UInt8))) ++ ([32,62,61,32]:List UInt8)) ++ ((([40]:List UInt8) ++ t) ++ ([10,41]:List UInt8))) ++ ([41]:List UInt8)),()),()) q36 q71 q70 vars r5.2.1.1 r5.2.1.2.1 r6.2.1.1 r6.2.1.2.1 0
     else none
     else none
     else none
     else none
     else none
     else none
     else none
     else none
     else none
     else none
     else none
     else none
     else none
     else none
     else none
     else none
     else none
     else none
     else none
     else none
     else none
     else none
     else none
     else none
def wc6 (N:Nat)(s t:List UInt8)(t48 q36 q71:Int)(q70:List UInt8)(vars:List q40)(K0:Int→Option Bool)(e:Int):Option Bool:=ws9 N s t t48 q36 q71 q70 vars (fun t123 q36 q71 q70 vars wl3 zr5 wj5 zt0 e=>q87 (wd0 N t123 q36 q71 q70 vars wl3 zr5 wj5 zt0) N e) K0 e
theorem xy7 (N:Nat)(s t:List UInt8)(t48 q36 q71:Int)(q70:List UInt8)(vars:List q40)(n_:Nat)(e:Int):q58 (z45 N ) n_ ((qx2 s t t48 q36 q71 q70 vars) e) ((qx8 s t t48 q36 q71 q70 vars) e)=q87 (wc6 N s t t48 q36 q71 q70 vars ) n_ e :=
 q41 (qx2 s t t48 q36 q71 q70 vars) (qx8 s t t48 q36 q71 q70 vars) (by
  intro K e
  have h:(z45 N ) K ((qx2 s t t48 q36 q71 q70 vars) e) ((qx8 s t t48 q36 q71 q70 vars) e)=ws9 N s t t48 q36 q71 q70 vars (fun t123 q36 q71 q70 vars wl3 zr5 wj5 zt0 e=>q58 (jj1 N ) N (z50 t123 q36 q71 q70 vars wl3 zr5 wj5 zt0 e) (z51 t123 q36 q71 q70 vars wl3 zr5 wj5 zt0 e)) (fun e=>K ((qx2 s t t48 q36 q71 q70 vars) e) ((qx8 s t t48 q36 q71 q70 vars) e)) e:=by kernel_rfl
  rw [h]
  simp only [wc6,v03] <;> rfl) n_ e
def zn7 (N:Nat)(s t:List UInt8)(self:q00)(vars:List q40)(l1:(List UInt8)→(List UInt8)→Int→Int→Int→(List UInt8)→(List q40)→Int→Option Bool):Option Bool :=
 bif decide ((s.length:Int) > 200) then
  (qx6 N).bind fun r =>
  some r
 else
  bif decide ((t.length:Int) > 200) then
   (qx6 N).bind fun r1 =>
   some r1
  else
   bif decide ((vars.length:Int) > 40) then
    (qx6 N).bind fun r2 =>
    some r2
   else
    bif decide ((self.2.2.1.length:Int) > 300) then
     (qx6 N).bind fun r3 =>
     some r3
    else
     l1 s t (vars.length:Int) self.1 self.2.1 self.2.2.1 vars 0
def qu5 (N:Nat)(s t:List UInt8)(self:q00)(vars:List q40):Option Bool:=zn7 N s t self vars (fun s t t48 q36 q71 q70 vars e=>q87 (wc6 N s t t48 q36 q71 q70 vars) N e)
noncomputable def y48 (N:Nat)(s t:List UInt8)(self:q00)(vars:List q40):Option (RT [.bool]):=q24 DR Tryz.prog N (zn3 N) qr5 Tryz.f4 (q13 Tryz.f4) (RT [.bool]) (qd4 [.str,.str,q05,(.list qa6)] (s,t,self,vars,())) [] (q42 [.bool])
theorem xl6 (N:Nat)(s t:List UInt8)(self:q00)(vars:List q40):y48 N s t self vars=qu5 N s t self vars:=by
 have h:y48 N s t self vars=zn7 N s t self vars (fun s t t48 q36 q71 q70 vars e=>q58 (z45 N ) N (qx2 s t t48 q36 q71 q70 vars e) (qx8 s t t48 q36 q71 q70 vars e)):=by kernel_rfl
 rw [h]
 simp only [qu5,xy7] <;> rfl
def x42 (m:(List UInt8)→(List UInt8)→q00→(List q40)→Option Bool):Ent:=q37 [.str,.str,q05,(.list qa6)] [.bool] fun (x:Els [.str,.str,q05,(.list qa6)])=>m x.1 x.2.1 x.2.2.1 x.2.2.2.1
def xj7 (N:Nat):Ent:=x42 (qu5 N)
theorem yr3 (N:Nat):q17 Tryz.prog 4 (xj7 N):=q16 (xv6 N) Tryz.func4 rfl (by kernel_rfl) fun (x:Els [.str,.str,q05,(.list qa6)])=>xl6 N x.1 x.2.1 x.2.2.1 x.2.2.2.1
end Go.Proofs.YtgicljncknbgcaaGreat.Abs
