/- The functions of the program, told on typed values, printed by a program: each tells what the reckoning of its body tells. -/
import Derived.Test.YtgicljncknbgcaaGreatL7
import Derived.Test.YtgicljncknbgcaaGreatG6
import Derived.Test.YtgicljncknbgcaaGreatLA
import Derived.Test.YtgicljncknbgcaaGreatProg
set_option linter.unusedVariables false
set_option linter.unusedSimpArgs false
set_option linter.unusedSectionVars false
namespace Go.Proofs.YtgicljncknbgcaaGreat.Abs
set_option maxRecDepth 100000
open Go Go.Proofs
def z09 :LH:=⟨[(2,.asis),(3,.asis),(6,.asis),(7,.own q05 507 26 3),(10,.int .i64),(11,.int .i64)],[],[.cells [.lst q07,.lst .bool],.cells [.int .u8,.int .i64,.str,.int .i64]]⟩
def qq2 :FH:=⟨[z09],[],[],[],false,[],[]⟩
noncomputable def w92 (N:Nat):q48:=tab [(153,q52 N),(107,xl9 N)]
theorem y35 (N:Nat):q13 Tryz.prog (w92 N):=q06 (q49 N) <| q06 (vo2 N) <| q27 _
noncomputable def z14 :Sc:=wl6 Tryz.prog qq2
noncomputable def wv7 (N:Nat):Cfg:=⟨N,w92 N,0⟩
noncomputable def jk0 (N:Nat):Exit→List TV→List TOb→Option q03:=fin Tryz.prog 0 Tryz.f99.results.toList (q40 [q07])
def w17 (n:Int)(k_l:List q03)(q09:List Bool)(q04 q20:Int)(q19:List UInt8)(q62:Int)(e:List q00×Int):List TV:=match e with
 | (l,t11)=>frm 30 [(2,.func (.func 107) []),(3,.ref 0 0),(6,.ref 1 0),(7,.tl q05 l (.own 507 26 3)),(10,.int .i64 n),(11,.int .i64 t11)]
def qy7 (n:Int)(k_l:List q03)(q09:List Bool)(q04 q20:Int)(q19:List UInt8)(q62:Int)(e:List q00×Int):List TOb:=match e with
 | (l,t11)=>[.cells [.tl q07 k_l .unk,.tl .bool q09 .unk] 118 true,.cells [.int .u8 q04,.int .i64 q20,.str q19,.int .i64 q62] 115 true]
noncomputable def wv0 (N:Nat):(List TV→List TOb→Option q03)→List TV→List TOb→Option q03:=w54 DR z14 (wv7 N) (ql6 (qc4 (q08 (q87 (q08 (q08 (q10 Tryz.f99))))))) z09 (qq2.loops.drop 1) (qk0 0 (qc3 DR z14 (wv7 N) (q08 (q08 (q08 (q10 Tryz.f99)))) (qq2.loops.drop 1) (jk0 N)))
def w00 (N:Nat)(n:Int)(k_l:List q03)(q09:List Bool)(q04 q20:Int)(q19:List UInt8)(q62:Int)(K0:(List q00×Int)→Option q03)(e:List q00×Int):Option q03 :=
 match e with
 | (l,t11) =>
  bif decide (t11 < n) then
   (q58 N (k_l,q09,()) t11).bind fun r =>
   bif (r.2.1 != 0) then
    some r
   else
    bif w23 (l.length + ([r.1]:List q00).length) 4398046511104 then
    bif q26 (t11 + 1) then
    K0 ((l ++ ([r.1]:List q00)),t11 + 1)
    else none
    else none
  else
   (y60 N l).bind fun r1 =>
   some r1
theorem jq8 (N:Nat)(n:Int)(k_l:List q03)(q09:List Bool)(q04 q20:Int)(q19:List UInt8)(q62:Int)(n_:Nat)(e:List q00×Int):q57 (wv0 N ) n_ ((w17 n k_l q09 q04 q20 q19 q62) e) ((qy7 n k_l q09 q04 q20 q19 q62) e)=q86 (w00 N n k_l q09 q04 q20 q19 q62 ) n_ e :=
 q39 (w17 n k_l q09 q04 q20 q19 q62) (qy7 n k_l q09 q04 q20 q19 q62) (by intro K e; obtain ⟨l,t11⟩:=e; kernel_rfl) n_ e
def zd5 (N:Nat)(k:q34)(n:Int)(l1:Int→(List q03)→(List Bool)→Int→Int→(List UInt8)→Int→(List q00×Int)→Option q03):Option q03 :=
 l1 n k.1 k.2.1 0 0 [] 0 ([],0)
def qo4 (N:Nat)(k:q34)(n:Int):Option q03:=zd5 N k n (fun n k_l q09 q04 q20 q19 q62 e=>q86 (w00 N n k_l q09 q04 q20 q19 q62) N e)
abbrev ww9 :List PK:=[.val q65,.val (.int .i64),.fn 107 0]
noncomputable def zb8 (N:Nat)(k:q34)(n:Int):Option (RT [q07]):=q22 DR Tryz.prog N (w92 N) qq2 Tryz.f99 (q10 Tryz.f99) (RT [q07]) (qx9 ww9 (k,n,())) [] (q40 [q07])
theorem jn4 (N:Nat)(k:q34)(n:Int):zb8 N k n=qo4 N k n:=by
 have h:zb8 N k n=zd5 N k n (fun n k_l q09 q04 q20 q19 q62 e=>q57 (wv0 N ) N (w17 n k_l q09 q04 q20 q19 q62 e) (qy7 n k_l q09 q04 q20 q19 q62 e)):=by kernel_rfl
 rw [h]
 simp only [qo4,jq8] <;> rfl
def jb2 (m:q34→Int→Option q03):Ent:=qf1 ww9 [q07] fun (x:Els [q65,(.int .i64)])=>m x.1 x.2.1
def wm2 (N:Nat):Ent:=jb2 (qo4 N)
theorem zy4 (N:Nat):q16 Tryz.prog 99 (wm2 N):=q51 (y35 N) Tryz.func99 rfl (by kernel_rfl) (by kernel_rfl) fun (x:Els [q65,(.int .i64)])=>jn4 N x.1 x.2.1
def num_Mod_H :FH:=⟨[],[],[],[],false,[],[]⟩
noncomputable def uv5 (N:Nat):q48:=tab [(220,wy0 N),(221,w98 N)]
theorem kt0 (N:Nat):q13 Tryz.prog (uv5 N):=q06 (ws3 N) <| q06 (wb5 N) <| q27 _
def v97 (N:Nat)(a b:Int):Option (Int×Int×Unit) :=
 bif (b == 0) then
  some (0,10,())
 else
  (w41 N a).bind fun r =>
  (w41 N b).bind fun r1 =>
  bif decide (r1≠0) then
  (qj4 N (decide (a < 0)) 0 (Int.tmod r r1)).bind fun r2 =>
  some r2
  else none
noncomputable def num_Mod_C (N:Nat)(a b:Int):Option (RT [(.int .i64),(.int .i64)]):=q22 DR Tryz.prog N (uv5 N) num_Mod_H Tryz.f172 (q10 Tryz.f172) (RT [(.int .i64),(.int .i64)]) (qd2 [(.int .i64),(.int .i64)] (a,b,())) [] (q40 [(.int .i64),(.int .i64)])
theorem ka6 (N:Nat)(a b:Int):num_Mod_C N a b=v97 N a b:=by kernel_rfl
def uq3 (m:Int→Int→Option (Int×Int×Unit)):Ent:=q35 [(.int .i64),(.int .i64)] [(.int .i64),(.int .i64)] fun (x:Els [(.int .i64),(.int .i64)])=>m x.1 x.2.1
def vm0 (N:Nat):Ent:=uq3 (v97 N)
theorem ud5 (N:Nat):q16 Tryz.prog 172 (vm0 N):=q15 (kt0 N) Tryz.func172 rfl (by kernel_rfl) fun (x:Els [(.int .i64),(.int .i64)])=>ka6 N x.1 x.2.1
def ua7 :FH:=⟨[],[],[],[],false,[],[]⟩
noncomputable def yy5 (N:Nat):q48:=tab []
theorem vo1 (N:Nat):q13 Tryz.prog (yy5 N):=q27 _
def zi8 (N:Nat)(n:Int):Option q00 :=
 some (1,n,[],())
noncomputable def u74 (N:Nat)(n:Int):Option (RT [q05]):=q22 DR Tryz.prog N (yy5 N) ua7 Tryz.f110 (q10 Tryz.f110) (RT [q05]) (qd2 [(.int .i64)] (n,())) [] (q40 [q05])
theorem vg5 (N:Nat)(n:Int):u74 N n=zi8 N n:=by kernel_rfl
def xx5 (m:Int→Option q00):Ent:=q35 [(.int .i64)] [q05] fun (x:Els [(.int .i64)])=>m x.1
def zi3 (N:Nat):Ent:=xx5 (zi8 N)
theorem zy2 (N:Nat):q16 Tryz.prog 110 (zi3 N):=q15 (vo1 N) Tryz.func110 rfl (by kernel_rfl) fun (x:Els [(.int .i64)])=>vg5 N x.1
def kp3 :FH:=⟨[],[],[(1,⟨13,21,0,[],[]⟩)],[],false,[],[]⟩
noncomputable def vw1 (N:Nat):q48:=tab [(172,vm0 N),(110,zi3 N),(101,qg9 N)]
theorem kc0 (N:Nat):q13 Tryz.prog (vw1 N):=q06 (ud5 N) <| q06 (zy2 N) <| q06 (qe1 N) <| q27 _
def xy8 (N:Nat)(l:List q00):Option q03 :=
 bif inR 0 l.length then
 bif inR 1 l.length then
 (v97 N ((q24 l 0 q29).2.1) ((q24 l 1 q29).2.1)).bind fun r =>
 (zi8 N r.1).bind fun r1 =>
 (qc7 N r1 r.2.1).bind fun r2 =>
 some r2
 else none
 else none
noncomputable def kx2 (N:Nat)(l:List q00):Option (RT [q07]):=q22 DR Tryz.prog N (vw1 N) kp3 Tryz.f108 (q10 Tryz.f108) (RT [q07]) (qd2 [(.list q05)] (l,())) [] (q40 [q07])
theorem uv2 (N:Nat)(l:List q00):kx2 N l=xy8 N l:=by kernel_rfl
def u44 (m:(List q00)→Option q03):Ent:=q35 [(.list q05)] [q07] fun (x:Els [(.list q05)])=>m x.1
def xo7 (N:Nat):Ent:=u44 (xy8 N)
theorem vs5 (N:Nat):q16 Tryz.prog 108 (xo7 N):=q15 (kc0 N) Tryz.func108 rfl (by kernel_rfl) fun (x:Els [(.list q05)])=>uv2 N x.1
def jx7 :FH:=⟨[],[],[],[],false,[],[]⟩
noncomputable def ww0 (N:Nat):q48:=tab [(159,qe3 N),(76,q91 N),(157,qb2 N),(108,xo7 N)]
theorem jj6 (N:Nat):q13 Tryz.prog (ww0 N):=q06 (qc6 N) <| q06 (q80 N) <| q06 (qa5 N) <| q06 (vs5 N) <| q27 _
def qf2 (N:Nat)(l:List q00)(t1:Int):Option q03 :=
 (qa8 N t1 t1 l).bind fun r =>
 bif (!r) then
  (qd7 N 8).bind fun r1 =>
  some r1
 else
  (q83 N l).bind fun r2 =>
  bif r2 then
   some ((0,0,[],()),0,())
  else
   (xy8 N l).bind fun r3 =>
   some r3
abbrev wm6 :List PK:=[.val (.list q05),.ep 1,.val (.int .u8),.ep 1,.fn 108 0]
noncomputable def y47 (N:Nat)(l:List q00)(t1:Int):Option (RT [q07]):=q22 DR Tryz.prog N (ww0 N) jx7 Tryz.f160 (q10 Tryz.f160) (RT [q07]) (qx9 wm6 (l,t1,())) [] (q40 [q07])
theorem ja9 (N:Nat)(l:List q00)(t1:Int):y47 N l t1=qf2 N l t1:=by kernel_rfl
def zz3 (m:(List q00)→Int→Option q03):Ent:=qf1 wm6 [q07] fun (x:Els [(.list q05),(.int .u8)])=>m x.1 x.2.1
def wi3 (N:Nat):Ent:=zz3 (qf2 N)
theorem zs5 (N:Nat):q16 Tryz.prog 160 (wi3 N):=q51 (jj6 N) Tryz.func160 rfl (by kernel_rfl) (by kernel_rfl) fun (x:Els [(.list q05),(.int .u8)])=>ja9 N x.1 x.2.1
def wv9 :LH:=⟨[(2,.asis),(3,.asis),(6,.asis),(7,.own q05 507 26 3),(10,.int .i64),(11,.int .i64)],[],[.cells [.lst q07,.lst .bool],.cells [.int .u8,.int .i64,.str,.int .i64]]⟩
def qp2 :FH:=⟨[wv9],[],[],[],false,[],[]⟩
noncomputable def w56 (N:Nat):q48:=tab [(153,q52 N),(160,wi3 N)]
theorem ju4 (N:Nat):q13 Tryz.prog (w56 N):=q06 (q49 N) <| q06 (zs5 N) <| q27 _
noncomputable def wz9 :Sc:=wl6 Tryz.prog qp2
noncomputable def wy9 (N:Nat):Cfg:=⟨N,w56 N,0⟩
noncomputable def jl1 (N:Nat):Exit→List TV→List TOb→Option q03:=fin Tryz.prog 0 Tryz.f99.results.toList (q40 [q07])
def qz9 (n:Int)(k_l:List q03)(q09:List Bool)(q04 q20:Int)(q19:List UInt8)(q62 t1:Int)(e:List q00×Int):List TV:=match e with
 | (l,t11)=>frm 30 [(2,.func (.func 160) [.ep [.int .u8 t1] 0,.ep [.func (.func 108) []] 0]),(3,.ref 0 0),(6,.ref 1 0),(7,.tl q05 l (.own 507 26 3)),(10,.int .i64 n),(11,.int .i64 t11)]
def qz2 (n:Int)(k_l:List q03)(q09:List Bool)(q04 q20:Int)(q19:List UInt8)(q62 t1:Int)(e:List q00×Int):List TOb:=match e with
 | (l,t11)=>[.cells [.tl q07 k_l .unk,.tl .bool q09 .unk] 118 true,.cells [.int .u8 q04,.int .i64 q20,.str q19,.int .i64 q62] 115 true]
noncomputable def z12 (N:Nat):(List TV→List TOb→Option q03)→List TV→List TOb→Option q03:=w54 DR wz9 (wy9 N) (ql6 (qc4 (q08 (q87 (q08 (q08 (q10 Tryz.f99))))))) wv9 (qp2.loops.drop 1) (qk0 0 (qc3 DR wz9 (wy9 N) (q08 (q08 (q08 (q10 Tryz.f99)))) (qp2.loops.drop 1) (jl1 N)))
def w11 (N:Nat)(n:Int)(k_l:List q03)(q09:List Bool)(q04 q20:Int)(q19:List UInt8)(q62 t1:Int)(K0:(List q00×Int)→Option q03)(e:List q00×Int):Option q03 :=
 match e with
 | (l,t11) =>
  bif decide (t11 < n) then
   (q58 N (k_l,q09,()) t11).bind fun r =>
   bif (r.2.1 != 0) then
    some r
   else
    bif w23 (l.length + ([r.1]:List q00).length) 4398046511104 then
    bif q26 (t11 + 1) then
    K0 ((l ++ ([r.1]:List q00)),t11 + 1)
    else none
    else none
  else
   (qf2 N l t1).bind fun r1 =>
   some r1
theorem jx3 (N:Nat)(n:Int)(k_l:List q03)(q09:List Bool)(q04 q20:Int)(q19:List UInt8)(q62 t1:Int)(n_:Nat)(e:List q00×Int):q57 (z12 N ) n_ ((qz9 n k_l q09 q04 q20 q19 q62 t1) e) ((qz2 n k_l q09 q04 q20 q19 q62 t1) e)=q86 (w11 N n k_l q09 q04 q20 q19 q62 t1 ) n_ e :=
 q39 (qz9 n k_l q09 q04 q20 q19 q62 t1) (qz2 n k_l q09 q04 q20 q19 q62 t1) (by intro K e; obtain ⟨l,t11⟩:=e; kernel_rfl) n_ e
def z98 (N:Nat)(k:q34)(n t1:Int)(l1:Int→(List q03)→(List Bool)→Int→Int→(List UInt8)→Int→Int→(List q00×Int)→Option q03):Option q03 :=
 l1 n k.1 k.2.1 0 0 [] 0 t1 ([],0)
def qn9 (N:Nat)(k:q34)(n t1:Int):Option q03:=z98 N k n t1 (fun n k_l q09 q04 q20 q19 q62 t1 e=>q86 (w11 N n k_l q09 q04 q20 q19 q62 t1) N e)
abbrev z19 :List PK:=[.val q65,.val (.int .i64),.fn 160 2,.ep 1,.val (.int .u8),.ep 1,.fn 108 0]
noncomputable def zb5 (N:Nat)(k:q34)(n t1:Int):Option (RT [q07]):=q22 DR Tryz.prog N (w56 N) qp2 Tryz.f99 (q10 Tryz.f99) (RT [q07]) (qx9 z19 (k,n,t1,())) [] (q40 [q07])
theorem jn7 (N:Nat)(k:q34)(n t1:Int):zb5 N k n t1=qn9 N k n t1:=by
 have h:zb5 N k n t1=z98 N k n t1 (fun n k_l q09 q04 q20 q19 q62 t1 e=>q57 (z12 N ) N (qz9 n k_l q09 q04 q20 q19 q62 t1 e) (qz2 n k_l q09 q04 q20 q19 q62 t1 e)):=by kernel_rfl
 rw [h]
 simp only [qn9,jx3] <;> rfl
def j63 (m:q34→Int→Int→Option q03):Ent:=qf1 z19 [q07] fun (x:Els [q65,(.int .i64),(.int .u8)])=>m x.1 x.2.1 x.2.2.1
def wn6 (N:Nat):Ent:=j63 (qn9 N)
theorem j37 (N:Nat):q16 Tryz.prog 99 (wn6 N):=q51 (ju4 N) Tryz.func99 rfl (by kernel_rfl) (by kernel_rfl) fun (x:Els [q65,(.int .i64),(.int .u8)])=>jn7 N x.1 x.2.1 x.2.2.1
def va9 :FH:=⟨[],[],[],[],false,[],[]⟩
noncomputable def y13 (N:Nat):q48:=tab [(110,zi3 N)]
theorem xw0 (N:Nat):q13 Tryz.prog (y13 N):=q06 (zy2 N) <| q27 _
def j60 (N:Nat)(l:List q00):Option q03 :=
 bif inR 0 l.length then
 (zi8 N (((q24 l 0 q29).2.2.1).length:Int)).bind fun r =>
 some (r,0,())
 else none
noncomputable def vk4 (N:Nat)(l:List q00):Option (RT [q07]):=q22 DR Tryz.prog N (y13 N) va9 Tryz.f109 (q10 Tryz.f109) (RT [q07]) (qd2 [(.list q05)] (l,())) [] (q40 [q07])
theorem x93 (N:Nat)(l:List q00):vk4 N l=j60 N l:=by kernel_rfl
def x13 (m:(List q00)→Option q03):Ent:=q35 [(.list q05)] [q07] fun (x:Els [(.list q05)])=>m x.1
def j44 (N:Nat):Ent:=x13 (j60 N)
theorem yi4 (N:Nat):q16 Tryz.prog 109 (j44 N):=q15 (xw0 N) Tryz.func109 rfl (by kernel_rfl) fun (x:Els [(.list q05)])=>x93 N x.1
def jv8 :FH:=⟨[],[],[],[],false,[],[]⟩
noncomputable def wy8 (N:Nat):q48:=tab [(159,qe3 N),(76,q91 N),(157,qb2 N),(109,j44 N)]
theorem jm3 (N:Nat):q13 Tryz.prog (wy8 N):=q06 (qc6 N) <| q06 (q80 N) <| q06 (qa5 N) <| q06 (yi4 N) <| q27 _
def qf9 (N:Nat)(l:List q00)(t1:Int):Option q03 :=
 (qa8 N t1 t1 l).bind fun r =>
 bif (!r) then
  (qd7 N 8).bind fun r1 =>
  some r1
 else
  (q83 N l).bind fun r2 =>
  bif r2 then
   some ((0,0,[],()),0,())
  else
   (j60 N l).bind fun r3 =>
   some r3
abbrev wn5 :List PK:=[.val (.list q05),.ep 1,.val (.int .u8),.ep 1,.fn 109 0]
noncomputable def jp1 (N:Nat)(l:List q00)(t1:Int):Option (RT [q07]):=q22 DR Tryz.prog N (wy8 N) jv8 Tryz.f160 (q10 Tryz.f160) (RT [q07]) (qx9 wn5 (l,t1,())) [] (q40 [q07])
theorem j62 (N:Nat)(l:List q00)(t1:Int):jp1 N l t1=qf9 N l t1:=by kernel_rfl
def zx8 (m:(List q00)→Int→Option q03):Ent:=qf1 wn5 [q07] fun (x:Els [(.list q05),(.int .u8)])=>m x.1 x.2.1
def wg3 (N:Nat):Ent:=zx8 (qf9 N)
theorem zs7 (N:Nat):q16 Tryz.prog 160 (wg3 N):=q51 (jm3 N) Tryz.func160 rfl (by kernel_rfl) (by kernel_rfl) fun (x:Els [(.list q05),(.int .u8)])=>j62 N x.1 x.2.1
def wt6 :LH:=⟨[(2,.asis),(3,.asis),(6,.asis),(7,.own q05 507 26 3),(10,.int .i64),(11,.int .i64)],[],[.cells [.lst q07,.lst .bool],.cells [.int .u8,.int .i64,.str,.int .i64]]⟩
def qq0 :FH:=⟨[wt6],[],[],[],false,[],[]⟩
noncomputable def w64 (N:Nat):q48:=tab [(153,q52 N),(160,wg3 N)]
theorem js5 (N:Nat):q13 Tryz.prog (w64 N):=q06 (q49 N) <| q06 (zs7 N) <| q27 _
noncomputable def wx8 :Sc:=wl6 Tryz.prog qq0
noncomputable def wy3 (N:Nat):Cfg:=⟨N,w64 N,0⟩
noncomputable def jk4 (N:Nat):Exit→List TV→List TOb→Option q03:=fin Tryz.prog 0 Tryz.f99.results.toList (q40 [q07])
def w03 (n:Int)(k_l:List q03)(q09:List Bool)(q04 q20:Int)(q19:List UInt8)(q62 t1:Int)(e:List q00×Int):List TV:=match e with
 | (l,t11)=>frm 30 [(2,.func (.func 160) [.ep [.int .u8 t1] 0,.ep [.func (.func 109) []] 0]),(3,.ref 0 0),(6,.ref 1 0),(7,.tl q05 l (.own 507 26 3)),(10,.int .i64 n),(11,.int .i64 t11)]
def w22 (n:Int)(k_l:List q03)(q09:List Bool)(q04 q20:Int)(q19:List UInt8)(q62 t1:Int)(e:List q00×Int):List TOb:=match e with
 | (l,t11)=>[.cells [.tl q07 k_l .unk,.tl .bool q09 .unk] 118 true,.cells [.int .u8 q04,.int .i64 q20,.str q19,.int .i64 q62] 115 true]
noncomputable def wz2 (N:Nat):(List TV→List TOb→Option q03)→List TV→List TOb→Option q03:=w54 DR wx8 (wy3 N) (ql6 (qc4 (q08 (q87 (q08 (q08 (q10 Tryz.f99))))))) wt6 (qq0.loops.drop 1) (qk0 0 (qc3 DR wx8 (wy3 N) (q08 (q08 (q08 (q10 Tryz.f99)))) (qq0.loops.drop 1) (jk4 N)))
def qz7 (N:Nat)(n:Int)(k_l:List q03)(q09:List Bool)(q04 q20:Int)(q19:List UInt8)(q62 t1:Int)(K0:(List q00×Int)→Option q03)(e:List q00×Int):Option q03 :=
 match e with
 | (l,t11) =>
  bif decide (t11 < n) then
   (q58 N (k_l,q09,()) t11).bind fun r =>
   bif (r.2.1 != 0) then
    some r
   else
    bif w23 (l.length + ([r.1]:List q00).length) 4398046511104 then
    bif q26 (t11 + 1) then
    K0 ((l ++ ([r.1]:List q00)),t11 + 1)
    else none
    else none
  else
   (qf9 N l t1).bind fun r1 =>
   some r1
theorem jq2 (N:Nat)(n:Int)(k_l:List q03)(q09:List Bool)(q04 q20:Int)(q19:List UInt8)(q62 t1:Int)(n_:Nat)(e:List q00×Int):q57 (wz2 N ) n_ ((w03 n k_l q09 q04 q20 q19 q62 t1) e) ((w22 n k_l q09 q04 q20 q19 q62 t1) e)=q86 (qz7 N n k_l q09 q04 q20 q19 q62 t1 ) n_ e :=
 q39 (w03 n k_l q09 q04 q20 q19 q62 t1) (w22 n k_l q09 q04 q20 q19 q62 t1) (by intro K e; obtain ⟨l,t11⟩:=e; kernel_rfl) n_ e
def za6 (N:Nat)(k:q34)(n t1:Int)(l1:Int→(List q03)→(List Bool)→Int→Int→(List UInt8)→Int→Int→(List q00×Int)→Option q03):Option q03 :=
 l1 n k.1 k.2.1 0 0 [] 0 t1 ([],0)
def qo0 (N:Nat)(k:q34)(n t1:Int):Option q03:=za6 N k n t1 (fun n k_l q09 q04 q20 q19 q62 t1 e=>q86 (qz7 N n k_l q09 q04 q20 q19 q62 t1) N e)
abbrev wz4 :List PK:=[.val q65,.val (.int .i64),.fn 160 2,.ep 1,.val (.int .u8),.ep 1,.fn 109 0]
noncomputable def zc7 (N:Nat)(k:q34)(n t1:Int):Option (RT [q07]):=q22 DR Tryz.prog N (w64 N) qq0 Tryz.f99 (q10 Tryz.f99) (RT [q07]) (qx9 wz4 (k,n,t1,())) [] (q40 [q07])
theorem jk8 (N:Nat)(k:q34)(n t1:Int):zc7 N k n t1=qo0 N k n t1:=by
 have h:zc7 N k n t1=za6 N k n t1 (fun n k_l q09 q04 q20 q19 q62 t1 e=>q57 (wz2 N ) N (w03 n k_l q09 q04 q20 q19 q62 t1 e) (w22 n k_l q09 q04 q20 q19 q62 t1 e)):=by kernel_rfl
 rw [h]
 simp only [qo0,jq2] <;> rfl
def j75 (m:q34→Int→Int→Option q03):Ent:=qf1 wz4 [q07] fun (x:Els [q65,(.int .i64),(.int .u8)])=>m x.1 x.2.1 x.2.2.1
def wn0 (N:Nat):Ent:=j75 (qo0 N)
theorem j24 (N:Nat):q16 Tryz.prog 99 (wn0 N):=q51 (js5 N) Tryz.func99 rfl (by kernel_rfl) (by kernel_rfl) fun (x:Els [q65,(.int .i64),(.int .u8)])=>jk8 N x.1 x.2.1 x.2.2.1
def jy0 :FH:=⟨[],[],[],[],false,[],[]⟩
noncomputable def z05 (N:Nat):q48:=tab [(159,qe3 N),(76,q91 N),(157,qb2 N),(111,yf3 N)]
theorem jn1 (N:Nat):q13 Tryz.prog (z05 N):=q06 (qc6 N) <| q06 (q80 N) <| q06 (qa5 N) <| q06 (xv0 N) <| q27 _
def qg1 (N:Nat)(l:List q00)(t1:Int):Option q03 :=
 (qa8 N t1 t1 l).bind fun r =>
 bif (!r) then
  (qd7 N 8).bind fun r1 =>
  some r1
 else
  (q83 N l).bind fun r2 =>
  bif r2 then
   some ((0,0,[],()),0,())
  else
   (y79 N l).bind fun r3 =>
   some r3
abbrev wn4 :List PK:=[.val (.list q05),.ep 1,.val (.int .u8),.ep 1,.fn 111 0]
noncomputable def jv7 (N:Nat)(l:List q00)(t1:Int):Option (RT [q07]):=q22 DR Tryz.prog N (z05 N) jy0 Tryz.f160 (q10 Tryz.f160) (RT [q07]) (qx9 wn4 (l,t1,())) [] (q40 [q07])
theorem j65 (N:Nat)(l:List q00)(t1:Int):jv7 N l t1=qg1 N l t1:=by kernel_rfl
def zz5 (m:(List q00)→Int→Option q03):Ent:=qf1 wn4 [q07] fun (x:Els [(.list q05),(.int .u8)])=>m x.1 x.2.1
def wg4 (N:Nat):Ent:=zz5 (qg1 N)
theorem zu4 (N:Nat):q16 Tryz.prog 160 (wg4 N):=q51 (jn1 N) Tryz.func160 rfl (by kernel_rfl) (by kernel_rfl) fun (x:Els [(.list q05),(.int .u8)])=>j65 N x.1 x.2.1
def ww3 :LH:=⟨[(2,.asis),(3,.asis),(6,.asis),(7,.own q05 507 26 3),(10,.int .i64),(11,.int .i64)],[],[.cells [.lst q07,.lst .bool],.cells [.int .u8,.int .i64,.str,.int .i64]]⟩
def qp6 :FH:=⟨[ww3],[],[],[],false,[],[]⟩
noncomputable def w57 (N:Nat):q48:=tab [(153,q52 N),(160,wg4 N)]
theorem jw5 (N:Nat):q13 Tryz.prog (w57 N):=q06 (q49 N) <| q06 (zu4 N) <| q27 _
noncomputable def ww1 :Sc:=wl6 Tryz.prog qp6
noncomputable def wy5 (N:Nat):Cfg:=⟨N,w57 N,0⟩
noncomputable def jl3 (N:Nat):Exit→List TV→List TOb→Option q03:=fin Tryz.prog 0 Tryz.f99.results.toList (q40 [q07])
def qy9 (n:Int)(k_l:List q03)(q09:List Bool)(q04 q20:Int)(q19:List UInt8)(q62 t1:Int)(e:List q00×Int):List TV:=match e with
 | (l,t11)=>frm 30 [(2,.func (.func 160) [.ep [.int .u8 t1] 0,.ep [.func (.func 111) []] 0]),(3,.ref 0 0),(6,.ref 1 0),(7,.tl q05 l (.own 507 26 3)),(10,.int .i64 n),(11,.int .i64 t11)]
def qz0 (n:Int)(k_l:List q03)(q09:List Bool)(q04 q20:Int)(q19:List UInt8)(q62 t1:Int)(e:List q00×Int):List TOb:=match e with
 | (l,t11)=>[.cells [.tl q07 k_l .unk,.tl .bool q09 .unk] 118 true,.cells [.int .u8 q04,.int .i64 q20,.str q19,.int .i64 q62] 115 true]
noncomputable def z17 (N:Nat):(List TV→List TOb→Option q03)→List TV→List TOb→Option q03:=w54 DR ww1 (wy5 N) (ql6 (qc4 (q08 (q87 (q08 (q08 (q10 Tryz.f99))))))) ww3 (qp6.loops.drop 1) (qk0 0 (qc3 DR ww1 (wy5 N) (q08 (q08 (q08 (q10 Tryz.f99)))) (qp6.loops.drop 1) (jl3 N)))
def w04 (N:Nat)(n:Int)(k_l:List q03)(q09:List Bool)(q04 q20:Int)(q19:List UInt8)(q62 t1:Int)(K0:(List q00×Int)→Option q03)(e:List q00×Int):Option q03 :=
 match e with
 | (l,t11) =>
  bif decide (t11 < n) then
   (q58 N (k_l,q09,()) t11).bind fun r =>
   bif (r.2.1 != 0) then
    some r
   else
    bif w23 (l.length + ([r.1]:List q00).length) 4398046511104 then
    bif q26 (t11 + 1) then
    K0 ((l ++ ([r.1]:List q00)),t11 + 1)
    else none
    else none
  else
   (qg1 N l t1).bind fun r1 =>
   some r1
theorem ju2 (N:Nat)(n:Int)(k_l:List q03)(q09:List Bool)(q04 q20:Int)(q19:List UInt8)(q62 t1:Int)(n_:Nat)(e:List q00×Int):q57 (z17 N ) n_ ((qy9 n k_l q09 q04 q20 q19 q62 t1) e) ((qz0 n k_l q09 q04 q20 q19 q62 t1) e)=q86 (w04 N n k_l q09 q04 q20 q19 q62 t1 ) n_ e :=
 q39 (qy9 n k_l q09 q04 q20 q19 q62 t1) (qz0 n k_l q09 q04 q20 q19 q62 t1) (by intro K e; obtain ⟨l,t11⟩:=e; kernel_rfl) n_ e
def z84 (N:Nat)(k:q34)(n t1:Int)(l1:Int→(List q03)→(List Bool)→Int→Int→(List UInt8)→Int→Int→(List q00×Int)→Option q03):Option q03 :=
 l1 n k.1 k.2.1 0 0 [] 0 t1 ([],0)
def qo9 (N:Nat)(k:q34)(n t1:Int):Option q03:=z84 N k n t1 (fun n k_l q09 q04 q20 q19 q62 t1 e=>q86 (w04 N n k_l q09 q04 q20 q19 q62 t1) N e)
abbrev wv2 :List PK:=[.val q65,.val (.int .i64),.fn 160 2,.ep 1,.val (.int .u8),.ep 1,.fn 111 0]
noncomputable def z74 (N:Nat)(k:q34)(n t1:Int):Option (RT [q07]):=q22 DR Tryz.prog N (w57 N) qp6 Tryz.f99 (q10 Tryz.f99) (RT [q07]) (qx9 wv2 (k,n,t1,())) [] (q40 [q07])
theorem jj8 (N:Nat)(k:q34)(n t1:Int):z74 N k n t1=qo9 N k n t1:=by
 have h:z74 N k n t1=z84 N k n t1 (fun n k_l q09 q04 q20 q19 q62 t1 e=>q57 (z17 N ) N (qy9 n k_l q09 q04 q20 q19 q62 t1 e) (qz0 n k_l q09 q04 q20 q19 q62 t1 e)):=by kernel_rfl
 rw [h]
 simp only [qo9,ju2] <;> rfl
def jg4 (m:q34→Int→Int→Option q03):Ent:=qf1 wv2 [q07] fun (x:Els [q65,(.int .i64),(.int .u8)])=>m x.1 x.2.1 x.2.2.1
def wn7 (N:Nat):Ent:=jg4 (qo9 N)
theorem j43 (N:Nat):q16 Tryz.prog 99 (wn7 N):=q51 (jw5 N) Tryz.func99 rfl (by kernel_rfl) (by kernel_rfl) fun (x:Els [q65,(.int .i64),(.int .u8)])=>jj8 N x.1 x.2.1 x.2.2.1
def yx0 :FH:=⟨[],[],[],[],false,[],[]⟩
noncomputable def zp1 (N:Nat):q48:=tab [(80,ql0 N),(153,q52 N)]
theorem ym3 (N:Nat):q13 Tryz.prog (zp1 N):=q06 (qn3 N) <| q06 (q49 N) <| q27 _
def wb6 (N:Nat)(k:q34):Option q03 :=
 (q82 N k 0).bind fun r =>
 bif (r.2.1 != 0) then
  some r
 else
  bif (r.1.1 == 0) then
   some r
  else
   bif (r.1.2.1 == 1) then
    (q58 N k 1).bind fun r1 =>
    some r1
   else
    (q58 N k 2).bind fun r2 =>
    some r2
noncomputable def yv6 (N:Nat)(k:q34):Option (RT [q07]):=q22 DR Tryz.prog N (zp1 N) yx0 Tryz.f112 (q10 Tryz.f112) (RT [q07]) (qd2 [q65] (k,())) [] (q40 [q07])
theorem yb7 (N:Nat)(k:q34):yv6 N k=wb6 N k:=by kernel_rfl
def jy6 (m:q34→Option q03):Ent:=q35 [q65] [q07] fun (x:Els [q65])=>m x.1
def zb4 (N:Nat):Ent:=jy6 (wb6 N)
theorem jk1 (N:Nat):q16 Tryz.prog 112 (zb4 N):=q15 (ym3 N) Tryz.func112 rfl (by kernel_rfl) fun (x:Els [q65])=>yb7 N x.1
noncomputable def j03 (N:Nat):q48:=tab [(99,sel [0,0,173,3,105] (wx3 N) <| sel [0,0,173,3,106] (z13 N) <| sel [0,0,173,3,107] (z03 N) <| sel [0,0,173,3,108] (wl8 N) kb5)]
theorem yv2 (N:Nat):q13 Tryz.prog (j03 N):=q06 (qd9 (j83 N) <| qd9 (je5 N) <| qd9 (j98 N) <| qd9 (j01 N) wo3) <| q27 _
noncomputable def zn4 (N:Nat):Ent:=zn6 Tryz.prog N (j03 N) ⟨[],[],[],[],false,[99],[]⟩ Tryz.f94 (q10 Tryz.f94)
theorem y10 (N:Nat):q16 Tryz.prog 94 (zn4 N):=qc2 (yv2 N) Tryz.func94 rfl (by kernel_rfl)
noncomputable def zk9 (N:Nat):q48:=tab [(99,sel [0,0,170,3,0,3,118] (wn6 N) <| sel [0,0,170,3,0,3,119] (wn0 N) <| sel [0,0,170,3,0,3,121] (wn7 N) kb5)]
theorem yb1 (N:Nat):q13 Tryz.prog (zk9 N):=q06 (qd9 (j37 N) <| qd9 (j24 N) <| qd9 (j43 N) wo3) <| q27 _
noncomputable def z25 (N:Nat):Ent:=zn6 Tryz.prog N (zk9 N) ⟨[],[],[],[],false,[99],[]⟩ Tryz.f88 (q10 Tryz.f88)
theorem j67 (N:Nat):q16 Tryz.prog 88 (z25 N):=qc2 (yb1 N) Tryz.func88 rfl (by kernel_rfl)
def uf2 :FH:=⟨[],[],[],[],false,[],[]⟩
noncomputable def x38 (N:Nat):q48:=tab [(94,zn4 N),(99,sel [0,0,110] (wn3 N) <| sel [0,0,113] (wm7 N) <| sel [0,0,115] (wm8 N) <| sel [0,0,117] (wm2 N) kb5),(88,z25 N),(112,zb4 N),(76,q91 N)]
theorem vs8 (N:Nat):q13 Tryz.prog (x38 N):=q06 (y10 N) <| q06 (qd9 (j31 N) <| qd9 (j14 N) <| qd9 (j36 N) <| qd9 (zy4 N) wo3) <| q06 (j67 N) <| q06 (jk1 N) <| q06 (q80 N) <| q27 _
def qu1 (N:Nat)(op:Int)(k:q34):Option q03 :=
 bif (op == 13) then
  (qt1 N k 2).bind fun r =>
  some r
 else
  bif (op == 14) then
   (qq8 N k 2).bind fun r1 =>
   some r1
  else
   bif (op == 15) then
    (qs6 N k 2).bind fun r2 =>
    some r2
   else
    bif (op == 16) then
     (qo7 N k 2).bind fun r3 =>
     some r3
    else
     bif (op == 17) then
      (qn0 N k 1).bind fun r4 =>
      some r4
     else
      bif (op == 19) then
       (qh5 N k (k.1.length:Int)).bind fun r5 =>
       some r5
      else
       bif (op == 20) then
        (qh2 N k (k.1.length:Int)).bind fun r6 =>
        some r6
       else
        bif (op == 18) then
         (qo4 N k 1).bind fun r7 =>
         some r7
        else
         bif (op == 21) then
          (qn9 N k 2 1).bind fun r8 =>
          some r8
         else
          bif (op == 22) then
           (qo0 N k 1 3).bind fun r9 =>
           some r9
          else
           bif (op == 23) then
            (qo9 N k 1 3).bind fun r10 =>
            some r10
           else
            bif (op == 26) then
             (wb6 N k).bind fun r11 =>
             some r11
            else
             (qd7 N 2).bind fun r12 =>
             some r12
noncomputable def u88 (N:Nat)(op:Int)(k:q34):Option (RT [q07]):=q22 DR Tryz.prog N (x38 N) uf2 Tryz.f38 (q10 Tryz.f38) (RT [q07]) (qd2 [(.int .u8),q65] (op,k,())) [] (q40 [q07])
theorem vi6 (N:Nat)(op:Int)(k:q34):u88 N op k=qu1 N op k:=by kernel_rfl
def xt2 (m:Int→q34→Option q03):Ent:=q35 [(.int .u8),q65] [q07] fun (x:Els [(.int .u8),q65])=>m x.1 x.2.1
def y06 (N:Nat):Ent:=xt2 (qu1 N)
theorem x87 (N:Nat):q16 Tryz.prog 38 (y06 N):=q15 (vs8 N) Tryz.func38 rfl (by kernel_rfl) fun (x:Els [(.int .u8),q65])=>vi6 N x.1 x.2.1
def jb6 :LH:=⟨[(0,.lst q79),(2,.lst qa4),(4,.asis),(6,.asis),(8,.asis),(9,.asis),(20,.lst q79),(21,.int .i64),(22,.int .i64)],[],[.cells [.int .u8,.int .i64,.str],.cells [.int .u8,.int .i64,.str],.same,.cells [.int .u8,.int .i64,.str,.int .i64]]⟩
def ys9 :LH:=⟨[(0,.lst q79),(2,.lst qa4),(4,.asis),(6,.asis),(8,.asis),(9,.asis),(10,.int .i64),(11,.asis),(12,.asis),(20,.lst q79),(21,.int .i64),(22,.int .i64),(28,.lst (.int .i64)),(29,.int .i64),(30,.int .i64)],[],[.cells [.int .u8,.int .i64,.str],.cells [.int .u8,.int .i64,.str],.same,.cells [.int .u8,.int .i64,.str,.int .i64],.cells [.int .u8,.int .u8,.int .i64,.str,.str,.lst (.int .i64),.int .i64,.int .i64],.cells [.own q07 2500 115 4,.own .bool 2501 4 1]]⟩
def qt7 :FH:=⟨[jb6,ys9],[19],[(11,⟨10,114,0,[(4,.app 2500),(8,.app 2501)],[]⟩),(12,⟨28,114,0,[(7,.app 2500),(26,.app 2501)],[]⟩),(19,⟨6,114,0,[(5,.store true 2)],[]⟩),(21,⟨5,114,0,[(4,.store true 1)],[]⟩)],[],false,[],[]⟩
noncomputable def y07 (N:Nat):q48:=tab [(36,yu9 N),(37,jq5 N),(38,y06 N)]
theorem ub6 (N:Nat):q13 Tryz.prog (y07 N):=q06 (vi7 N) <| q06 (x88 N) <| q06 (x87 N) <| q27 _
noncomputable def w33 :Sc:=wl6 Tryz.prog qt7
noncomputable def qv6 (N:Nat):Cfg:=⟨N,y07 N,0⟩
noncomputable def yg0 (N:Nat):Exit→List TV→List TOb→Option OX3:=fin Tryz.prog 0 Tryz.f15.results.toList (q40 [q05,(.int .i64)])
def w37 (t:List q23)(vars:List q43)(t21 q33 q68:Int)(q70:List UInt8)(qa2 j79:Int)(jg5:List UInt8)(e:Int×List q03×Int×Int×List UInt8×Int):List TV:=match e with
 | (t22,all,q89,qg8,qh0,wb0)=>frm 114 [(0,.tl q79 t .unk),(2,.tl qa4 vars .unk),(4,.ref 0 0),(6,.ref 1 0),(8,.arr 2 ((t.length:Int).toNat)),(9,.ref 3 0),(20,.tl q79 t .unk),(21,.int .i64 t21),(22,.int .i64 t22)]
def w51 (t:List q23)(vars:List q43)(t21 q33 q68:Int)(q70:List UInt8)(qa2 j79:Int)(jg5:List UInt8)(e:Int×List q03×Int×Int×List UInt8×Int):List TOb:=match e with
 | (t22,all,q89,qg8,qh0,wb0)=>[.cells [.int .u8 q33,.int .i64 q68,.str q70] 26 true,.cells [.int .u8 qa2,.int .i64 j79,.str jg5] 26 true,.tarr q07 all 115 true,.cells [.int .u8 q89,.int .i64 qg8,.str qh0,.int .i64 wb0] 115 true]
def jb5 (t:List q23)(vars:List q43)(t22 t21:Int)(t28:List Int)(t29 q33 q68:Int)(q70:List UInt8)(qa2 j79:Int)(jg5:List UInt8)(all:List q03)(q89 qg8:Int)(qh0:List UInt8)(wb0 jf9 q25 q60:Int)(q61 q38:List UInt8)(qb3:List Int)(q14 q17:Int)(e:Int×List q03×List Bool):List TV:=match e with
 | (t30,k_l,q09)=>frm 114 [(0,.tl q79 t .unk),(2,.tl qa4 vars .unk),(4,.ref 0 0),(6,.ref 1 0),(8,.arr 2 ((t.length:Int).toNat)),(9,.ref 3 0),(10,.int .i64 t22),(11,.ref 4 0),(12,.ref 5 0),(20,.tl q79 t .unk),(21,.int .i64 t21),(22,.int .i64 t22),(28,.tl (.int .i64) t28 .unk),(29,.int .i64 t29),(30,.int .i64 t30)]
def jb9 (t:List q23)(vars:List q43)(t22 t21:Int)(t28:List Int)(t29 q33 q68:Int)(q70:List UInt8)(qa2 j79:Int)(jg5:List UInt8)(all:List q03)(q89 qg8:Int)(qh0:List UInt8)(wb0 jf9 q25 q60:Int)(q61 q38:List UInt8)(qb3:List Int)(q14 q17:Int)(e:Int×List q03×List Bool):List TOb:=match e with
 | (t30,k_l,q09)=>[.cells [.int .u8 q33,.int .i64 q68,.str q70] 26 true,.cells [.int .u8 qa2,.int .i64 j79,.str jg5] 26 true,.tarr q07 all 115 true,.cells [.int .u8 q89,.int .i64 qg8,.str qh0,.int .i64 wb0] 115 true,.cells [.int .u8 jf9,.int .u8 q25,.int .i64 q60,.str q61,.str q38,.tl (.int .i64) qb3 .unk,.int .i64 q14,.int .i64 q17] 54 true,.cells [.tl q07 k_l (.own 2500 115 4),.tl .bool q09 (.own 2501 4 1)] 118 true]
noncomputable def yy9 (N:Nat)(K0r:List TV→List TOb→Option OX3):(List TV→List TOb→Option OX3)→List TV→List TOb→Option OX3:=w54 DR w33 (qv6 N) (ql6 (qc4 (q08 (q87 (q08 (q08 (qc4 (q87 (q08 (q08 (ql6 (qc4 (q08 (q87 (q08 (q08 (q08 (q10 Tryz.f15)))))))))))))))))) ys9 (qt7.loops.drop 2) (qk0 2 (qc3 DR w33 (qv6 N) (q08 (q08 (q08 (qc4 (q87 (q08 (q08 (ql6 (qc4 (q08 (q87 (q08 (q08 (q08 (q10 Tryz.f15))))))))))))))) (qt7.loops.drop 2) (qk0 1 (qc3 DR w33 (qv6 N) (q08 (q08 (q08 (ql6 (qc4 (q08 (q87 (q08 (q08 (q08 (q10 Tryz.f15))))))))))) (qt7.loops.drop 2) (ud6 (qv6 N) jb6 (qk0 0 (qc3 DR w33 (qv6 N) (q08 (q08 (q08 (q08 (q10 Tryz.f15))))) (qt7.loops.drop 2) (yg0 N))) K0r)))))
def j96 (N:Nat)(t:List q23)(vars:List q43)(t22 t21:Int)(t28:List Int)(t29 q33 q68:Int)(q70:List UInt8)(qa2 j79:Int)(jg5:List UInt8)(all:List q03)(q89 qg8:Int)(qh0:List UInt8)(wb0 jf9 q25 q60:Int)(q61 q38:List UInt8)(qb3:List Int)(q14 q17:Int)(K0:(Int×List q03×Int×Int×List UInt8×Int)→Option OX3)(K1:(Int×List q03×List Bool)→Option OX3)(e:Int×List q03×List Bool):Option OX3 :=
 match e with
 | (t30,k_l,q09) =>
  bif decide (t30 < t29) then
   bif inR t30 t28.length then
   bif decide ((q24 t28 t30 0) < 0) then
    bif w23 (k_l.length + ([((0,0,[],()),0,())]:List q03).length) 3518437208883 then
    bif w23 (q09.length + [false].length) 140737488355328 then
    bif q26 (t30 + 1) then
    K1 (t30 + 1,(k_l ++ ([((0,0,[],()),0,())]:List q03)),(q09 ++ [false]))
    else none
    else none
    else none
   else
    bif decide ((q24 t28 t30 0) ≥ t22) then
     bif w23 (k_l.length + ([((0,0,[],()),0,())]:List q03).length) 3518437208883 then
     bif w23 (q09.length + [false].length) 140737488355328 then
     bif q26 (t30 + 1) then
     K1 (t30 + 1,(k_l ++ ([((0,0,[],()),0,())]:List q03)),(q09 ++ [false]))
     else none
     else none
     else none
    else
     bif inR (q24 t28 t30 0) ((t.length:Int).toNat) then
     bif inR (q24 t28 t30 0) (all).length then
     bif w23 (k_l.length + ([(((q24 all (q24 t28 t30 0) ws5).1),(q24 all (q24 t28 t30 0) ws5).2.1,())]:List q03).length) 3518437208883 then
     bif inR (q24 t28 t30 0) t.length then
     bif (((q24 t (q24 t28 t30 0) qd6).1) == 1) then
      bif inR (q24 t28 t30 0) t.length then
      bif w23 (q09.length + [((((q24 t (q24 t28 t30 0) qd6).2.1).1) == 0)].length) 140737488355328 then
      bif q26 (t30 + 1) then
      K1 (t30 + 1,(k_l ++ ([(((q24 all (q24 t28 t30 0) ws5).1),(q24 all (q24 t28 t30 0) ws5).2.1,())]:List q03)),(q09 ++ [((((q24 t (q24 t28 t30 0) qd6).2.1).1) == 0)]))
      else none
      else none
      else none
     else
      bif w23 (q09.length + [false].length) 140737488355328 then
      bif q26 (t30 + 1) then
      K1 (t30 + 1,(k_l ++ ([(((q24 all (q24 t28 t30 0) ws5).1),(q24 all (q24 t28 t30 0) ws5).2.1,())]:List q03)),(q09 ++ [false]))
      else none
      else none
     else none
     else none
     else none
     else none
   else none
  else
   (z07 N (jf9,(q25,q60,q61,()),q38,qb3,(q14,q17,()),()) (q33,q68,q70,()) vars).bind fun r =>
   bif (!r.2.1) then
    (wd9 N jf9 (k_l,q09,())).bind fun r1 =>
    bif (!r1.2.1) then
     (qu1 N jf9 (k_l,q09,())).bind fun r2 =>
     bif inR t22 ((t.length:Int).toNat) then
     bif inR t22 all.length then
     bif q26 (t22 + 1) then
     K0 (t22 + 1,(setD all t22 r2),r2.1.1,r2.1.2.1,r2.1.2.2.1,r2.2.1)
     else none
     else none
     else none
    else
     bif inR t22 ((t.length:Int).toNat) then
     bif inR t22 all.length then
     bif q26 (t22 + 1) then
     K0 (t22 + 1,(setD all t22 r1.1),r1.1.1.1,r1.1.1.2.1,r1.1.1.2.2.1,r1.1.2.1)
     else none
     else none
     else none
   else
    bif (!r.2.1) then
     (qu1 N jf9 (k_l,q09,())).bind fun r3 =>
     bif inR t22 ((t.length:Int).toNat) then
     bif inR t22 all.length then
     bif q26 (t22 + 1) then
     K0 (t22 + 1,(setD all t22 r3),r3.1.1,r3.1.2.1,r3.1.2.2.1,r3.2.1)
     else none
     else none
     else none
    else
     bif inR t22 ((t.length:Int).toNat) then
     bif inR t22 all.length then
     bif q26 (t22 + 1) then
     K0 (t22 + 1,(setD all t22 r.1),r.1.1.1,r.1.1.2.1,r.1.1.2.2.1,r.1.2.1)
     else none
     else none
     else none
theorem u53 (N:Nat)(t:List q23)(vars:List q43)(t22 t21:Int)(t28:List Int)(t29 q33 q68:Int)(q70:List UInt8)(qa2 j79:Int)(jg5:List UInt8)(all:List q03)(q89 qg8:Int)(qh0:List UInt8)(wb0 jf9 q25 q60:Int)(q61 q38:List UInt8)(qb3:List Int)(q14 q17:Int)(K0r:List TV→List TOb→Option OX3)(n_:Nat)(e:Int×List q03×List Bool):q57 (yy9 N K0r) n_ ((jb5 t vars t22 t21 t28 t29 q33 q68 q70 qa2 j79 jg5 all q89 qg8 qh0 wb0 jf9 q25 q60 q61 q38 qb3 q14 q17) e) ((jb9 t vars t22 t21 t28 t29 q33 q68 q70 qa2 j79 jg5 all q89 qg8 qh0 wb0 jf9 q25 q60 q61 q38 qb3 q14 q17) e)=q86 (j96 N t vars t22 t21 t28 t29 q33 q68 q70 qa2 j79 jg5 all q89 qg8 qh0 wb0 jf9 q25 q60 q61 q38 qb3 q14 q17 (fun a=>K0r (w37 t vars t21 q33 q68 q70 qa2 j79 jg5 a) (w51 t vars t21 q33 q68 q70 qa2 j79 jg5 a))) n_ e :=
 q39 (jb5 t vars t22 t21 t28 t29 q33 q68 q70 qa2 j79 jg5 all q89 qg8 qh0 wb0 jf9 q25 q60 q61 q38 qb3 q14 q17) (jb9 t vars t22 t21 t28 t29 q33 q68 q70 qa2 j79 jg5 all q89 qg8 qh0 wb0 jf9 q25 q60 q61 q38 qb3 q14 q17) (by intro K e; obtain ⟨t30,k_l,q09⟩:=e; kernel_rfl) n_ e
noncomputable def jf8 (N:Nat):(List TV→List TOb→Option OX3)→List TV→List TOb→Option OX3:=w54 DR w33 (qv6 N) (ql6 (qc4 (q08 (q87 (q08 (q08 (q08 (q10 Tryz.f15)))))))) jb6 (qt7.loops.drop 1) (qk0 0 (qc3 DR w33 (qv6 N) (q08 (q08 (q08 (q08 (q10 Tryz.f15))))) (qt7.loops.drop 2) (yg0 N)))
def zu9 (N:Nat)(t:List q23)(vars:List q43)(t21 q33 q68:Int)(q70:List UInt8)(qa2 j79:Int)(jg5:List UInt8)(l2:(List q23)→(List q43)→Int→Int→(List Int)→Int→Int→Int→(List UInt8)→Int→Int→(List UInt8)→(List q03)→Int→Int→(List UInt8)→Int→Int→Int→Int→(List UInt8)→(List UInt8)→(List Int)→Int→Int→(Int×List q03×List Bool)→Option OX3)(K0:(Int×List q03×Int×Int×List UInt8×Int)→Option OX3)(e:Int×List q03×Int×Int×List UInt8×Int):Option OX3 :=
 match e with
 | (t22,all,q89,qg8,qh0,wb0) =>
  bif decide (t22 < t21) then
   bif inR t22 t.length then
   l2 t vars t22 t21 ((q24 t t22 qd6).2.2.2.1) (((q24 t t22 qd6).2.2.2.1).length:Int) q33 q68 q70 qa2 j79 jg5 all q89 qg8 qh0 wb0 ((q24 t t22 qd6).1) (((q24 t t22 qd6).2.1).1) (((q24 t t22 qd6).2.1).2.1) (((q24 t t22 qd6).2.1).2.2.1) ((q24 t t22 qd6).2.2.1) ((q24 t t22 qd6).2.2.2.1) (((q24 t t22 qd6).2.2.2.2.1).1) (((q24 t t22 qd6).2.2.2.2.1).2.1) (0,[],[])
   else none
  else
   some ((q89,qg8,qh0,()),wb0,())
def ze2 (N:Nat)(t:List q23)(vars:List q43)(t21 q33 q68:Int)(q70:List UInt8)(qa2 j79:Int)(jg5:List UInt8)(K0:(Int×List q03×Int×Int×List UInt8×Int)→Option OX3)(e:Int×List q03×Int×Int×List UInt8×Int):Option OX3:=zu9 N t vars t21 q33 q68 q70 qa2 j79 jg5 (fun t vars t22 t21 t28 t29 q33 q68 q70 qa2 j79 jg5 all q89 qg8 qh0 wb0 jf9 q25 q60 q61 q38 qb3 q14 q17 e=>q86 (j96 N t vars t22 t21 t28 t29 q33 q68 q70 qa2 j79 jg5 all q89 qg8 qh0 wb0 jf9 q25 q60 q61 q38 qb3 q14 q17 K0) N e) K0 e
theorem u48 (N:Nat)(t:List q23)(vars:List q43)(t21 q33 q68:Int)(q70:List UInt8)(qa2 j79:Int)(jg5:List UInt8)(n_:Nat)(e:Int×List q03×Int×Int×List UInt8×Int):q57 (jf8 N ) n_ ((w37 t vars t21 q33 q68 q70 qa2 j79 jg5) e) ((w51 t vars t21 q33 q68 q70 qa2 j79 jg5) e)=q86 (ze2 N t vars t21 q33 q68 q70 qa2 j79 jg5 ) n_ e :=
 q39 (w37 t vars t21 q33 q68 q70 qa2 j79 jg5) (w51 t vars t21 q33 q68 q70 qa2 j79 jg5) (by
  intro K e
  have h:(jf8 N ) K ((w37 t vars t21 q33 q68 q70 qa2 j79 jg5) e) ((w51 t vars t21 q33 q68 q70 qa2 j79 jg5) e)=zu9 N t vars t21 q33 q68 q70 qa2 j79 jg5 (fun t vars t22 t21 t28 t29 q33 q68 q70 qa2 j79 jg5 all q89 qg8 qh0 wb0 jf9 q25 q60 q61 q38 qb3 q14 q17 e=>q57 (yy9 N K) N (jb5 t vars t22 t21 t28 t29 q33 q68 q70 qa2 j79 jg5 all q89 qg8 qh0 wb0 jf9 q25 q60 q61 q38 qb3 q14 q17 e) (jb9 t vars t22 t21 t28 t29 q33 q68 q70 qa2 j79 jg5 all q89 qg8 qh0 wb0 jf9 q25 q60 q61 q38 qb3 q14 q17 e)) (fun e=>K ((w37 t vars t21 q33 q68 q70 qa2 j79 jg5) e) ((w51 t vars t21 q33 q68 q70 qa2 j79 jg5) e)) e:=by obtain ⟨t22,all,q89,qg8,qh0,wb0⟩:=e; kernel_rfl
  rw [h]
  simp only [ze2,u53] <;> rfl) n_ e
def y28 (N:Nat)(t:List q23)(self:q00)(vars:List q43)(l1:(List q23)→(List q43)→Int→Int→Int→(List UInt8)→Int→Int→(List UInt8)→(Int×List q03×Int×Int×List UInt8×Int)→Option OX3):Option OX3 :=
 bif jw4 40 (t.length:Int) (t.length:Int) then
 l1 t vars (t.length:Int) self.1 self.2.1 self.2.2.1 0 0 [] (0,(List.replicate (t.length:Int).toNat ws5),0,0,[],0)
 else none
def qh4 (N:Nat)(t:List q23)(self:q00)(vars:List q43):Option OX3:=y28 N t self vars (fun t vars t21 q33 q68 q70 qa2 j79 jg5 e=>q86 (ze2 N t vars t21 q33 q68 q70 qa2 j79 jg5) N e)
noncomputable def xp0 (N:Nat)(t:List q23)(self:q00)(vars:List q43):Option (RT [q05,(.int .i64)]):=q22 DR Tryz.prog N (y07 N) qt7 Tryz.f15 (q10 Tryz.f15) (RT [q05,(.int .i64)]) (qd2 [(.list q79),q05,(.list qa4)] (t,self,vars,())) [] (q40 [q05,(.int .i64)])
theorem vr9 (N:Nat)(t:List q23)(self:q00)(vars:List q43):xp0 N t self vars=qh4 N t self vars:=by
 have h:xp0 N t self vars=y28 N t self vars (fun t vars t21 q33 q68 q70 qa2 j79 jg5 e=>q57 (jf8 N ) N (w37 t vars t21 q33 q68 q70 qa2 j79 jg5 e) (w51 t vars t21 q33 q68 q70 qa2 j79 jg5 e)):=by kernel_rfl
 rw [h]
 simp only [qh4,u48] <;> rfl
def v53 (m:(List q23)→q00→(List q43)→Option OX3):Ent:=q35 [(.list q79),q05,(.list qa4)] [q05,(.int .i64)] fun (x:Els [(.list q79),q05,(.list qa4)])=>m x.1 x.2.1 x.2.2.1
def zt6 (N:Nat):Ent:=v53 (qh4 N)
theorem jh6 (N:Nat):q16 Tryz.prog 15 (zt6 N):=q15 (ub6 N) Tryz.func15 rfl (by kernel_rfl) fun (x:Els [(.list q79),q05,(.list qa4)])=>vr9 N x.1 x.2.1 x.2.2.1
def w10_of_H :FH:=⟨[],[],[],[],false,[],[]⟩
noncomputable def kk4 (N:Nat):q48:=tab [(11,yq4 N),(15,zt6 N)]
theorem w10_of_Ts (N:Nat):q13 Tryz.prog (kk4 N):=q06 (yt9 N) <| q06 (jh6 N) <| q27 _
def xq9 (N:Nat)(s:List UInt8):Option OX3 :=
 (z45 N s).bind fun r =>
 (qh4 N r.1 (0,0,[],()) ([([97],(0,0,[],()),())]:List q43)).bind fun r1 =>
 some r1
noncomputable def w10_of_C (N:Nat)(s:List UInt8):Option (RT [q05,(.int .i64)]):=q22 DR Tryz.prog N (kk4 N) w10_of_H Tryz.f32 (q10 Tryz.f32) (RT [q05,(.int .i64)]) (qd2 [.str] (s,())) [] (q40 [q05,(.int .i64)])
theorem ku3 (N:Nat)(s:List UInt8):w10_of_C N s=xq9 N s:=by kernel_rfl
def ka7 (m:(List UInt8)→Option OX3):Ent:=q35 [.str] [q05,(.int .i64)] fun (x:Els [.str])=>m x.1
def vx5 (N:Nat):Ent:=ka7 (xq9 N)
theorem k16 (N:Nat):q16 Tryz.prog 32 (vx5 N):=q15 (w10_of_Ts N) Tryz.func32 rfl (by kernel_rfl) fun (x:Els [.str])=>ku3 N x.1
def k89 :FH:=⟨[],[],[],[],false,[],[]⟩
noncomputable def v52 (N:Nat):q48:=tab [(32,vx5 N)]
theorem uj9 (N:Nat):q13 Tryz.prog (v52 N):=q06 (k16 N) <| q27 _
def qw2 (N:Nat):Option Bool :=
 (xq9 N [49,32,47,32,48,32,61,32,49,32,111,114,32,116,114,117,101]).bind fun r =>
 (xq9 N [116,114,117,101,32,111,114,32,49,32,47,32,48,32,61,32,49]).bind fun r1 =>
 (xq9 N [110,117,108,108,32,97,110,100,32,102,97,108,115,101]).bind fun r2 =>
 (xq9 N [49,32,43,32,110,117,108,108]).bind fun r3 =>
 (xq9 N [63,97,32,61,32,110,117,108,108]).bind fun r4 =>
 (xq9 N [105,102,40,110,117,108,108,44,32,49,44,32,50,41]).bind fun r5 =>
 bif (r.2.1 == 10) then
  bif (r1.2.1 == 0) then
   bif (r2.2.1 == 0) then
    bif (r3.2.1 == 0) then
     bif (r4.2.1 == 0) then
      bif (r5.2.1 == 0) then
       bif (r1.1.2.1 == 1) then
        bif ((r2.1.1 == (4:Int)) && ((r2.1.2.1 == (0:Int)) && ((r2.1.2.2.1 == ([]:List UInt8)) && true))) then
         bif ((r3.1.1 == (0:Int)) && ((r3.1.2.1 == (0:Int)) && ((r3.1.2.2.1 == ([]:List UInt8)) && true))) then
          bif (r4.1.2.1 == 1) then
           some ((r5.1.1 == (0:Int)) && ((r5.1.2.1 == (0:Int)) && ((r5.1.2.2.1 == ([]:List UInt8)) && true)))
          else
           some false
         else
          some false
        else
         some false
       else
        some false
      else
       some false
     else
      some false
    else
     some false
   else
    some false
  else
   some false
 else
  some false
noncomputable def kf4 (N:Nat):Option (RT [.bool]):=q22 DR Tryz.prog N (v52 N) k89 Tryz.f12 (q10 Tryz.f12) (RT [.bool]) (qd2 [] (())) [] (q40 [.bool])
theorem ua1 (N:Nat):kf4 N=qw2 N:=by kernel_rfl
def vt7 (m:Option Bool):Ent:=q35 [] [.bool] fun (x:Els [])=>m 
def yz6 (N:Nat):Ent:=vt7 (qw2 N)
theorem vc5 (N:Nat):q16 Tryz.prog 12 (yz6 N):=q15 (uj9 N) Tryz.func12 rfl (by kernel_rfl) fun (x:Els [])=>ua1 N 
def t_S56 :Ty:=.st [.str,q05,(.int .i64)]
abbrev u31 :Type:=(List UInt8)×q00×Int×Unit
def ko8 :u31:=([],q29,0,())
def yh9 :LH:=⟨[(0,.str),(1,.str),(3,.lst qa4),(6,.asis),(47,.int .i64),(48,.int .i64)],[],[.cells [.int .u8,.int .i64,.str]]⟩
def yh7 :LH:=⟨[(3,.lst qa4),(6,.asis),(118,.lst t_S56),(119,.int .i64),(120,.int .i64)],[],[.cells [.int .u8,.int .i64,.str],.cells [.int .i64,.int .i64],.cells [.int .i64,.int .i64],.cells [.int .u8,.int .i64,.str],.cells [.int .u8,.int .i64,.str]]⟩
def w34 :FH:=⟨[yh9,yh7],[],[],[],false,[],[]⟩
noncomputable def jb3 (N:Nat):q48:=tab [(12,yz6 N),(11,yq4 N),(15,zt6 N)]
theorem vn7 (N:Nat):q13 Tryz.prog (jb3 N):=q06 (vc5 N) <| q06 (yt9 N) <| q06 (jh6 N) <| q27 _
noncomputable def wt3 :Sc:=wl6 Tryz.prog w34
noncomputable def wt4 (N:Nat):Cfg:=⟨N,jb3 N,0⟩
noncomputable def jr2 (N:Nat):Exit→List TV→List TOb→Option Bool:=fin Tryz.prog 0 Tryz.f6.results.toList (q40 [.bool])
def wa0 (s t:List UInt8)(vars:List q43)(t47 q33 q68:Int)(q70:List UInt8)(e:Int):List TV:=match e with
 | t48=>frm 152 [(0,.str s),(1,.str t),(3,.tl qa4 vars .unk),(6,.ref 0 0),(47,.int .i64 t47),(48,.int .i64 t48)]
def wa5 (s t:List UInt8)(vars:List q43)(t47 q33 q68:Int)(q70:List UInt8)(e:Int):List TOb:=match e with
 | t48=>[.cells [.int .u8 q33,.int .i64 q68,.str q70] 26 true]
def zu2 (vars:List q43)(t118:List u31)(t119 q33 q68:Int)(q70:List UInt8)(q81 qb1 wl3 zq2 wj7 kh5:Int)(kn7:List UInt8)(wj1 kh4:Int)(kl9:List UInt8)(e:Int):List TV:=match e with
 | t120=>frm 152 [(3,.tl qa4 vars .unk),(6,.ref 0 0),(118,.tl t_S56 t118 .unk),(119,.int .i64 t119),(120,.int .i64 t120)]
def zv6 (vars:List q43)(t118:List u31)(t119 q33 q68:Int)(q70:List UInt8)(q81 qb1 wl3 zq2 wj7 kh5:Int)(kn7:List UInt8)(wj1 kh4:Int)(kl9:List UInt8)(e:Int):List TOb:=match e with
 | t120=>[.cells [.int .u8 q33,.int .i64 q68,.str q70] 26 true,.cells [.int .i64 q81,.int .i64 qb1] 31 true,.cells [.int .i64 wl3,.int .i64 zq2] 31 true,.cells [.int .u8 wj7,.int .i64 kh5,.str kn7] 26 true,.cells [.int .u8 wj1,.int .i64 kh4,.str kl9] 26 true]
noncomputable def yh3 (N:Nat):(List TV→List TOb→Option Bool)→List TV→List TOb→Option Bool:=w54 DR wt3 (wt4 N) (ql6 (qc4 (q08 (q87 (q08 (q08 (q08 (q08 (q08 (q08 (q08 (q08 (q08 (q10 Tryz.f6)))))))))))))) yh7 (w34.loops.drop 2) (qk0 2 (qc3 DR wt3 (wt4 N) (q08 (q08 (q08 (q08 (q08 (q08 (q08 (q08 (q08 (q08 (q10 Tryz.f6))))))))))) (w34.loops.drop 2) (jr2 N)))
def zt8 (N:Nat)(vars:List q43)(t118:List u31)(t119 q33 q68:Int)(q70:List UInt8)(q81 qb1 wl3 zq2 wj7 kh5:Int)(kn7:List UInt8)(wj1 kh4:Int)(kl9:List UInt8)(K1:Int→Option Bool)(e:Int):Option Bool :=
 match e with
 | t120 =>
  bif decide (t120 < t119) then
   bif inR t120 t118.length then
   (z45 N ((q24 t118 t120 ko8).1)).bind fun r11 =>
   bif (r11.2.2.1 != 0) then
    bif q26 (t120 + 1) then
    K1 (t120 + 1)
    else none
   else
    (qh4 N r11.1 (q33,q68,q70,()) vars).bind fun r12 =>
    bif (!((r12.1.1 == (((q24 t118 t120 ko8).2.1).1)) && ((r12.1.2.1 == (((q24 t118 t120 ko8).2.1).2.1)) && ((r12.1.2.2.1 == (((q24 t118 t120 ko8).2.1).2.2.1)) && true)))) then
     some false
    else
     bif (r12.2.1 != ((q24 t118 t120 ko8).2.2.1)) then
      some false
     else
      bif q26 (t120 + 1) then
      K1 (t120 + 1)
      else none
   else none
  else
   (qw2 N).bind fun r13 =>
   some r13
theorem vq3 (N:Nat)(vars:List q43)(t118:List u31)(t119 q33 q68:Int)(q70:List UInt8)(q81 qb1 wl3 zq2 wj7 kh5:Int)(kn7:List UInt8)(wj1 kh4:Int)(kl9:List UInt8)(n_:Nat)(e:Int):q57 (yh3 N ) n_ ((zu2 vars t118 t119 q33 q68 q70 q81 qb1 wl3 zq2 wj7 kh5 kn7 wj1 kh4 kl9) e) ((zv6 vars t118 t119 q33 q68 q70 q81 qb1 wl3 zq2 wj7 kh5 kn7 wj1 kh4 kl9) e)=q86 (zt8 N vars t118 t119 q33 q68 q70 q81 qb1 wl3 zq2 wj7 kh5 kn7 wj1 kh4 kl9 ) n_ e :=
 q39 (zu2 vars t118 t119 q33 q68 q70 q81 qb1 wl3 zq2 wj7 kh5 kn7 wj1 kh4 kl9) (zv6 vars t118 t119 q33 q68 q70 q81 qb1 wl3 zq2 wj7 kh5 kn7 wj1 kh4 kl9) (by intro K e; kernel_rfl) n_ e
noncomputable def zv8 (N:Nat):(List TV→List TOb→Option Bool)→List TV→List TOb→Option Bool:=w54 DR wt3 (wt4 N) (ql6 (qc4 (q08 (q87 (q08 (q08 (q10 Tryz.f6))))))) yh9 (w34.loops.drop 1) (qk0 0 (qc3 DR wt3 (wt4 N) (q08 (q08 (q08 (q10 Tryz.f6)))) (w34.loops.drop 1) (jr2 N)))
def zh9 (N:Nat)(s t:List UInt8)(vars:List q43)(t47 q33 q68:Int)(q70:List UInt8)(l2:(List q43)→(List u31)→Int→Int→Int→(List UInt8)→Int→Int→Int→Int→Int→Int→(List UInt8)→Int→Int→(List UInt8)→Int→Option Bool)(K0:Int→Option Bool)(e:Int):Option Bool :=
 match e with
 | t48 =>
  bif decide (t48 < t47) then
   bif inR t48 vars.length then
   bif decide (((((q24 vars t48 v17).2.1).2.2.1).length:Int) > 300) then
    (qw2 N).bind fun r4 =>
    some r4
   else
    bif q26 (t48 + 1) then
    K0 (t48 + 1)
    else none
   else none
  else
   (z45 N s).bind fun r5 =>
   (z45 N t).bind fun r6 =>
   bif (r5.2.2.1 != 0) then
    (qw2 N).bind fun r7 =>
    some r7
   else
    bif (r6.2.2.1 != 0) then
     (qw2 N).bind fun r8 =>
     some r8
    else
     (qh4 N r5.1 (q33,q68,q70,()) vars).bind fun r9 =>
     (qh4 N r6.1 (q33,q68,q70,()) vars).bind fun r10 =>
     bif qt8 ([44,32,40]:List UInt8) s then
     bif qt8 (([44,32,40]:List UInt8) ++ s) ([10,41,44,32,40]:List UInt8) then
     bif qt8 ((([44,32,40]:List UInt8) ++ s) ++ ([10,41,44,32,40]:List UInt8)) t then
     bif qt8 (((([44,32,40]:List UInt8) ++ s) ++ ([10,41,44,32,40]:List UInt8)) ++ t) ([10,41,41]:List UInt8) then
     bif qt8 ([105,102,40,116,114,117,101]:List UInt8) ((((([44,32,40]:List UInt8) ++ s) ++ ([10,41,44,32,40]:List UInt8)) ++ t) ++ ([10,41,41]:List UInt8)) then
     bif qt8 ([105,102,40,102,97,108,115,101]:List UInt8) ((((([44,32,40]:List UInt8) ++ s) ++ ([10,41,44,32,40]:List UInt8)) ++ t) ++ ([10,41,41]:List UInt8)) then
     bif qt8 ([105,102,40,110,117,108,108]:List UInt8) ((((([44,32,40]:List UInt8) ++ s) ++ ([10,41,44,32,40]:List UInt8)) ++ t) ++ ([10,41,41]:List UInt8)) then
     bif qt8 ([105,102,40,49]:List UInt8) ((((([44,32,40]:List UInt8) ++ s) ++ ([10,41,44,32,40]:List UInt8)) ++ t) ++ ([10,41,41]:List UInt8)) then
     l2 vars ([((([105,102,40,116,114,117,101]:List UInt8) ++ ((((([44,32,40]:List UInt8) ++ s) ++ ([10,41,44,32,40]:List UInt8)) ++ t) ++ ([10,41,41]:List UInt8))),r9.1,r9.2.1,()),((([105,102,40,102,97,108,115,101]:List UInt8) ++ ((((([44,32,40]:List UInt8) ++ s) ++ ([10,41,44,32,40]:List UInt8)) ++ t) ++ ([10,41,41]:List UInt8))),r10.1,r10.2.1,()),((([105,102,40,110,117,108,108]:List UInt8) ++ ((((([44,32,40]:List UInt8) ++ s) ++ ([10,41,44,32,40]:List UInt8)) ++ t) ++ ([10,41,41]:List UInt8))),(0,0,[],()),0,()),((([105,102,40,49]:List UInt8) ++ ((((([44,32,40]:List UInt8) ++ s) ++ ([10,41,44,32,40]:List UInt8)) ++ t) ++ ([10,41,41]:List UInt8))),(0,0,[],()),8,())]:List u31) (([((([105,102,40,116,114,117,101]:List UInt8) ++ ((((([44,32,40]:List UInt8) ++ s) ++ ([10,41,44,32,40]:List UInt8)) ++ t) ++ ([10,41,41]:List UInt8))),r9.1,r9.2.1,()),((([105,102,40,102,97,108,115,101]:List UInt8) ++ ((((([44,32,40]:List UInt8) ++ s) ++ ([10,41,44,32,40]:List UInt8)) ++ t) ++ ([10,41,41]:List UInt8))),r10.1,r10.2.1,()),((([105,102,40,110,117,108,108]:List UInt8) ++ ((((([44,32,40]:List UInt8) ++ s) ++ ([10,41,44,32,40]:List UInt8)) ++ t) ++ ([10,41,41]:List UInt8))),(0,0,[],()),0,()),((([105,102,40,49]:List UInt8) ++ ((((([44,32,40]:List UInt8) ++ s) ++ ([10,41,44,32,40]:List UInt8)) ++ t) ++ ([10,41,41]:List UInt8))),(0,0,[],()),8,())]:List u31).length:Int) q33 q68 q70 r5.2.1.1 r5.2.1.2.1 r6.2.1.1 r6.2.1.2.1 r9.1.1 r9.1.2.1 r9.1.2.2.1 r10.1.1 r10.1.2.1 r10.1.2.2.1 0
     else none
     else none
     else none
     else none
     else none
     else none
     else none
     else none
def ws4 (N:Nat)(s t:List UInt8)(vars:List q43)(t47 q33 q68:Int)(q70:List UInt8)(K0:Int→Option Bool)(e:Int):Option Bool:=zh9 N s t vars t47 q33 q68 q70 (fun vars t118 t119 q33 q68 q70 q81 qb1 wl3 zq2 wj7 kh5 kn7 wj1 kh4 kl9 e=>q86 (zt8 N vars t118 t119 q33 q68 q70 q81 qb1 wl3 zq2 wj7 kh5 kn7 wj1 kh4 kl9) N e) K0 e
theorem vq7 (N:Nat)(s t:List UInt8)(vars:List q43)(t47 q33 q68:Int)(q70:List UInt8)(n_:Nat)(e:Int):q57 (zv8 N ) n_ ((wa0 s t vars t47 q33 q68 q70) e) ((wa5 s t vars t47 q33 q68 q70) e)=q86 (ws4 N s t vars t47 q33 q68 q70 ) n_ e :=
 q39 (wa0 s t vars t47 q33 q68 q70) (wa5 s t vars t47 q33 q68 q70) (by
  intro K e
  have h:(zv8 N ) K ((wa0 s t vars t47 q33 q68 q70) e) ((wa5 s t vars t47 q33 q68 q70) e)=zh9 N s t vars t47 q33 q68 q70 (fun vars t118 t119 q33 q68 q70 q81 qb1 wl3 zq2 wj7 kh5 kn7 wj1 kh4 kl9 e=>q57 (yh3 N ) N (zu2 vars t118 t119 q33 q68 q70 q81 qb1 wl3 zq2 wj7 kh5 kn7 wj1 kh4 kl9 e) (zv6 vars t118 t119 q33 q68 q70 q81 qb1 wl3 zq2 wj7 kh5 kn7 wj1 kh4 kl9 e)) (fun e=>K ((wa0 s t vars t47 q33 q68 q70) e) ((wa5 s t vars t47 q33 q68 q70) e)) e:=by kernel_rfl
  rw [h]
  simp only [ws4,vq3] <;> rfl) n_ e
def j71 (N:Nat)(s t:List UInt8)(self:q00)(vars:List q43)(l1:(List UInt8)→(List UInt8)→(List q43)→Int→Int→Int→(List UInt8)→Int→Option Bool):Option Bool :=
 bif decide ((s.length:Int) > 200) then
  (qw2 N).bind fun r =>
  some r
 else
  bif decide ((t.length:Int) > 200) then
   (qw2 N).bind fun r1 =>
   some r1
  else
   bif decide ((vars.length:Int) > 40) then
    (qw2 N).bind fun r2 =>
    some r2
   else
    bif decide ((self.2.2.1.length:Int) > 300) then
     (qw2 N).bind fun r3 =>
     some r3
    else
     l1 s t vars (vars.length:Int) self.1 self.2.1 self.2.2.1 0
def wc3 (N:Nat)(s t:List UInt8)(self:q00)(vars:List q43):Option Bool:=j71 N s t self vars (fun s t vars t47 q33 q68 q70 e=>q86 (ws4 N s t vars t47 q33 q68 q70) N e)
noncomputable def yu8 (N:Nat)(s t:List UInt8)(self:q00)(vars:List q43):Option (RT [.bool]):=q22 DR Tryz.prog N (jb3 N) w34 Tryz.f6 (q10 Tryz.f6) (RT [.bool]) (qd2 [.str,.str,q05,(.list qa4)] (s,t,self,vars,())) [] (q40 [.bool])
theorem v51 (N:Nat)(s t:List UInt8)(self:q00)(vars:List q43):yu8 N s t self vars=wc3 N s t self vars:=by
 have h:yu8 N s t self vars=j71 N s t self vars (fun s t vars t47 q33 q68 q70 e=>q57 (zv8 N ) N (wa0 s t vars t47 q33 q68 q70 e) (wa5 s t vars t47 q33 q68 q70 e)):=by kernel_rfl
 rw [h]
 simp only [wc3,vq7] <;> rfl
def xt7 (m:(List UInt8)→(List UInt8)→q00→(List q43)→Option Bool):Ent:=q35 [.str,.str,q05,(.list qa4)] [.bool] fun (x:Els [.str,.str,q05,(.list qa4)])=>m x.1 x.2.1 x.2.2.1 x.2.2.2.1
def vi2 (N:Nat):Ent:=xt7 (wc3 N)
theorem xj6 (N:Nat):q16 Tryz.prog 6 (vi2 N):=q15 (vn7 N) Tryz.func6 rfl (by kernel_rfl) fun (x:Els [.str,.str,q05,(.list qa4)])=>v51 N x.1 x.2.1 x.2.2.1 x.2.2.2.1
end Go.Proofs.YtgicljncknbgcaaGreat.Abs
