/- The functions of the program, told on typed values, printed by a program: each tells what the reckoning of its body tells. -/
import Derived.Test.YtgicljncknbgcaaGreatL7
import Derived.Test.YtgicljncknbgcaaGreatG5
import Derived.Test.YtgicljncknbgcaaGreatLA
import Derived.Test.YtgicljncknbgcaaGreatProg
set_option linter.unusedVariables false
set_option linter.unusedSimpArgs false
set_option linter.unusedSectionVars false
namespace Go.Proofs.YtgicljncknbgcaaGreat.Abs
set_option maxRecDepth 100000
open Go Go.Proofs
def q3c :FH:=⟨[],[],[],[],false,[],[]⟩
noncomputable def u40 (N:Nat):q46:=tab [(164,va2 N)]
theorem ks2 (N:Nat):q13 Tryz.prog (u40 N):=q06 (ue6 N)<|q25 _
def je5 (N:Nat)(a b:q00):Option OX3:=(k74 N a b).bind fun r=>some r
noncomputable def q3b (N:Nat)(a b:q00):Option (RT [q05,(.int .i64)]):=q20 DR Tryz.prog N (u40 N) q3c Tryz.f95 (q31 Tryz.f95) (RT [q05,(.int .i64)]) (qb7 [q05,q05] (a,b,())) [] (q38 [q05,(.int .i64)])
theorem k55 (N:Nat)(a b:q00):q3b N a b=je5 N a b:=by kernel_rfl
def uc8 (m:q00→q00→Option OX3):Ent:=q29 [q05,q05] [q05,(.int .i64)] fun (x:Els [q05,q05])=>m x.1 x.2.1
def xj0 (N:Nat):Ent:=uc8 (je5 N)
theorem u41 (N:Nat):q16 Tryz.prog 95 (xj0 N):=q10 (ks2 N) Tryz.func95 rfl (by kernel_rfl) fun (x:Els [q05,q05])=>k55 N x.1 x.2.1
def kx4 :FH:=⟨[],[],[],[],false,[],[]⟩
noncomputable def vn1 (N:Nat):q46:=tab []
theorem kd0 (N:Nat):q13 Tryz.prog (vn1 N):=q25 _
def qc7 (N:Nat)(v:q00)(e_:Int):Option q03:=bif (e_ != 0) then some ((0,0,[],()),e_,()) else some (v,0,())
noncomputable def kx3 (N:Nat)(v:q00)(e_:Int):Option (RT [q08]):=q20 DR Tryz.prog N (vn1 N) kx4 Tryz.f101 (q31 Tryz.f101) (RT [q08]) (qb7 [q05,(.int .i64)] (v,e_,())) [] (q38 [q08])
theorem uu8 (N:Nat)(v:q00)(e_:Int):kx3 N v e_=qc7 N v e_:=by kernel_rfl
def u99 (m:q00→Int→Option q03):Ent:=q29 [q05,(.int .i64)] [q08] fun (x:Els [q05,(.int .i64)])=>m x.1 x.2.1
def qh6 (N:Nat):Ent:=u99 (qc7 N)
theorem qe0 (N:Nat):q16 Tryz.prog 101 (qh6 N):=q10 (kd0 N) Tryz.func101 rfl (by kernel_rfl) fun (x:Els [q05,(.int .i64)])=>uu8 N x.1 x.2.1
noncomputable def zs8 (N:Nat):q46:=tab [(95,xj0 N),(101,qh6 N)]
theorem yq3 (N:Nat):q13 Tryz.prog (zs8 N):=q06 (u41 N)<|q06 (qe0 N)<|q25 _
noncomputable def z67 (N:Nat):Ent:=zt4 Tryz.prog N (zs8 N) ⟨[],[],[(1,⟨10,15,0,[],[]⟩)],[],false,[],[]⟩ Tryz.f163 (q31 Tryz.f163)
theorem jl2 (N:Nat):q16 Tryz.prog 163 (z67 N):=qc4 (yq3 N) Tryz.func163 rfl (by kernel_rfl)
def zi8 :LH:=⟨[(2,.asis),(3,.asis),(6,.asis),(7,.own q05 507 26 3),(10,.int .i64),(11,.int .i64)],[],[.cells [.lst q08,.lst .bool],.cells [.int .u8,.int .i64,.str,.int .i64]]⟩
def qx3 :FH:=⟨[zi8],[],[],[],false,[],[]⟩
noncomputable def wh7 (N:Nat):q46:=tab [(153,q58 N),(163,z67 N)]
theorem yo9 (N:Nat):q13 Tryz.prog (wh7 N):=q06 (q53 N)<|q06 (jl2 N)<|q25 _
noncomputable def zj2 :Sc:=w89 Tryz.prog qx3
noncomputable def zj0 (N:Nat):Cfg:=⟨N,wh7 N,0⟩
noncomputable def y62 (N:Nat):Exit→KT q03:=fin Tryz.prog 0 Tryz.f99.results.toList (q38 [q08])
def wc3 (n:Int)(k_l:List q03)(q09:List Bool)(q04 q21:Int)(q22:List UInt8)(q66:Int)(e:List q00×Int):List TV:=match e with|(l,t11)=>frm 30 [(2,.func (.func 163) [.ep [.func (.func 95) []] 0]),(3,.ref 0 0),(6,.ref 1 0),(7,.tl q05 l (.own 507 26 3)),(10,.int .i64 n),(11,.int .i64 t11)]
def wc4 (n:Int)(k_l:List q03)(q09:List Bool)(q04 q21:Int)(q22:List UInt8)(q66:Int)(e:List q00×Int):List TOb:=match e with|(l,t11)=>[.cells [.tl q08 k_l .unk,.tl .bool q09 .unk] 118 true,.cells [.int .u8 q04,.int .i64 q21,.str q22,.int .i64 q66] 115 true]
noncomputable def zi9 (N:Nat):(KT q03)→KT q03:=qy2 DR zj2 (zj0 N) (nv [5,4,1,0,1,1] Tryz.f99) zi8 (qx3.loops.drop 1) (qd6 0 (qa6 DR zj2 (zj0 N) (nv [1,1,1] Tryz.f99) (qx3.loops.drop 1) (y62 N)))
def wc2 (N:Nat)(n:Int)(k_l:List q03)(q09:List Bool)(q04 q21:Int)(q22:List UInt8)(q66:Int)(K0:(List q00×Int)→Option q03)(e:List q00×Int):Option q03:=match e with|(l,t11)=>bif decide (t11<n) then (q65 N (k_l,q09,()) t11).bind fun r=>bif (r.2.1 != 0) then some r else bif qr1 (l.length+([r.1]:List q00).length) 4398046511104 then bif q24 (t11+1) then K0 ((l++([r.1]:List q00)),t11+1) else none else none else bif inR 0 l.length then bif inR 1 l.length then (je5 N (q17 l 0 q26) (q17 l 1 q26)).bind fun r1=>(qc7 N r1.1 r1.2.1).bind fun r2=>some r2 else none else none
theorem yp1 (N:Nat)(n:Int)(k_l:List q03)(q09:List Bool)(q04 q21:Int)(q22:List UInt8)(q66:Int)(n_:Nat)(e:List q00×Int):q55 (zi9 N ) n_ ((wc3 n k_l q09 q04 q21 q22 q66) e) ((wc4 n k_l q09 q04 q21 q22 q66) e)=q80 (wc2 N n k_l q09 q04 q21 q22 q66 ) n_ e :=
 q36 (wc3 n k_l q09 q04 q21 q22 q66) (wc4 n k_l q09 q04 q21 q22 q66) (by intro K e;obtain⟨l,t11⟩:=e;kernel_rfl) n_ e
def zr9 (N:Nat)(k:q35)(n:Int)(l1:Int→(List q03)→(List Bool)→Int→Int→(List UInt8)→Int→(List q00×Int)→Option q03):Option q03:=l1 n k.1 k.2.1 0 0 [] 0 ([],0)
def qu2 (N:Nat)(k:q35)(n:Int):Option q03:=zr9 N k n (fun n k_l q09 q04 q21 q22 q66 e=>q80 (wc2 N n k_l q09 q04 q21 q22 q66) N e)
abbrev zj1 :List PK:=[.val q69,.val (.int .i64),.fn 163 1,.ep 1,.fn 95 0]
noncomputable def zr8 (N:Nat)(k:q35)(n:Int):Option (RT [q08]):=q20 DR Tryz.prog N (wh7 N) qx3 Tryz.f99 (q31 Tryz.f99) (RT [q08]) (w01 zj1 (k,n,())) [] (q38 [q08])
theorem y63 (N:Nat)(k:q35)(n:Int):zr8 N k n=qu2 N k n:=by
 have h:zr8 N k n=zr9 N k n (fun n k_l q09 q04 q21 q22 q66 e=>q55 (zi9 N ) N (wc3 n k_l q09 q04 q21 q22 q66 e) (wc4 n k_l q09 q04 q21 q22 q66 e)):=by kernel_rfl
 rw[h]
 simp only[qu2,yp1]<;>rfl
def jw8 (m:q35→Int→Option q03):Ent:=qf5 zj1 [q08] fun (x:Els [q69,(.int .i64)])=>m x.1 x.2.1
def z57 (N:Nat):Ent:=jw8 (qu2 N)
theorem jj9 (N:Nat):q16 Tryz.prog 99 (z57 N):=q57 (yo9 N) Tryz.func99 rfl (by kernel_rfl) (by kernel_rfl) fun (x:Els [q69,(.int .i64)])=>y63 N x.1 x.2.1
def num_Sub_H :FH:=⟨[],[],[],[],true,[],[]⟩
noncomputable def kg5 (N:Nat):q46:=tab []
theorem q8y (N:Nat):q13 Tryz.prog (kg5 N):=q25 _
def ya6 (N:Nat)(a b:Int):Option (Int×Int×Unit):=bif (!((decide (a<0))==(decide (b<0)))) then bif (!((decide ((IntKind.i64.wrap (a-b))<0))==(decide (a<0)))) then some (0,9,()) else some ((IntKind.i64.wrap (a-b)),0,()) else some ((IntKind.i64.wrap (a-b)),0,())
noncomputable def num_Sub_C (N:Nat)(a b:Int):Option (RT [(.int .i64),(.int .i64)]):=q20 DR Tryz.prog N (kg5 N) num_Sub_H Tryz.f166 (q31 Tryz.f166) (RT [(.int .i64),(.int .i64)]) (qb7 [(.int .i64),(.int .i64)] (a,b,())) [] (q38 [(.int .i64),(.int .i64)])
theorem kz2 (N:Nat)(a b:Int):num_Sub_C N a b=ya6 N a b:=by kernel_rfl
def kg6 (m:Int→Int→Option (Int×Int×Unit)):Ent:=q29 [(.int .i64),(.int .i64)] [(.int .i64),(.int .i64)] fun (x:Els [(.int .i64),(.int .i64)])=>m x.1 x.2.1
def vq9 (N:Nat):Ent:=kg6 (ya6 N)
theorem ux0 (N:Nat):q16 Tryz.prog 166 (vq9 N):=q10 (q8y N) Tryz.func166 rfl (by kernel_rfl) fun (x:Els [(.int .i64),(.int .i64)])=>kz2 N x.1 x.2.1
def k77 :FH:=⟨[],[],[(8,⟨16,54,0,[],[]⟩)],[],false,[],[]⟩
noncomputable def xk1 (N:Nat):q46:=tab [(217,qv8 N),(166,vq9 N),(218,qz4 N)]
theorem ue7 (N:Nat):q13 Tryz.prog (xk1 N):=q06 (qv9 N)<|q06 (ux0 N)<|q06 (w17 N)<|q25 _
def x56 (N:Nat)(a b:q00):Option OX3:=(q98 N ([a,b]:List q00)).bind fun r=>bif r.2.1 then some ((0,0,[],()),r.2.2.1,()) else bif (r.2.2.1 != 0) then some ((0,0,[],()),r.2.2.1,()) else bif inR 0 r.1.length then bif (((q17 r.1 0 q26).1)==2) then bif inR 0 r.1.length then bif inR 1 r.1.length then (ya6 N ((q17 r.1 0 q26).2.1) ((q17 r.1 1 q26).2.1)).bind fun r1=>bif (r1.2.1 != 0) then some ((0,0,[],()),r1.2.1,()) else bif inR 0 r.1.length then some (((q17 r.1 0 q26).1,r1.1,[],()),0,()) else none else none else none else bif inR 0 r.1.length then bif inR 1 r.1.length then (ya6 N ((q17 r.1 0 q26).2.1) ((q17 r.1 1 q26).2.1)).bind fun r2=>bif (r2.2.1 != 0) then some ((0,0,[],()),r2.2.1,()) else bif inR 0 r.1.length then some (((q17 r.1 0 q26).1,r2.1,[],()),0,()) else none else none else none else none
abbrev yt9 :List PK:=[.val q05,.val q05,.fn 166 0,.fn 166 0]
noncomputable def k76 (N:Nat)(a b:q00):Option (RT [q05,(.int .i64)]):=q20 DR Tryz.prog N (xk1 N) k77 Tryz.f164 (q31 Tryz.f164) (RT [q05,(.int .i64)]) (w01 yt9 (a,b,())) [] (q38 [q05,(.int .i64)])
theorem u63 (N:Nat)(a b:q00):k76 N a b=x56 N a b:=by kernel_rfl
def ve8 (m:q00→q00→Option OX3):Ent:=qf5 yt9 [q05,(.int .i64)] fun (x:Els [q05,q05])=>m x.1 x.2.1
def yg6 (N:Nat):Ent:=ve8 (x56 N)
theorem v03 (N:Nat):q16 Tryz.prog 164 (yg6 N):=q57 (ue7 N) Tryz.func164 rfl (by kernel_rfl) (by kernel_rfl) fun (x:Els [q05,q05])=>u63 N x.1 x.2.1
def q3o :FH:=⟨[],[],[],[],false,[],[]⟩
noncomputable def u56 (N:Nat):q46:=tab [(164,yg6 N)]
theorem kt8 (N:Nat):q13 Tryz.prog (u56 N):=q06 (v03 N)<|q25 _
def zw1 (N:Nat)(a b:q00):Option OX3:=(x56 N a b).bind fun r=>some r
noncomputable def q3n (N:Nat)(a b:q00):Option (RT [q05,(.int .i64)]):=q20 DR Tryz.prog N (u56 N) q3o Tryz.f96 (q31 Tryz.f96) (RT [q05,(.int .i64)]) (qb7 [q05,q05] (a,b,())) [] (q38 [q05,(.int .i64)])
theorem k70 (N:Nat)(a b:q00):q3n N a b=zw1 N a b:=by kernel_rfl
def ue0 (m:q00→q00→Option OX3):Ent:=q29 [q05,q05] [q05,(.int .i64)] fun (x:Els [q05,q05])=>m x.1 x.2.1
def jp8 (N:Nat):Ent:=ue0 (zw1 N)
theorem yg4 (N:Nat):q16 Tryz.prog 96 (jp8 N):=q10 (kt8 N) Tryz.func96 rfl (by kernel_rfl) fun (x:Els [q05,q05])=>k70 N x.1 x.2.1
noncomputable def zk6 (N:Nat):q46:=tab [(96,jp8 N),(101,qh6 N)]
theorem y78 (N:Nat):q13 Tryz.prog (zk6 N):=q06 (yg4 N)<|q06 (qe0 N)<|q25 _
noncomputable def wt4 (N:Nat):Ent:=zt4 Tryz.prog N (zk6 N) ⟨[],[],[(1,⟨10,15,0,[],[]⟩)],[],false,[],[]⟩ Tryz.f163 (q31 Tryz.f163)
theorem j84 (N:Nat):q16 Tryz.prog 163 (wt4 N):=qc4 (y78 N) Tryz.func163 rfl (by kernel_rfl)
def zj3 :LH:=⟨[(2,.asis),(3,.asis),(6,.asis),(7,.own q05 507 26 3),(10,.int .i64),(11,.int .i64)],[],[.cells [.lst q08,.lst .bool],.cells [.int .u8,.int .i64,.str,.int .i64]]⟩
def qx4 :FH:=⟨[zj3],[],[],[],false,[],[]⟩
noncomputable def wh9 (N:Nat):q46:=tab [(153,q58 N),(163,wt4 N)]
theorem yp2 (N:Nat):q13 Tryz.prog (wh9 N):=q06 (q53 N)<|q06 (j84 N)<|q25 _
noncomputable def zj7 :Sc:=w89 Tryz.prog qx4
noncomputable def zj5 (N:Nat):Cfg:=⟨N,wh9 N,0⟩
noncomputable def y64 (N:Nat):Exit→KT q03:=fin Tryz.prog 0 Tryz.f99.results.toList (q38 [q08])
def wc6 (n:Int)(k_l:List q03)(q09:List Bool)(q04 q21:Int)(q22:List UInt8)(q66:Int)(e:List q00×Int):List TV:=match e with|(l,t11)=>frm 30 [(2,.func (.func 163) [.ep [.func (.func 96) []] 0]),(3,.ref 0 0),(6,.ref 1 0),(7,.tl q05 l (.own 507 26 3)),(10,.int .i64 n),(11,.int .i64 t11)]
def wc7 (n:Int)(k_l:List q03)(q09:List Bool)(q04 q21:Int)(q22:List UInt8)(q66:Int)(e:List q00×Int):List TOb:=match e with|(l,t11)=>[.cells [.tl q08 k_l .unk,.tl .bool q09 .unk] 118 true,.cells [.int .u8 q04,.int .i64 q21,.str q22,.int .i64 q66] 115 true]
noncomputable def zj4 (N:Nat):(KT q03)→KT q03:=qy2 DR zj7 (zj5 N) (nv [5,4,1,0,1,1] Tryz.f99) zj3 (qx4.loops.drop 1) (qd6 0 (qa6 DR zj7 (zj5 N) (nv [1,1,1] Tryz.f99) (qx4.loops.drop 1) (y64 N)))
def wc5 (N:Nat)(n:Int)(k_l:List q03)(q09:List Bool)(q04 q21:Int)(q22:List UInt8)(q66:Int)(K0:(List q00×Int)→Option q03)(e:List q00×Int):Option q03:=match e with|(l,t11)=>bif decide (t11<n) then (q65 N (k_l,q09,()) t11).bind fun r=>bif (r.2.1 != 0) then some r else bif qr1 (l.length+([r.1]:List q00).length) 4398046511104 then bif q24 (t11+1) then K0 ((l++([r.1]:List q00)),t11+1) else none else none else bif inR 0 l.length then bif inR 1 l.length then (zw1 N (q17 l 0 q26) (q17 l 1 q26)).bind fun r1=>(qc7 N r1.1 r1.2.1).bind fun r2=>some r2 else none else none
theorem yp4 (N:Nat)(n:Int)(k_l:List q03)(q09:List Bool)(q04 q21:Int)(q22:List UInt8)(q66:Int)(n_:Nat)(e:List q00×Int):q55 (zj4 N ) n_ ((wc6 n k_l q09 q04 q21 q22 q66) e) ((wc7 n k_l q09 q04 q21 q22 q66) e)=q80 (wc5 N n k_l q09 q04 q21 q22 q66 ) n_ e :=
 q36 (wc6 n k_l q09 q04 q21 q22 q66) (wc7 n k_l q09 q04 q21 q22 q66) (by intro K e;obtain⟨l,t11⟩:=e;kernel_rfl) n_ e
def zs1 (N:Nat)(k:q35)(n:Int)(l1:Int→(List q03)→(List Bool)→Int→Int→(List UInt8)→Int→(List q00×Int)→Option q03):Option q03:=l1 n k.1 k.2.1 0 0 [] 0 ([],0)
def qu3 (N:Nat)(k:q35)(n:Int):Option q03:=zs1 N k n (fun n k_l q09 q04 q21 q22 q66 e=>q80 (wc5 N n k_l q09 q04 q21 q22 q66) N e)
abbrev zj6 :List PK:=[.val q69,.val (.int .i64),.fn 163 1,.ep 1,.fn 96 0]
noncomputable def zs0 (N:Nat)(k:q35)(n:Int):Option (RT [q08]):=q20 DR Tryz.prog N (wh9 N) qx4 Tryz.f99 (q31 Tryz.f99) (RT [q08]) (w01 zj6 (k,n,())) [] (q38 [q08])
theorem y65 (N:Nat)(k:q35)(n:Int):zs0 N k n=qu3 N k n:=by
 have h:zs0 N k n=zs1 N k n (fun n k_l q09 q04 q21 q22 q66 e=>q55 (zj4 N ) N (wc6 n k_l q09 q04 q21 q22 q66 e) (wc7 n k_l q09 q04 q21 q22 q66 e)):=by kernel_rfl
 rw[h]
 simp only[qu3,yp4]<;>rfl
def jw9 (m:q35→Int→Option q03):Ent:=qf5 zj6 [q08] fun (x:Els [q69,(.int .i64)])=>m x.1 x.2.1
def z58 (N:Nat):Ent:=jw9 (qu3 N)
theorem jk0 (N:Nat):q16 Tryz.prog 99 (z58 N):=q57 (yp2 N) Tryz.func99 rfl (by kernel_rfl) (by kernel_rfl) fun (x:Els [q69,(.int .i64)])=>y65 N x.1 x.2.1
def ka7 :FH:=⟨[],[],[],[],false,[],[]⟩
noncomputable def v20 (N:Nat):q46:=tab []
theorem us1 (N:Nat):q13 Tryz.prog (v20 N):=q25 _
def j53 (N:Nat)(x:Int):Option Int:=bif decide (x≥4294967296) then bif decide ((qn3 .u64 x (32:Int))≥65536) then bif decide ((qn3 .u64 (qn3 .u64 x (32:Int)) (16:Int))≥256) then bif inR (IntKind.u8.wrap (qn3 .u64 (qn3 .u64 (qn3 .u64 x (32:Int)) (16:Int)) (8:Int))) q74.length then bif q24 (q37 q74 (IntKind.u8.wrap (qn3 .u64 (qn3 .u64 (qn3 .u64 x (32:Int)) (16:Int)) (8:Int)))) then bif q24 (56+(q37 q74 (IntKind.u8.wrap (qn3 .u64 (qn3 .u64 (qn3 .u64 x (32:Int)) (16:Int)) (8:Int))))) then some (56+(q37 q74 (IntKind.u8.wrap (qn3 .u64 (qn3 .u64 (qn3 .u64 x (32:Int)) (16:Int)) (8:Int))))) else none else none else none else bif inR (IntKind.u8.wrap (qn3 .u64 (qn3 .u64 x (32:Int)) (16:Int))) q74.length then bif q24 (q37 q74 (IntKind.u8.wrap (qn3 .u64 (qn3 .u64 x (32:Int)) (16:Int)))) then bif q24 (48+(q37 q74 (IntKind.u8.wrap (qn3 .u64 (qn3 .u64 x (32:Int)) (16:Int))))) then some (48+(q37 q74 (IntKind.u8.wrap (qn3 .u64 (qn3 .u64 x (32:Int)) (16:Int))))) else none else none else none else bif decide ((qn3 .u64 x (32:Int))≥256) then bif inR (IntKind.u8.wrap (qn3 .u64 (qn3 .u64 x (32:Int)) (8:Int))) q74.length then bif q24 (q37 q74 (IntKind.u8.wrap (qn3 .u64 (qn3 .u64 x (32:Int)) (8:Int)))) then bif q24 (40+(q37 q74 (IntKind.u8.wrap (qn3 .u64 (qn3 .u64 x (32:Int)) (8:Int))))) then some (40+(q37 q74 (IntKind.u8.wrap (qn3 .u64 (qn3 .u64 x (32:Int)) (8:Int))))) else none else none else none else bif inR (IntKind.u8.wrap (qn3 .u64 x (32:Int))) q74.length then bif q24 (q37 q74 (IntKind.u8.wrap (qn3 .u64 x (32:Int)))) then bif q24 (32+(q37 q74 (IntKind.u8.wrap (qn3 .u64 x (32:Int))))) then some (32+(q37 q74 (IntKind.u8.wrap (qn3 .u64 x (32:Int))))) else none else none else none else bif decide (x≥65536) then bif decide ((qn3 .u64 x (16:Int))≥256) then bif inR (IntKind.u8.wrap (qn3 .u64 (qn3 .u64 x (16:Int)) (8:Int))) q74.length then bif q24 (q37 q74 (IntKind.u8.wrap (qn3 .u64 (qn3 .u64 x (16:Int)) (8:Int)))) then bif q24 (24+(q37 q74 (IntKind.u8.wrap (qn3 .u64 (qn3 .u64 x (16:Int)) (8:Int))))) then some (24+(q37 q74 (IntKind.u8.wrap (qn3 .u64 (qn3 .u64 x (16:Int)) (8:Int))))) else none else none else none else bif inR (IntKind.u8.wrap (qn3 .u64 x (16:Int))) q74.length then bif q24 (q37 q74 (IntKind.u8.wrap (qn3 .u64 x (16:Int)))) then bif q24 (16+(q37 q74 (IntKind.u8.wrap (qn3 .u64 x (16:Int))))) then some (16+(q37 q74 (IntKind.u8.wrap (qn3 .u64 x (16:Int))))) else none else none else none else bif decide (x≥256) then bif inR (IntKind.u8.wrap (qn3 .u64 x (8:Int))) q74.length then bif q24 (q37 q74 (IntKind.u8.wrap (qn3 .u64 x (8:Int)))) then bif q24 (8+(q37 q74 (IntKind.u8.wrap (qn3 .u64 x (8:Int))))) then some (8+(q37 q74 (IntKind.u8.wrap (qn3 .u64 x (8:Int))))) else none else none else none else bif inR (IntKind.u8.wrap x) q74.length then bif q24 (q37 q74 (IntKind.u8.wrap x)) then bif q24 (0+(q37 q74 (IntKind.u8.wrap x))) then some (0+(q37 q74 (IntKind.u8.wrap x))) else none else none else none
noncomputable def ka6 (N:Nat)(x:Int):Option (RT [(.int .i64)]):=q20 DR Tryz.prog N (v20 N) ka7 Tryz.f288 (q31 Tryz.f288) (RT [(.int .i64)]) (qb7 [(.int .u64)] (x,())) [] (q38 [(.int .i64)])
theorem u82 (N:Nat)(x:Int):ka6 N x=j53 N x:=by kernel_rfl
def vj6 (m:Int→Option Int):Ent:=q29 [(.int .u64)] [(.int .i64)] fun (x:Els [(.int .u64)])=>m x.1
def yr5 (N:Nat):Ent:=vj6 (j53 N)
theorem vb0 (N:Nat):q16 Tryz.prog 288 (yr5 N):=q10 (us1 N) Tryz.func288 rfl (by kernel_rfl) fun (x:Els [(.int .u64)])=>u82 N x.1
def jz3 :FH:=⟨[],[],[],[],false,[],[]⟩
noncomputable def z04 (N:Nat):q46:=tab [(288,yr5 N)]
theorem jt4 (N:Nat):q13 Tryz.prog (z04 N):=q06 (vb0 N)<|q25 _
def ql7 (N:Nat)(x:Int):Option Int:=(j53 N x).bind fun r=>bif q24 (64-r) then some (64-r) else none
noncomputable def jz2 (N:Nat)(x:Int):Option (RT [(.int .i64)]):=q20 DR Tryz.prog N (z04 N) jz3 Tryz.f284 (q31 Tryz.f284) (RT [(.int .i64)]) (qb7 [(.int .u64)] (x,())) [] (q38 [(.int .i64)])
theorem jg2 (N:Nat)(x:Int):jz2 N x=ql7 N x:=by kernel_rfl
def j52 (m:Int→Option Int):Ent:=q29 [(.int .u64)] [(.int .i64)] fun (x:Els [(.int .u64)])=>m x.1
def wl6 (N:Nat):Ent:=j52 (ql7 N)
theorem j17 (N:Nat):q16 Tryz.prog 284 (wl6 N):=q10 (jt4 N) Tryz.func284 rfl (by kernel_rfl) fun (x:Els [(.int .u64)])=>jg2 N x.1
def x77 :LH:=⟨[(2,.int .u64),(8,.int .u64),(9,.int .u64),(10,.int .u64),(11,.int .u64),(13,.int .u64),(14,.int .u64),(15,.int .u64),(16,.int .u64)],[],[]⟩
def zm1 :LH:=⟨[(2,.int .u64),(8,.int .u64),(9,.int .u64),(10,.int .u64),(14,.int .u64),(15,.int .u64),(16,.int .u64),(17,.int .u64),(18,.int .u64)],[],[]⟩
def qk3 :FH:=⟨[x77,zm1],[],[(6,⟨7,135,0,[],[]⟩)],[],false,[],[]⟩
noncomputable def jz0 (N:Nat):q46:=tab [(284,wl6 N)]
theorem ur5 (N:Nat):q13 Tryz.prog (jz0 N):=q06 (j17 N)<|q25 _
noncomputable def qo5 :Sc:=w89 Tryz.prog qk3
noncomputable def qo4 (N:Nat):Cfg:=⟨N,jz0 N,0⟩
noncomputable def wz1 (N:Nat):Exit→KT (Int×Int×Unit):=fin Tryz.prog 0 Tryz.f259.results.toList (q38 [(.int .u64),(.int .u64)])
def wl4 (y1 s yn1 yn0 un32 un1 un0:Int)(e:Int×Int):List TV:=match e with|(q1,rhat)=>frm 135 [(2,.int .u64 y1),(8,.int .u64 s),(9,.int .u64 yn1),(10,.int .u64 yn0),(11,.int .u64 un32),(13,.int .u64 un1),(14,.int .u64 un0),(15,.int .u64 q1),(16,.int .u64 rhat)]
def wl5 (y1 s yn1 yn0 un32 un1 un0:Int)(e:Int×Int):List TOb:=match e with|(q1,rhat)=>[]
def jf7 (y1 s yn1 yn0 un0 q1 un212:Int)(e:Int×Int):List TV:=match e with|(rhat3,q02)=>frm 135 [(2,.int .u64 y1),(8,.int .u64 s),(9,.int .u64 yn1),(10,.int .u64 yn0),(14,.int .u64 un0),(15,.int .u64 q1),(16,.int .u64 rhat3),(17,.int .u64 un212),(18,.int .u64 q02)]
def jg1 (y1 s yn1 yn0 un0 q1 un212:Int)(e:Int×Int):List TOb:=match e with|(rhat3,q02)=>[]
def jf6 (y1 s yn1 yn0 un0 q12 un211:Int)(e:Int×Int):List TV:=match e with|(rhat2,q01)=>frm 135 [(2,.int .u64 y1),(8,.int .u64 s),(9,.int .u64 yn1),(10,.int .u64 yn0),(14,.int .u64 un0),(15,.int .u64 q12),(16,.int .u64 rhat2),(17,.int .u64 un211),(18,.int .u64 q01)]
def jg0 (y1 s yn1 yn0 un0 q12 un211:Int)(e:Int×Int):List TOb:=match e with|(rhat2,q01)=>[]
def jf5 (y1 s yn1 yn0 un0 q11 un21:Int)(e:Int×Int):List TV:=match e with|(rhat1,q0)=>frm 135 [(2,.int .u64 y1),(8,.int .u64 s),(9,.int .u64 yn1),(10,.int .u64 yn0),(14,.int .u64 un0),(15,.int .u64 q11),(16,.int .u64 rhat1),(17,.int .u64 un21),(18,.int .u64 q0)]
def jf9 (y1 s yn1 yn0 un0 q11 un21:Int)(e:Int×Int):List TOb:=match e with|(rhat1,q0)=>[]
noncomputable def x78 (N:Nat):(KT (Int×Int×Unit))→KT (Int×Int×Unit):=qy2 DR qo5 (qo4 N) (nv [5,4,0,1,1,1,1,1,1,1,1,1,1,1,1,1,1,1,1,1,1] Tryz.f259) zm1 (qk3.loops.drop 2) (qd6 2 (qa6 DR qo5 (qo4 N) (nv [1,1,1,1,1,1,1,1,1,1,1,1,1,1,1,1,1,1,1] Tryz.f259) (qk3.loops.drop 2) (wz1 N)))
def w62 (N:Nat)(y1 s yn1 yn0 un0 q11 un21:Int)(K1:(Int×Int)→Option (Int×Int×Unit))(e:Int×Int):Option (Int×Int×Unit):=match e with|(rhat1,q0)=>bif decide (q0≥4294967296) then bif decide ((IntKind.u64.wrap (rhat1+yn1))≥4294967296) then bif !(decide (s<0)) then some ((IntKind.u64.wrap ((IntKind.u64.wrap (q11*4294967296))+(IntKind.u64.wrap (q0-1)))),(qn3 .u64 (IntKind.u64.wrap ((IntKind.u64.wrap ((IntKind.u64.wrap (un21*4294967296))+un0))-(IntKind.u64.wrap ((IntKind.u64.wrap (q0-1))*y1)))) s),()) else none else K1 ((IntKind.u64.wrap (rhat1+yn1)),(IntKind.u64.wrap (q0-1))) else bif decide ((IntKind.u64.wrap (q0*yn0))>(IntKind.u64.wrap ((IntKind.u64.wrap (4294967296*rhat1))+un0))) then bif decide ((IntKind.u64.wrap (rhat1+yn1))≥4294967296) then bif !(decide (s<0)) then some ((IntKind.u64.wrap ((IntKind.u64.wrap (q11*4294967296))+(IntKind.u64.wrap (q0-1)))),(qn3 .u64 (IntKind.u64.wrap ((IntKind.u64.wrap ((IntKind.u64.wrap (un21*4294967296))+un0))-(IntKind.u64.wrap ((IntKind.u64.wrap (q0-1))*y1)))) s),()) else none else K1 ((IntKind.u64.wrap (rhat1+yn1)),(IntKind.u64.wrap (q0-1))) else bif !(decide (s<0)) then some ((IntKind.u64.wrap ((IntKind.u64.wrap (q11*4294967296))+q0)),(qn3 .u64 (IntKind.u64.wrap ((IntKind.u64.wrap ((IntKind.u64.wrap (un21*4294967296))+un0))-(IntKind.u64.wrap (q0*y1)))) s),()) else none
theorem ur8 (N:Nat)(y1 s yn1 yn0 un0 q11 un21:Int)(n_:Nat)(e:Int×Int):q55 (x78 N ) n_ ((jf5 y1 s yn1 yn0 un0 q11 un21) e) ((jf9 y1 s yn1 yn0 un0 q11 un21) e)=q80 (w62 N y1 s yn1 yn0 un0 q11 un21 ) n_ e :=
 q36 (jf5 y1 s yn1 yn0 un0 q11 un21) (jf9 y1 s yn1 yn0 un0 q11 un21) (by intro K e;obtain⟨rhat1,q0⟩:=e;kernel_rfl) n_ e
noncomputable def x79 (N:Nat):(KT (Int×Int×Unit))→KT (Int×Int×Unit):=qy2 DR qo5 (qo4 N) (nv [5,4,0,1,1,1,1,1,1,1,1,1,1,1,1,1,1,1,1,1,1] Tryz.f259) zm1 (qk3.loops.drop 2) (qd6 2 (qa6 DR qo5 (qo4 N) (nv [1,1,1,1,1,1,1,1,1,1,1,1,1,1,1,1,1,1,1] Tryz.f259) (qk3.loops.drop 2) (wz1 N)))
def x75 (N:Nat)(y1 s yn1 yn0 un0 q12 un211:Int)(K1:(Int×Int)→Option (Int×Int×Unit))(e:Int×Int):Option (Int×Int×Unit):=match e with|(rhat2,q01)=>bif decide (q01≥4294967296) then bif decide ((IntKind.u64.wrap (rhat2+yn1))≥4294967296) then bif !(decide (s<0)) then some ((IntKind.u64.wrap ((IntKind.u64.wrap (q12*4294967296))+(IntKind.u64.wrap (q01-1)))),(qn3 .u64 (IntKind.u64.wrap ((IntKind.u64.wrap ((IntKind.u64.wrap (un211*4294967296))+un0))-(IntKind.u64.wrap ((IntKind.u64.wrap (q01-1))*y1)))) s),()) else none else K1 ((IntKind.u64.wrap (rhat2+yn1)),(IntKind.u64.wrap (q01-1))) else bif decide ((IntKind.u64.wrap (q01*yn0))>(IntKind.u64.wrap ((IntKind.u64.wrap (4294967296*rhat2))+un0))) then bif decide ((IntKind.u64.wrap (rhat2+yn1))≥4294967296) then bif !(decide (s<0)) then some ((IntKind.u64.wrap ((IntKind.u64.wrap (q12*4294967296))+(IntKind.u64.wrap (q01-1)))),(qn3 .u64 (IntKind.u64.wrap ((IntKind.u64.wrap ((IntKind.u64.wrap (un211*4294967296))+un0))-(IntKind.u64.wrap ((IntKind.u64.wrap (q01-1))*y1)))) s),()) else none else K1 ((IntKind.u64.wrap (rhat2+yn1)),(IntKind.u64.wrap (q01-1))) else bif !(decide (s<0)) then some ((IntKind.u64.wrap ((IntKind.u64.wrap (q12*4294967296))+q01)),(qn3 .u64 (IntKind.u64.wrap ((IntKind.u64.wrap ((IntKind.u64.wrap (un211*4294967296))+un0))-(IntKind.u64.wrap (q01*y1)))) s),()) else none
theorem ur9 (N:Nat)(y1 s yn1 yn0 un0 q12 un211:Int)(n_:Nat)(e:Int×Int):q55 (x79 N ) n_ ((jf6 y1 s yn1 yn0 un0 q12 un211) e) ((jg0 y1 s yn1 yn0 un0 q12 un211) e)=q80 (x75 N y1 s yn1 yn0 un0 q12 un211 ) n_ e :=
 q36 (jf6 y1 s yn1 yn0 un0 q12 un211) (jg0 y1 s yn1 yn0 un0 q12 un211) (by intro K e;obtain⟨rhat2,q01⟩:=e;kernel_rfl) n_ e
noncomputable def x80 (N:Nat):(KT (Int×Int×Unit))→KT (Int×Int×Unit):=qy2 DR qo5 (qo4 N) (nv [5,4,0,1,1,1,1,1,1,1,1,1,1,1,1,1,1,1,1,1,1] Tryz.f259) zm1 (qk3.loops.drop 2) (qd6 2 (qa6 DR qo5 (qo4 N) (nv [1,1,1,1,1,1,1,1,1,1,1,1,1,1,1,1,1,1,1] Tryz.f259) (qk3.loops.drop 2) (wz1 N)))
def x76 (N:Nat)(y1 s yn1 yn0 un0 q1 un212:Int)(K1:(Int×Int)→Option (Int×Int×Unit))(e:Int×Int):Option (Int×Int×Unit):=match e with|(rhat3,q02)=>bif decide (q02≥4294967296) then bif decide ((IntKind.u64.wrap (rhat3+yn1))≥4294967296) then bif !(decide (s<0)) then some ((IntKind.u64.wrap ((IntKind.u64.wrap (q1*4294967296))+(IntKind.u64.wrap (q02-1)))),(qn3 .u64 (IntKind.u64.wrap ((IntKind.u64.wrap ((IntKind.u64.wrap (un212*4294967296))+un0))-(IntKind.u64.wrap ((IntKind.u64.wrap (q02-1))*y1)))) s),()) else none else K1 ((IntKind.u64.wrap (rhat3+yn1)),(IntKind.u64.wrap (q02-1))) else bif decide ((IntKind.u64.wrap (q02*yn0))>(IntKind.u64.wrap ((IntKind.u64.wrap (4294967296*rhat3))+un0))) then bif decide ((IntKind.u64.wrap (rhat3+yn1))≥4294967296) then bif !(decide (s<0)) then some ((IntKind.u64.wrap ((IntKind.u64.wrap (q1*4294967296))+(IntKind.u64.wrap (q02-1)))),(qn3 .u64 (IntKind.u64.wrap ((IntKind.u64.wrap ((IntKind.u64.wrap (un212*4294967296))+un0))-(IntKind.u64.wrap ((IntKind.u64.wrap (q02-1))*y1)))) s),()) else none else K1 ((IntKind.u64.wrap (rhat3+yn1)),(IntKind.u64.wrap (q02-1))) else bif !(decide (s<0)) then some ((IntKind.u64.wrap ((IntKind.u64.wrap (q1*4294967296))+q02)),(qn3 .u64 (IntKind.u64.wrap ((IntKind.u64.wrap ((IntKind.u64.wrap (un212*4294967296))+un0))-(IntKind.u64.wrap (q02*y1)))) s),()) else none
theorem us0 (N:Nat)(y1 s yn1 yn0 un0 q1 un212:Int)(n_:Nat)(e:Int×Int):q55 (x80 N ) n_ ((jf7 y1 s yn1 yn0 un0 q1 un212) e) ((jg1 y1 s yn1 yn0 un0 q1 un212) e)=q80 (x76 N y1 s yn1 yn0 un0 q1 un212 ) n_ e :=
 q36 (jf7 y1 s yn1 yn0 un0 q1 un212) (jg1 y1 s yn1 yn0 un0 q1 un212) (by intro K e;obtain⟨rhat3,q02⟩:=e;kernel_rfl) n_ e
noncomputable def jf8 (N:Nat):(KT (Int×Int×Unit))→KT (Int×Int×Unit):=qy2 DR qo5 (qo4 N) (nv [5,4,0,1,1,1,1,1,1,1,1,1,1,1,1,1,1] Tryz.f259) x77 (qk3.loops.drop 1) (qd6 0 (qa6 DR qo5 (qo4 N) (nv [1,1,1,1,1,1,1,1,1,1,1,1,1,1,1] Tryz.f259) (qk3.loops.drop 1) (wz1 N)))
def j16 (N:Nat)(y1 s yn1 yn0 un32 un1 un0:Int)(l2 l3 l4:Int→Int→Int→Int→Int→Int→Int→(Int×Int)→Option (Int×Int×Unit))(K0:(Int×Int)→Option (Int×Int×Unit))(e:Int×Int):Option (Int×Int×Unit):=match e with|(q1,rhat)=>bif decide (q1≥4294967296) then bif decide ((IntKind.u64.wrap (rhat+yn1))≥4294967296) then bif (decide (yn1≠0)&&true) then l2 y1 s yn1 yn0 un0 (IntKind.u64.wrap (q1-1)) (IntKind.u64.wrap ((IntKind.u64.wrap ((IntKind.u64.wrap (un32*4294967296))+un1))-(IntKind.u64.wrap ((IntKind.u64.wrap (q1-1))*y1)))) ((IntKind.u64.wrap ((IntKind.u64.wrap ((IntKind.u64.wrap ((IntKind.u64.wrap (un32*4294967296))+un1))-(IntKind.u64.wrap ((IntKind.u64.wrap (q1-1))*y1))))-(IntKind.u64.wrap ((IntKind.u64.wrap (Int.tdiv (IntKind.u64.wrap ((IntKind.u64.wrap ((IntKind.u64.wrap (un32*4294967296))+un1))-(IntKind.u64.wrap ((IntKind.u64.wrap (q1-1))*y1)))) yn1))*yn1)))),(IntKind.u64.wrap (Int.tdiv (IntKind.u64.wrap ((IntKind.u64.wrap ((IntKind.u64.wrap (un32*4294967296))+un1))-(IntKind.u64.wrap ((IntKind.u64.wrap (q1-1))*y1)))) yn1))) else none else K0 ((IntKind.u64.wrap (q1-1)),(IntKind.u64.wrap (rhat+yn1))) else bif decide ((IntKind.u64.wrap (q1*yn0))>(IntKind.u64.wrap ((IntKind.u64.wrap (4294967296*rhat))+un1))) then bif decide ((IntKind.u64.wrap (rhat+yn1))≥4294967296) then bif (decide (yn1≠0)&&true) then l3 y1 s yn1 yn0 un0 (IntKind.u64.wrap (q1-1)) (IntKind.u64.wrap ((IntKind.u64.wrap ((IntKind.u64.wrap (un32*4294967296))+un1))-(IntKind.u64.wrap ((IntKind.u64.wrap (q1-1))*y1)))) ((IntKind.u64.wrap ((IntKind.u64.wrap ((IntKind.u64.wrap ((IntKind.u64.wrap (un32*4294967296))+un1))-(IntKind.u64.wrap ((IntKind.u64.wrap (q1-1))*y1))))-(IntKind.u64.wrap ((IntKind.u64.wrap (Int.tdiv (IntKind.u64.wrap ((IntKind.u64.wrap ((IntKind.u64.wrap (un32*4294967296))+un1))-(IntKind.u64.wrap ((IntKind.u64.wrap (q1-1))*y1)))) yn1))*yn1)))),(IntKind.u64.wrap (Int.tdiv (IntKind.u64.wrap ((IntKind.u64.wrap ((IntKind.u64.wrap (un32*4294967296))+un1))-(IntKind.u64.wrap ((IntKind.u64.wrap (q1-1))*y1)))) yn1))) else none else K0 ((IntKind.u64.wrap (q1-1)),(IntKind.u64.wrap (rhat+yn1))) else bif (decide (yn1≠0)&&true) then l4 y1 s yn1 yn0 un0 q1 (IntKind.u64.wrap ((IntKind.u64.wrap ((IntKind.u64.wrap (un32*4294967296))+un1))-(IntKind.u64.wrap (q1*y1)))) ((IntKind.u64.wrap ((IntKind.u64.wrap ((IntKind.u64.wrap ((IntKind.u64.wrap (un32*4294967296))+un1))-(IntKind.u64.wrap (q1*y1))))-(IntKind.u64.wrap ((IntKind.u64.wrap (Int.tdiv (IntKind.u64.wrap ((IntKind.u64.wrap ((IntKind.u64.wrap (un32*4294967296))+un1))-(IntKind.u64.wrap (q1*y1)))) yn1))*yn1)))),(IntKind.u64.wrap (Int.tdiv (IntKind.u64.wrap ((IntKind.u64.wrap ((IntKind.u64.wrap (un32*4294967296))+un1))-(IntKind.u64.wrap (q1*y1)))) yn1))) else none
def zm0 (N:Nat)(y1 s yn1 yn0 un32 un1 un0:Int)(K0:(Int×Int)→Option (Int×Int×Unit))(e:Int×Int):Option (Int×Int×Unit):=j16 N y1 s yn1 yn0 un32 un1 un0 (fun y1 s yn1 yn0 un0 q11 un21 e=>q80 (w62 N y1 s yn1 yn0 un0 q11 un21) N e) (fun y1 s yn1 yn0 un0 q12 un211 e=>q80 (x75 N y1 s yn1 yn0 un0 q12 un211) N e) (fun y1 s yn1 yn0 un0 q1 un212 e=>q80 (x76 N y1 s yn1 yn0 un0 q1 un212) N e) K0 e
theorem ur7 (N:Nat)(y1 s yn1 yn0 un32 un1 un0:Int)(n_:Nat)(e:Int×Int):q55 (jf8 N ) n_ ((wl4 y1 s yn1 yn0 un32 un1 un0) e) ((wl5 y1 s yn1 yn0 un32 un1 un0) e)=q80 (zm0 N y1 s yn1 yn0 un32 un1 un0 ) n_ e :=
 q36 (wl4 y1 s yn1 yn0 un32 un1 un0) (wl5 y1 s yn1 yn0 un32 un1 un0) (by
  intro K e
  have h:(jf8 N ) K ((wl4 y1 s yn1 yn0 un32 un1 un0) e) ((wl5 y1 s yn1 yn0 un32 un1 un0) e)=j16 N y1 s yn1 yn0 un32 un1 un0 (fun y1 s yn1 yn0 un0 q11 un21 e=>q55 (x78 N ) N (jf5 y1 s yn1 yn0 un0 q11 un21 e) (jf9 y1 s yn1 yn0 un0 q11 un21 e)) (fun y1 s yn1 yn0 un0 q12 un211 e=>q55 (x79 N ) N (jf6 y1 s yn1 yn0 un0 q12 un211 e) (jg0 y1 s yn1 yn0 un0 q12 un211 e)) (fun y1 s yn1 yn0 un0 q1 un212 e=>q55 (x80 N ) N (jf7 y1 s yn1 yn0 un0 q1 un212 e) (jg1 y1 s yn1 yn0 un0 q1 un212 e)) (fun e=>K ((wl4 y1 s yn1 yn0 un32 un1 un0) e) ((wl5 y1 s yn1 yn0 un32 un1 un0) e)) e:=by obtain⟨q1,rhat⟩:=e;kernel_rfl
  rw[h]
  simp only[zm0,ur8,ur9,us0]<;>rfl) n_ e
def jz1 (N:Nat)(hi lo y:Int)(l1:Int→Int→Int→Int→Int→Int→Int→(Int×Int)→Option (Int×Int×Unit)):Option (Int×Int×Unit):=bif (y==0) then none else bif decide (y≤hi) then none else bif (hi==0) then bif (decide (y≠0)&&true) then bif decide (y≠0) then some ((IntKind.u64.wrap (Int.tdiv lo y)),Int.tmod lo y,()) else none else none else (ql7 N y).bind fun r=>bif !(decide ((IntKind.u64.wrap r)<0)) then bif !(decide ((IntKind.u64.wrap r)<0)) then bif !(decide ((IntKind.u64.wrap (64-(IntKind.u64.wrap r)))<0)) then bif !(decide ((IntKind.u64.wrap r)<0)) then bif (decide ((qn3 .u64 (ku5 .u64 y (IntKind.u64.wrap r)) (32:Int))≠0)&&true) then l1 (ku5 .u64 y (IntKind.u64.wrap r)) (IntKind.u64.wrap r) (qn3 .u64 (ku5 .u64 y (IntKind.u64.wrap r)) (32:Int)) (za6 .and .u64 (ku5 .u64 y (IntKind.u64.wrap r)) 4294967295) (za6 .or .u64 (ku5 .u64 hi (IntKind.u64.wrap r)) (qn3 .u64 lo (IntKind.u64.wrap (64-(IntKind.u64.wrap r))))) (qn3 .u64 (ku5 .u64 lo (IntKind.u64.wrap r)) (32:Int)) (za6 .and .u64 (ku5 .u64 lo (IntKind.u64.wrap r)) 4294967295) ((IntKind.u64.wrap (Int.tdiv (za6 .or .u64 (ku5 .u64 hi (IntKind.u64.wrap r)) (qn3 .u64 lo (IntKind.u64.wrap (64-(IntKind.u64.wrap r))))) (qn3 .u64 (ku5 .u64 y (IntKind.u64.wrap r)) (32:Int)))),(IntKind.u64.wrap ((za6 .or .u64 (ku5 .u64 hi (IntKind.u64.wrap r)) (qn3 .u64 lo (IntKind.u64.wrap (64-(IntKind.u64.wrap r)))))-(IntKind.u64.wrap ((IntKind.u64.wrap (Int.tdiv (za6 .or .u64 (ku5 .u64 hi (IntKind.u64.wrap r)) (qn3 .u64 lo (IntKind.u64.wrap (64-(IntKind.u64.wrap r))))) (qn3 .u64 (ku5 .u64 y (IntKind.u64.wrap r)) (32:Int))))*(qn3 .u64 (ku5 .u64 y (IntKind.u64.wrap r)) (32:Int))))))) else none else none else none else none else none
def zn9 (N:Nat)(hi lo y:Int):Option (Int×Int×Unit):=jz1 N hi lo y (fun y1 s yn1 yn0 un32 un1 un0 e=>q80 (zm0 N y1 s yn1 yn0 un32 un1 un0) N e)
noncomputable def v19 (N:Nat)(hi lo y:Int):Option (RT [(.int .u64),(.int .u64)]):=q20 DR Tryz.prog N (jz0 N) qk3 Tryz.f259 (q31 Tryz.f259) (RT [(.int .u64),(.int .u64)]) (qb7 [(.int .u64),(.int .u64),(.int .u64)] (hi,lo,y,())) [] (q38 [(.int .u64),(.int .u64)])
theorem u81 (N:Nat)(hi lo y:Int):v19 N hi lo y=zn9 N hi lo y:=by
 have h:v19 N hi lo y=jz1 N hi lo y (fun y1 s yn1 yn0 un32 un1 un0 e=>q55 (jf8 N ) N (wl4 y1 s yn1 yn0 un32 un1 un0 e) (wl5 y1 s yn1 yn0 un32 un1 un0 e)):=by kernel_rfl
 rw[h]
 simp only[zn9,ur7]<;>rfl
def vj5 (m:Int→Int→Int→Option (Int×Int×Unit)):Ent:=q29 [(.int .u64),(.int .u64),(.int .u64)] [(.int .u64),(.int .u64)] fun (x:Els [(.int .u64),(.int .u64),(.int .u64)])=>m x.1 x.2.1 x.2.2.1
def yr4 (N:Nat):Ent:=vj5 (zn9 N)
theorem va9 (N:Nat):q16 Tryz.prog 259 (yr4 N):=q10 (ur5 N) Tryz.func259 rfl (by kernel_rfl) fun (x:Els [(.int .u64),(.int .u64),(.int .u64)])=>u81 N x.1 x.2.1 x.2.2.1
noncomputable def ys8 (N:Nat):q46:=tab [(221,we1 N)]
theorem vr0 (N:Nat):q13 Tryz.prog (ys8 N):=q06 (wf3 N)<|q25 _
noncomputable def jr1 (N:Nat):Ent:=zt4 Tryz.prog N (ys8 N) ⟨[],[],[],[],false,[],[]⟩ Tryz.f258 (q31 Tryz.f258)
theorem xd9 (N:Nat):q16 Tryz.prog 258 (jr1 N):=qc4 (vr0 N) Tryz.func258 rfl (by kernel_rfl)
def q9a :FH:=⟨[],[],[(1,⟨9,61,0,[],[]⟩)],[],false,[258],[]⟩
noncomputable def uh7 (N:Nat):q46:=tab [(220,z74 N),(219,wz2 N),(259,yr4 N),(258,jr1 N)]
theorem kz3 (N:Nat):q13 Tryz.prog (uh7 N):=q06 (z00 N)<|q06 (za2 N)<|q06 (va9 N)<|q06 (xd9 N)<|q25 _
def yh9 (N:Nat)(a b d:Int):Option (Int×Int×Unit):=(w72 N a).bind fun r=>(w72 N b).bind fun r1=>(qz6 N r r1).bind fun r2=>(w72 N d).bind fun r3=>bif decide (r2.1≥r3) then some (0,9,()) else (zn9 N r2.1 r2.2.1 r3).bind fun r4=>bif decide (r4.2.1>(IntKind.u64.wrap (r3-r4.2.1))) then bif ((IntKind.u64.wrap (r4.1+1))==0) then some (0,9,()) else (ql0 N (!((!((decide (a<0))==(decide (b<0))))==(decide (d<0)))) 0 (IntKind.u64.wrap (r4.1+1))).bind fun r5=>some r5 else bif (r4.2.1==(IntKind.u64.wrap (r3-r4.2.1))) then bif ((za6 .and .u64 r4.1 1)==1) then bif ((IntKind.u64.wrap (r4.1+1))==0) then some (0,9,()) else (ql0 N (!((!((decide (a<0))==(decide (b<0))))==(decide (d<0)))) 0 (IntKind.u64.wrap (r4.1+1))).bind fun r6=>some r6 else (ql0 N (!((!((decide (a<0))==(decide (b<0))))==(decide (d<0)))) 0 r4.1).bind fun r7=>some r7 else (ql0 N (!((!((decide (a<0))==(decide (b<0))))==(decide (d<0)))) 0 r4.1).bind fun r8=>some r8
noncomputable def q8z (N:Nat)(a b d:Int):Option (RT [(.int .i64),(.int .i64)]):=q20 DR Tryz.prog N (uh7 N) q9a Tryz.f222 (q31 Tryz.f222) (RT [(.int .i64),(.int .i64)]) (qb7 [(.int .i64),(.int .i64),(.int .i64)] (a,b,d,())) [] (q38 [(.int .i64),(.int .i64)])
theorem kg7 (N:Nat)(a b d:Int):q8z N a b d=yh9 N a b d:=by kernel_rfl
def ux1 (m:Int→Int→Int→Option (Int×Int×Unit)):Ent:=q29 [(.int .i64),(.int .i64),(.int .i64)] [(.int .i64),(.int .i64)] fun (x:Els [(.int .i64),(.int .i64),(.int .i64)])=>m x.1 x.2.1 x.2.2.1
def ya7 (N:Nat):Ent:=ux1 (yh9 N)
theorem ys9 (N:Nat):q16 Tryz.prog 222 (ya7 N):=q10 (kz3 N) Tryz.func222 rfl (by kernel_rfl) fun (x:Els [(.int .i64),(.int .i64),(.int .i64)])=>kg7 N x.1 x.2.1 x.2.2.1
def kf8 :FH:=⟨[],[],[],[],false,[],[]⟩
noncomputable def v43 (N:Nat):q46:=tab [(222,ya7 N)]
theorem uw6 (N:Nat):q13 Tryz.prog (v43 N):=q06 (ys9 N)<|q25 _
def zo2 (N:Nat)(a b:Int):Option (Int×Int×Unit):=(yh9 N a b 10000).bind fun r=>some r
noncomputable def kf7 (N:Nat)(a b:Int):Option (RT [(.int .i64),(.int .i64)]):=q20 DR Tryz.prog N (v43 N) kf8 Tryz.f168 (q31 Tryz.f168) (RT [(.int .i64),(.int .i64)]) (qb7 [(.int .i64),(.int .i64)] (a,b,())) [] (q38 [(.int .i64),(.int .i64)])
theorem ua5 (N:Nat)(a b:Int):kf7 N a b=zo2 N a b:=by kernel_rfl
def vq5 (m:Int→Int→Option (Int×Int×Unit)):Ent:=q29 [(.int .i64),(.int .i64)] [(.int .i64),(.int .i64)] fun (x:Els [(.int .i64),(.int .i64)])=>m x.1 x.2.1
def ys7 (N:Nat):Ent:=vq5 (zo2 N)
theorem vd4 (N:Nat):q16 Tryz.prog 168 (ys7 N):=q10 (uw6 N) Tryz.func168 rfl (by kernel_rfl) fun (x:Els [(.int .i64),(.int .i64)])=>ua5 N x.1 x.2.1
def k79 :FH:=⟨[],[],[(8,⟨16,54,0,[],[]⟩)],[],false,[],[]⟩
noncomputable def xk2 (N:Nat):q46:=tab [(217,qv8 N),(168,ys7 N),(218,qz4 N),(167,yz1 N)]
theorem ue8 (N:Nat):q13 Tryz.prog (xk2 N):=q06 (qv9 N)<|q06 (vd4 N)<|q06 (w17 N)<|q06 (xd7 N)<|q25 _
def x57 (N:Nat)(a b:q00):Option OX3:=(q98 N ([a,b]:List q00)).bind fun r=>bif r.2.1 then some ((0,0,[],()),r.2.2.1,()) else bif (r.2.2.1 != 0) then some ((0,0,[],()),r.2.2.1,()) else bif inR 0 r.1.length then bif (((q17 r.1 0 q26).1)==2) then bif inR 0 r.1.length then bif inR 1 r.1.length then (zo2 N ((q17 r.1 0 q26).2.1) ((q17 r.1 1 q26).2.1)).bind fun r1=>bif (r1.2.1 != 0) then some ((0,0,[],()),r1.2.1,()) else bif inR 0 r.1.length then some (((q17 r.1 0 q26).1,r1.1,[],()),0,()) else none else none else none else bif inR 0 r.1.length then bif inR 1 r.1.length then (yz0 N ((q17 r.1 0 q26).2.1) ((q17 r.1 1 q26).2.1)).bind fun r2=>bif (r2.2.1 != 0) then some ((0,0,[],()),r2.2.1,()) else bif inR 0 r.1.length then some (((q17 r.1 0 q26).1,r2.1,[],()),0,()) else none else none else none else none
abbrev yu0 :List PK:=[.val q05,.val q05,.fn 167 0,.fn 168 0]
noncomputable def k78 (N:Nat)(a b:q00):Option (RT [q05,(.int .i64)]):=q20 DR Tryz.prog N (xk2 N) k79 Tryz.f164 (q31 Tryz.f164) (RT [q05,(.int .i64)]) (w01 yu0 (a,b,())) [] (q38 [q05,(.int .i64)])
theorem u65 (N:Nat)(a b:q00):k78 N a b=x57 N a b:=by kernel_rfl
def ve9 (m:q00→q00→Option OX3):Ent:=qf5 yu0 [q05,(.int .i64)] fun (x:Els [q05,q05])=>m x.1 x.2.1
def yg7 (N:Nat):Ent:=ve9 (x57 N)
theorem v04 (N:Nat):q16 Tryz.prog 164 (yg7 N):=q57 (ue8 N) Tryz.func164 rfl (by kernel_rfl) (by kernel_rfl) fun (x:Els [q05,q05])=>u65 N x.1 x.2.1
def q3i :FH:=⟨[],[],[],[],false,[],[]⟩
noncomputable def u51 (N:Nat):q46:=tab [(164,yg7 N)]
theorem kt4 (N:Nat):q13 Tryz.prog (u51 N):=q06 (v04 N)<|q25 _
def je7 (N:Nat)(a b:q00):Option OX3:=(x57 N a b).bind fun r=>some r
noncomputable def q3h (N:Nat)(a b:q00):Option (RT [q05,(.int .i64)]):=q20 DR Tryz.prog N (u51 N) q3i Tryz.f97 (q31 Tryz.f97) (RT [q05,(.int .i64)]) (qb7 [q05,q05] (a,b,())) [] (q38 [q05,(.int .i64)])
theorem k65 (N:Nat)(a b:q00):q3h N a b=je7 N a b:=by kernel_rfl
def ud5 (m:q00→q00→Option OX3):Ent:=q29 [q05,q05] [q05,(.int .i64)] fun (x:Els [q05,q05])=>m x.1 x.2.1
def xj6 (N:Nat):Ent:=ud5 (je7 N)
theorem u52 (N:Nat):q16 Tryz.prog 97 (xj6 N):=q10 (kt4 N) Tryz.func97 rfl (by kernel_rfl) fun (x:Els [q05,q05])=>k65 N x.1 x.2.1
noncomputable def zk7 (N:Nat):q46:=tab [(97,xj6 N),(101,qh6 N)]
theorem y79 (N:Nat):q13 Tryz.prog (zk7 N):=q06 (u52 N)<|q06 (qe0 N)<|q25 _
noncomputable def wt5 (N:Nat):Ent:=zt4 Tryz.prog N (zk7 N) ⟨[],[],[(1,⟨10,15,0,[],[]⟩)],[],false,[],[]⟩ Tryz.f163 (q31 Tryz.f163)
theorem j85 (N:Nat):q16 Tryz.prog 163 (wt5 N):=qc4 (y79 N) Tryz.func163 rfl (by kernel_rfl)
def zj8 :LH:=⟨[(2,.asis),(3,.asis),(6,.asis),(7,.own q05 507 26 3),(10,.int .i64),(11,.int .i64)],[],[.cells [.lst q08,.lst .bool],.cells [.int .u8,.int .i64,.str,.int .i64]]⟩
def qx5 :FH:=⟨[zj8],[],[],[],false,[],[]⟩
noncomputable def wi1 (N:Nat):q46:=tab [(153,q58 N),(163,wt5 N)]
theorem yp5 (N:Nat):q13 Tryz.prog (wi1 N):=q06 (q53 N)<|q06 (j85 N)<|q25 _
noncomputable def zk2 :Sc:=w89 Tryz.prog qx5
noncomputable def zk0 (N:Nat):Cfg:=⟨N,wi1 N,0⟩
noncomputable def y66 (N:Nat):Exit→KT q03:=fin Tryz.prog 0 Tryz.f99.results.toList (q38 [q08])
def wc9 (n:Int)(k_l:List q03)(q09:List Bool)(q04 q21:Int)(q22:List UInt8)(q66:Int)(e:List q00×Int):List TV:=match e with|(l,t11)=>frm 30 [(2,.func (.func 163) [.ep [.func (.func 97) []] 0]),(3,.ref 0 0),(6,.ref 1 0),(7,.tl q05 l (.own 507 26 3)),(10,.int .i64 n),(11,.int .i64 t11)]
def wd0 (n:Int)(k_l:List q03)(q09:List Bool)(q04 q21:Int)(q22:List UInt8)(q66:Int)(e:List q00×Int):List TOb:=match e with|(l,t11)=>[.cells [.tl q08 k_l .unk,.tl .bool q09 .unk] 118 true,.cells [.int .u8 q04,.int .i64 q21,.str q22,.int .i64 q66] 115 true]
noncomputable def zj9 (N:Nat):(KT q03)→KT q03:=qy2 DR zk2 (zk0 N) (nv [5,4,1,0,1,1] Tryz.f99) zj8 (qx5.loops.drop 1) (qd6 0 (qa6 DR zk2 (zk0 N) (nv [1,1,1] Tryz.f99) (qx5.loops.drop 1) (y66 N)))
def wc8 (N:Nat)(n:Int)(k_l:List q03)(q09:List Bool)(q04 q21:Int)(q22:List UInt8)(q66:Int)(K0:(List q00×Int)→Option q03)(e:List q00×Int):Option q03:=match e with|(l,t11)=>bif decide (t11<n) then (q65 N (k_l,q09,()) t11).bind fun r=>bif (r.2.1 != 0) then some r else bif qr1 (l.length+([r.1]:List q00).length) 4398046511104 then bif q24 (t11+1) then K0 ((l++([r.1]:List q00)),t11+1) else none else none else bif inR 0 l.length then bif inR 1 l.length then (je7 N (q17 l 0 q26) (q17 l 1 q26)).bind fun r1=>(qc7 N r1.1 r1.2.1).bind fun r2=>some r2 else none else none
theorem yp7 (N:Nat)(n:Int)(k_l:List q03)(q09:List Bool)(q04 q21:Int)(q22:List UInt8)(q66:Int)(n_:Nat)(e:List q00×Int):q55 (zj9 N ) n_ ((wc9 n k_l q09 q04 q21 q22 q66) e) ((wd0 n k_l q09 q04 q21 q22 q66) e)=q80 (wc8 N n k_l q09 q04 q21 q22 q66 ) n_ e :=
 q36 (wc9 n k_l q09 q04 q21 q22 q66) (wd0 n k_l q09 q04 q21 q22 q66) (by intro K e;obtain⟨l,t11⟩:=e;kernel_rfl) n_ e
def zs3 (N:Nat)(k:q35)(n:Int)(l1:Int→(List q03)→(List Bool)→Int→Int→(List UInt8)→Int→(List q00×Int)→Option q03):Option q03:=l1 n k.1 k.2.1 0 0 [] 0 ([],0)
def qu4 (N:Nat)(k:q35)(n:Int):Option q03:=zs3 N k n (fun n k_l q09 q04 q21 q22 q66 e=>q80 (wc8 N n k_l q09 q04 q21 q22 q66) N e)
abbrev zk1 :List PK:=[.val q69,.val (.int .i64),.fn 163 1,.ep 1,.fn 97 0]
noncomputable def zs2 (N:Nat)(k:q35)(n:Int):Option (RT [q08]):=q20 DR Tryz.prog N (wi1 N) qx5 Tryz.f99 (q31 Tryz.f99) (RT [q08]) (w01 zk1 (k,n,())) [] (q38 [q08])
theorem y67 (N:Nat)(k:q35)(n:Int):zs2 N k n=qu4 N k n:=by
 have h:zs2 N k n=zs3 N k n (fun n k_l q09 q04 q21 q22 q66 e=>q55 (zj9 N ) N (wc9 n k_l q09 q04 q21 q22 q66 e) (wd0 n k_l q09 q04 q21 q22 q66 e)):=by kernel_rfl
 rw[h]
 simp only[qu4,yp7]<;>rfl
def jx0 (m:q35→Int→Option q03):Ent:=qf5 zk1 [q08] fun (x:Els [q69,(.int .i64)])=>m x.1 x.2.1
def z59 (N:Nat):Ent:=jx0 (qu4 N)
theorem jk1 (N:Nat):q16 Tryz.prog 99 (z59 N):=q57 (yp5 N) Tryz.func99 rfl (by kernel_rfl) (by kernel_rfl) fun (x:Els [q69,(.int .i64)])=>y67 N x.1 x.2.1
def kf4 :FH:=⟨[],[],[],[],false,[],[]⟩
noncomputable def v42 (N:Nat):q46:=tab [(222,ya7 N)]
theorem uw3 (N:Nat):q13 Tryz.prog (v42 N):=q06 (ys9 N)<|q25 _
def zo1 (N:Nat)(a b:Int):Option (Int×Int×Unit):=bif (b==0) then some (0,10,()) else (yh9 N a 10000 b).bind fun r=>some r
noncomputable def kf3 (N:Nat)(a b:Int):Option (RT [(.int .i64),(.int .i64)]):=q20 DR Tryz.prog N (v42 N) kf4 Tryz.f170 (q31 Tryz.f170) (RT [(.int .i64),(.int .i64)]) (qb7 [(.int .i64),(.int .i64)] (a,b,())) [] (q38 [(.int .i64),(.int .i64)])
theorem ua4 (N:Nat)(a b:Int):kf3 N a b=zo1 N a b:=by kernel_rfl
def vq2 (m:Int→Int→Option (Int×Int×Unit)):Ent:=q29 [(.int .i64),(.int .i64)] [(.int .i64),(.int .i64)] fun (x:Els [(.int .i64),(.int .i64)])=>m x.1 x.2.1
def ys6 (N:Nat):Ent:=vq2 (zo1 N)
theorem vd3 (N:Nat):q16 Tryz.prog 170 (ys6 N):=q10 (uw3 N) Tryz.func170 rfl (by kernel_rfl) fun (x:Els [(.int .i64),(.int .i64)])=>ua4 N x.1 x.2.1
def num_Quo_H :FH:=⟨[],[],[],[],false,[],[]⟩
noncomputable def kg1 (N:Nat):q46:=tab [(220,z74 N),(221,we1 N)]
theorem q8w (N:Nat):q13 Tryz.prog (kg1 N):=q06 (z00 N)<|q06 (wf3 N)<|q25 _
def xp7 (N:Nat)(a b:Int):Option (Int×Int×Unit):=bif (b==0) then some (0,10,()) else (w72 N a).bind fun r=>(w72 N b).bind fun r1=>bif (decide (r1≠0)&&true) then (ql0 N (!((decide (a<0))==(decide (b<0)))) 0 (IntKind.u64.wrap (Int.tdiv r r1))).bind fun r2=>some r2 else none
noncomputable def num_Quo_C (N:Nat)(a b:Int):Option (RT [(.int .i64),(.int .i64)]):=q20 DR Tryz.prog N (kg1 N) num_Quo_H Tryz.f169 (q31 Tryz.f169) (RT [(.int .i64),(.int .i64)]) (qb7 [(.int .i64),(.int .i64)] (a,b,())) [] (q38 [(.int .i64),(.int .i64)])
theorem ky9 (N:Nat)(a b:Int):num_Quo_C N a b=xp7 N a b:=by kernel_rfl
def kg2 (m:Int→Int→Option (Int×Int×Unit)):Ent:=q29 [(.int .i64),(.int .i64)] [(.int .i64),(.int .i64)] fun (x:Els [(.int .i64),(.int .i64)])=>m x.1 x.2.1
def vq6 (N:Nat):Ent:=kg2 (xp7 N)
theorem uw8 (N:Nat):q16 Tryz.prog 169 (vq6 N):=q10 (q8w N) Tryz.func169 rfl (by kernel_rfl) fun (x:Els [(.int .i64),(.int .i64)])=>ky9 N x.1 x.2.1
def k81 :FH:=⟨[],[],[(8,⟨16,54,0,[],[]⟩)],[],false,[],[]⟩
noncomputable def xk3 (N:Nat):q46:=tab [(217,qv8 N),(170,ys6 N),(218,qz4 N),(169,vq6 N)]
theorem ue9 (N:Nat):q13 Tryz.prog (xk3 N):=q06 (qv9 N)<|q06 (vd3 N)<|q06 (w17 N)<|q06 (uw8 N)<|q25 _
def x58 (N:Nat)(a b:q00):Option OX3:=(q98 N ([a,b]:List q00)).bind fun r=>bif r.2.1 then some ((0,0,[],()),r.2.2.1,()) else bif (r.2.2.1 != 0) then some ((0,0,[],()),r.2.2.1,()) else bif inR 0 r.1.length then bif (((q17 r.1 0 q26).1)==2) then bif inR 0 r.1.length then bif inR 1 r.1.length then (zo1 N ((q17 r.1 0 q26).2.1) ((q17 r.1 1 q26).2.1)).bind fun r1=>bif (r1.2.1 != 0) then some ((0,0,[],()),r1.2.1,()) else bif inR 0 r.1.length then some (((q17 r.1 0 q26).1,r1.1,[],()),0,()) else none else none else none else bif inR 0 r.1.length then bif inR 1 r.1.length then (xp7 N ((q17 r.1 0 q26).2.1) ((q17 r.1 1 q26).2.1)).bind fun r2=>bif (r2.2.1 != 0) then some ((0,0,[],()),r2.2.1,()) else bif inR 0 r.1.length then some (((q17 r.1 0 q26).1,r2.1,[],()),0,()) else none else none else none else none
abbrev yu1 :List PK:=[.val q05,.val q05,.fn 169 0,.fn 170 0]
noncomputable def k80 (N:Nat)(a b:q00):Option (RT [q05,(.int .i64)]):=q20 DR Tryz.prog N (xk3 N) k81 Tryz.f164 (q31 Tryz.f164) (RT [q05,(.int .i64)]) (w01 yu1 (a,b,())) [] (q38 [q05,(.int .i64)])
theorem u66 (N:Nat)(a b:q00):k80 N a b=x58 N a b:=by kernel_rfl
def vf0 (m:q00→q00→Option OX3):Ent:=qf5 yu1 [q05,(.int .i64)] fun (x:Els [q05,q05])=>m x.1 x.2.1
def yg8 (N:Nat):Ent:=vf0 (x58 N)
theorem v05 (N:Nat):q16 Tryz.prog 164 (yg8 N):=q57 (ue9 N) Tryz.func164 rfl (by kernel_rfl) (by kernel_rfl) fun (x:Els [q05,q05])=>u66 N x.1 x.2.1
def q3e :FH:=⟨[],[],[],[],false,[],[]⟩
noncomputable def u45 (N:Nat):q46:=tab [(164,yg8 N)]
theorem ks9 (N:Nat):q13 Tryz.prog (u45 N):=q06 (v05 N)<|q25 _
def je6 (N:Nat)(a b:q00):Option OX3:=(x58 N a b).bind fun r=>some r
noncomputable def q3d (N:Nat)(a b:q00):Option (RT [q05,(.int .i64)]):=q20 DR Tryz.prog N (u45 N) q3e Tryz.f98 (q31 Tryz.f98) (RT [q05,(.int .i64)]) (qb7 [q05,q05] (a,b,())) [] (q38 [q05,(.int .i64)])
theorem k60 (N:Nat)(a b:q00):q3d N a b=je6 N a b:=by kernel_rfl
def ud1 (m:q00→q00→Option OX3):Ent:=q29 [q05,q05] [q05,(.int .i64)] fun (x:Els [q05,q05])=>m x.1 x.2.1
def xj3 (N:Nat):Ent:=ud1 (je6 N)
theorem u46 (N:Nat):q16 Tryz.prog 98 (xj3 N):=q10 (ks9 N) Tryz.func98 rfl (by kernel_rfl) fun (x:Els [q05,q05])=>k60 N x.1 x.2.1
noncomputable def zk8 (N:Nat):q46:=tab [(98,xj3 N),(101,qh6 N)]
theorem y80 (N:Nat):q13 Tryz.prog (zk8 N):=q06 (u46 N)<|q06 (qe0 N)<|q25 _
noncomputable def wt6 (N:Nat):Ent:=zt4 Tryz.prog N (zk8 N) ⟨[],[],[(1,⟨10,15,0,[],[]⟩)],[],false,[],[]⟩ Tryz.f163 (q31 Tryz.f163)
theorem j86 (N:Nat):q16 Tryz.prog 163 (wt6 N):=qc4 (y80 N) Tryz.func163 rfl (by kernel_rfl)
def z10 :LH:=⟨[(2,.asis),(3,.asis),(6,.asis),(7,.own q05 507 26 3),(10,.int .i64),(11,.int .i64)],[],[.cells [.lst q08,.lst .bool],.cells [.int .u8,.int .i64,.str,.int .i64]]⟩
def qr7 :FH:=⟨[z10],[],[],[],false,[],[]⟩
noncomputable def w91 (N:Nat):q46:=tab [(153,q58 N),(163,wt6 N)]
theorem y26 (N:Nat):q13 Tryz.prog (w91 N):=q06 (q53 N)<|q06 (j86 N)<|q25 _
noncomputable def z14 :Sc:=w89 Tryz.prog qr7
noncomputable def z12 (N:Nat):Cfg:=⟨N,w91 N,0⟩
noncomputable def ju6 (N:Nat):Exit→KT q03:=fin Tryz.prog 0 Tryz.f99.results.toList (q38 [q08])
def w32 (n:Int)(k_l:List q03)(q09:List Bool)(q04 q21:Int)(q22:List UInt8)(q66:Int)(e:List q00×Int):List TV:=match e with|(l,t11)=>frm 30 [(2,.func (.func 163) [.ep [.func (.func 98) []] 0]),(3,.ref 0 0),(6,.ref 1 0),(7,.tl q05 l (.own 507 26 3)),(10,.int .i64 n),(11,.int .i64 t11)]
def w33 (n:Int)(k_l:List q03)(q09:List Bool)(q04 q21:Int)(q22:List UInt8)(q66:Int)(e:List q00×Int):List TOb:=match e with|(l,t11)=>[.cells [.tl q08 k_l .unk,.tl .bool q09 .unk] 118 true,.cells [.int .u8 q04,.int .i64 q21,.str q22,.int .i64 q66] 115 true]
noncomputable def z11 (N:Nat):(KT q03)→KT q03:=qy2 DR z14 (z12 N) (nv [5,4,1,0,1,1] Tryz.f99) z10 (qr7.loops.drop 1) (qd6 0 (qa6 DR z14 (z12 N) (nv [1,1,1] Tryz.f99) (qr7.loops.drop 1) (ju6 N)))
def w31 (N:Nat)(n:Int)(k_l:List q03)(q09:List Bool)(q04 q21:Int)(q22:List UInt8)(q66:Int)(K0:(List q00×Int)→Option q03)(e:List q00×Int):Option q03:=match e with|(l,t11)=>bif decide (t11<n) then (q65 N (k_l,q09,()) t11).bind fun r=>bif (r.2.1 != 0) then some r else bif qr1 (l.length+([r.1]:List q00).length) 4398046511104 then bif q24 (t11+1) then K0 ((l++([r.1]:List q00)),t11+1) else none else none else bif inR 0 l.length then bif inR 1 l.length then (je6 N (q17 l 0 q26) (q17 l 1 q26)).bind fun r1=>(qc7 N r1.1 r1.2.1).bind fun r2=>some r2 else none else none
theorem y28 (N:Nat)(n:Int)(k_l:List q03)(q09:List Bool)(q04 q21:Int)(q22:List UInt8)(q66:Int)(n_:Nat)(e:List q00×Int):q55 (z11 N ) n_ ((w32 n k_l q09 q04 q21 q22 q66) e) ((w33 n k_l q09 q04 q21 q22 q66) e)=q80 (w31 N n k_l q09 q04 q21 q22 q66 ) n_ e :=
 q36 (w32 n k_l q09 q04 q21 q22 q66) (w33 n k_l q09 q04 q21 q22 q66) (by intro K e;obtain⟨l,t11⟩:=e;kernel_rfl) n_ e
def ze3 (N:Nat)(k:q35)(n:Int)(l1:Int→(List q03)→(List Bool)→Int→Int→(List UInt8)→Int→(List q00×Int)→Option q03):Option q03:=l1 n k.1 k.2.1 0 0 [] 0 ([],0)
def qp0 (N:Nat)(k:q35)(n:Int):Option q03:=ze3 N k n (fun n k_l q09 q04 q21 q22 q66 e=>q80 (w31 N n k_l q09 q04 q21 q22 q66) N e)
abbrev z13 :List PK:=[.val q69,.val (.int .i64),.fn 163 1,.ep 1,.fn 98 0]
noncomputable def ze2 (N:Nat)(k:q35)(n:Int):Option (RT [q08]):=q20 DR Tryz.prog N (w91 N) qr7 Tryz.f99 (q31 Tryz.f99) (RT [q08]) (w01 z13 (k,n,())) [] (q38 [q08])
theorem ju7 (N:Nat)(k:q35)(n:Int):ze2 N k n=qp0 N k n:=by
 have h:ze2 N k n=ze3 N k n (fun n k_l q09 q04 q21 q22 q66 e=>q55 (z11 N ) N (w32 n k_l q09 q04 q21 q22 q66 e) (w33 n k_l q09 q04 q21 q22 q66 e)):=by kernel_rfl
 rw[h]
 simp only[qp0,y28]<;>rfl
def ji5 (m:q35→Int→Option q03):Ent:=qf5 z13 [q08] fun (x:Els [q69,(.int .i64)])=>m x.1 x.2.1
def wr9 (N:Nat):Ent:=ji5 (qp0 N)
theorem j68 (N:Nat):q16 Tryz.prog 99 (wr9 N):=q57 (y26 N) Tryz.func99 rfl (by kernel_rfl) (by kernel_rfl) fun (x:Els [q69,(.int .i64)])=>ju7 N x.1 x.2.1
def q3k :FH:=⟨[],[],[],[],false,[],[]⟩
noncomputable def u53 (N:Nat):q46:=tab [(96,jp8 N)]
theorem kt6 (N:Nat):q13 Tryz.prog (u53 N):=q06 (yg4 N)<|q25 _
def je8 (N:Nat)(a:q00):Option OX3:=(zw1 N ((jl7 (iMin a.1 (2:Int)) (1:Int)),0,[],()) a).bind fun r=>some r
noncomputable def q3j (N:Nat)(a:q00):Option (RT [q05,(.int .i64)]):=q20 DR Tryz.prog N (u53 N) q3k Tryz.f102 (q31 Tryz.f102) (RT [q05,(.int .i64)]) (qb7 [q05] (a,())) [] (q38 [q05,(.int .i64)])
theorem k66 (N:Nat)(a:q00):q3j N a=je8 N a:=by kernel_rfl
def ud6 (m:q00→Option OX3):Ent:=q29 [q05] [q05,(.int .i64)] fun (x:Els [q05])=>m x.1
def jp6 (N:Nat):Ent:=ud6 (je8 N)
theorem yg0 (N:Nat):q16 Tryz.prog 102 (jp6 N):=q10 (kt6 N) Tryz.func102 rfl (by kernel_rfl) fun (x:Els [q05])=>k66 N x.1
def vm3 :FH:=⟨[],[],[],[],false,[],[]⟩
noncomputable def y87 (N:Nat):q46:=tab [(102,jp6 N),(101,qh6 N)]
theorem vb7 (N:Nat):q13 Tryz.prog (y87 N):=q06 (yg0 N)<|q06 (qe0 N)<|q25 _
def wm9 (N:Nat)(l:List q00):Option q03:=bif inR 0 l.length then (je8 N (q17 l 0 q26)).bind fun r=>(qc7 N r.1 r.2.1).bind fun r1=>some r1 else none
noncomputable def vm2 (N:Nat)(l:List q00):Option (RT [q08]):=q20 DR Tryz.prog N (y87 N) vm3 Tryz.f100 (q31 Tryz.f100) (RT [q08]) (qb7 [(.list q05)] (l,())) [] (q38 [q08])
theorem xo0 (N:Nat)(l:List q00):vm2 N l=wm9 N l:=by kernel_rfl
def xb8 (m:(List q00)→Option q03):Ent:=q29 [(.list q05)] [q08] fun (x:Els [(.list q05)])=>m x.1
def j89 (N:Nat):Ent:=xb8 (wm9 N)
theorem yx7 (N:Nat):q16 Tryz.prog 100 (j89 N):=q10 (vb7 N) Tryz.func100 rfl (by kernel_rfl) fun (x:Els [(.list q05)])=>xo0 N x.1
def z15 :LH:=⟨[(2,.asis),(3,.asis),(6,.asis),(7,.own q05 507 26 3),(10,.int .i64),(11,.int .i64)],[],[.cells [.lst q08,.lst .bool],.cells [.int .u8,.int .i64,.str,.int .i64]]⟩
def qr8 :FH:=⟨[z15],[],[],[],false,[],[]⟩
noncomputable def w93 (N:Nat):q46:=tab [(153,q58 N),(100,j89 N)]
theorem y29 (N:Nat):q13 Tryz.prog (w93 N):=q06 (q53 N)<|q06 (yx7 N)<|q25 _
noncomputable def z19 :Sc:=w89 Tryz.prog qr8
noncomputable def z17 (N:Nat):Cfg:=⟨N,w93 N,0⟩
noncomputable def ju8 (N:Nat):Exit→KT q03:=fin Tryz.prog 0 Tryz.f99.results.toList (q38 [q08])
def w35 (n:Int)(k_l:List q03)(q09:List Bool)(q04 q21:Int)(q22:List UInt8)(q66:Int)(e:List q00×Int):List TV:=match e with|(l,t11)=>frm 30 [(2,.func (.func 100) []),(3,.ref 0 0),(6,.ref 1 0),(7,.tl q05 l (.own 507 26 3)),(10,.int .i64 n),(11,.int .i64 t11)]
def w36 (n:Int)(k_l:List q03)(q09:List Bool)(q04 q21:Int)(q22:List UInt8)(q66:Int)(e:List q00×Int):List TOb:=match e with|(l,t11)=>[.cells [.tl q08 k_l .unk,.tl .bool q09 .unk] 118 true,.cells [.int .u8 q04,.int .i64 q21,.str q22,.int .i64 q66] 115 true]
noncomputable def z16 (N:Nat):(KT q03)→KT q03:=qy2 DR z19 (z17 N) (nv [5,4,1,0,1,1] Tryz.f99) z15 (qr8.loops.drop 1) (qd6 0 (qa6 DR z19 (z17 N) (nv [1,1,1] Tryz.f99) (qr8.loops.drop 1) (ju8 N)))
def w34 (N:Nat)(n:Int)(k_l:List q03)(q09:List Bool)(q04 q21:Int)(q22:List UInt8)(q66:Int)(K0:(List q00×Int)→Option q03)(e:List q00×Int):Option q03:=match e with|(l,t11)=>bif decide (t11<n) then (q65 N (k_l,q09,()) t11).bind fun r=>bif (r.2.1 != 0) then some r else bif qr1 (l.length+([r.1]:List q00).length) 4398046511104 then bif q24 (t11+1) then K0 ((l++([r.1]:List q00)),t11+1) else none else none else (wm9 N l).bind fun r1=>some r1
theorem y31 (N:Nat)(n:Int)(k_l:List q03)(q09:List Bool)(q04 q21:Int)(q22:List UInt8)(q66:Int)(n_:Nat)(e:List q00×Int):q55 (z16 N ) n_ ((w35 n k_l q09 q04 q21 q22 q66) e) ((w36 n k_l q09 q04 q21 q22 q66) e)=q80 (w34 N n k_l q09 q04 q21 q22 q66 ) n_ e :=
 q36 (w35 n k_l q09 q04 q21 q22 q66) (w36 n k_l q09 q04 q21 q22 q66) (by intro K e;obtain⟨l,t11⟩:=e;kernel_rfl) n_ e
def ze5 (N:Nat)(k:q35)(n:Int)(l1:Int→(List q03)→(List Bool)→Int→Int→(List UInt8)→Int→(List q00×Int)→Option q03):Option q03:=l1 n k.1 k.2.1 0 0 [] 0 ([],0)
def qp1 (N:Nat)(k:q35)(n:Int):Option q03:=ze5 N k n (fun n k_l q09 q04 q21 q22 q66 e=>q80 (w34 N n k_l q09 q04 q21 q22 q66) N e)
abbrev z18 :List PK:=[.val q69,.val (.int .i64),.fn 100 0]
noncomputable def ze4 (N:Nat)(k:q35)(n:Int):Option (RT [q08]):=q20 DR Tryz.prog N (w93 N) qr8 Tryz.f99 (q31 Tryz.f99) (RT [q08]) (w01 z18 (k,n,())) [] (q38 [q08])
theorem ju9 (N:Nat)(k:q35)(n:Int):ze4 N k n=qp1 N k n:=by
 have h:ze4 N k n=ze5 N k n (fun n k_l q09 q04 q21 q22 q66 e=>q55 (z16 N ) N (w35 n k_l q09 q04 q21 q22 q66 e) (w36 n k_l q09 q04 q21 q22 q66 e)):=by kernel_rfl
 rw[h]
 simp only[qp1,y31]<;>rfl
def ji6 (m:q35→Int→Option q03):Ent:=qf5 z18 [q08] fun (x:Els [q69,(.int .i64)])=>m x.1 x.2.1
def ws0 (N:Nat):Ent:=ji6 (qp1 N)
theorem j69 (N:Nat):q16 Tryz.prog 99 (ws0 N):=q57 (y29 N) Tryz.func99 rfl (by kernel_rfl) (by kernel_rfl) fun (x:Els [q69,(.int .i64)])=>ju9 N x.1 x.2.1
def yu2 :LH:=⟨[(0,.int .i64),(4,.asis),(9,.asis),(33,.lst q05),(34,.int .i64),(35,.int .i64)],[],[.cells [.int .u8,.int .i64,.str],.cells [.int .u8,.int .i64,.str]]⟩
def zn6 :FH:=⟨[yu2],[],[],[],false,[],[]⟩
noncomputable def jq0 (N:Nat):q46:=tab [(217,qv8 N),(223,w27 N)]
theorem uf0 (N:Nat):q13 Tryz.prog (jq0 N):=q06 (qv9 N)<|q06 (wl8 N)<|q25 _
noncomputable def yu5 :Sc:=w89 Tryz.prog zn6
noncomputable def yu4 (N:Nat):Cfg:=⟨N,jq0 N,0⟩
noncomputable def u67 (N:Nat):Exit→KT OX3:=fin Tryz.prog 0 Tryz.f171.results.toList (q38 [q05,(.int .i64)])
def j42 (c:Int)(t33:List q00)(t34 wq6 q7c:Int)(q7d:List UInt8)(e:Int×Int×Int×List UInt8):List TV:=match e with|(t35,out_Kind,out_N,out_S)=>frm 49 [(0,.int .i64 c),(4,.ref 0 0),(9,.ref 1 0),(33,.tl q05 t33 .unk),(34,.int .i64 t34),(35,.int .i64 t35)]
def j43 (c:Int)(t33:List q00)(t34 wq6 q7c:Int)(q7d:List UInt8)(e:Int×Int×Int×List UInt8):List TOb:=match e with|(t35,out_Kind,out_N,out_S)=>[.cells [.int .u8 wq6,.int .i64 q7c,.str q7d] 26 true,.cells [.int .u8 out_Kind,.int .i64 out_N,.str out_S] 26 true]
noncomputable def yu3 (N:Nat):(KT OX3)→KT OX3:=qy2 DR yu5 (yu4 N) (nv [5,4,1,0,1,1,1,1] Tryz.f171) yu2 (zn6.loops.drop 1) (qd6 0 (qa6 DR yu5 (yu4 N) (nv [1,1,1,1,1] Tryz.f171) (zn6.loops.drop 1) (u67 N)))
def j41 (N:Nat)(c:Int)(t33:List q00)(t34 wq6 q7c:Int)(q7d:List UInt8)(K0:(Int×Int×Int×List UInt8)→Option OX3)(e:Int×Int×Int×List UInt8):Option OX3:=match e with|(t35,out_Kind,out_N,out_S)=>bif decide (t35<t34) then bif inR t35 t33.length then (qk9 N ((q17 t33 t35 q26).2.1) out_N).bind fun r1=>bif (r1==c) then bif q24 (t35+1) then K0 (t35+1,(q17 t33 t35 q26).1,(q17 t33 t35 q26).2.1,(q17 t33 t35 q26).2.2.1) else none else bif q24 (t35+1) then K0 (t35+1,out_Kind,out_N,out_S) else none else none else some ((out_Kind,out_N,out_S,()),0,())
theorem uf1 (N:Nat)(c:Int)(t33:List q00)(t34 wq6 q7c:Int)(q7d:List UInt8)(n_:Nat)(e:Int×Int×Int×List UInt8):q55 (yu3 N ) n_ ((j42 c t33 t34 wq6 q7c q7d) e) ((j43 c t33 t34 wq6 q7c q7d) e)=q80 (j41 N c t33 t34 wq6 q7c q7d ) n_ e :=
 q36 (j42 c t33 t34 wq6 q7c q7d) (j43 c t33 t34 wq6 q7c q7d) (by intro K e;obtain⟨t35,out_Kind,out_N,out_S⟩:=e;kernel_rfl) n_ e
def jq1 (N:Nat)(c:Int)(l:List q00)(l1:Int→(List q00)→Int→Int→Int→(List UInt8)→(Int×Int×Int×List UInt8)→Option OX3):Option OX3:=(q98 N l).bind fun r=>bif r.2.1 then some ((0,0,[],()),r.2.2.1,()) else bif (r.2.2.1 != 0) then some ((0,0,[],()),r.2.2.1,()) else bif ((r.1.length:Int)==0) then some ((0,0,[],()),r.2.2.1,()) else bif inR 0 r.1.length then l1 c r.1 (r.1.length:Int) 0 0 [] (0,(q17 r.1 0 q26).1,(q17 r.1 0 q26).2.1,(q17 r.1 0 q26).2.2.1) else none
def qh4 (N:Nat)(c:Int)(l:List q00):Option OX3:=jq1 N c l (fun c t33 t34 wq6 q7c q7d e=>q80 (j41 N c t33 t34 wq6 q7c q7d) N e)
noncomputable def xk4 (N:Nat)(c:Int)(l:List q00):Option (RT [q05,(.int .i64)]):=q20 DR Tryz.prog N (jq0 N) zn6 Tryz.f171 (q31 Tryz.f171) (RT [q05,(.int .i64)]) (qb7 [(.int .i64),(.list q05)] (c,l,())) [] (q38 [q05,(.int .i64)])
theorem u68 (N:Nat)(c:Int)(l:List q00):xk4 N c l=qh4 N c l:=by
 have h:xk4 N c l=jq1 N c l (fun c t33 t34 wq6 q7c q7d e=>q55 (yu3 N ) N (j42 c t33 t34 wq6 q7c q7d e) (j43 c t33 t34 wq6 q7c q7d e)):=by kernel_rfl
 rw[h]
 simp only[qh4,uf1]<;>rfl
def vf1 (m:Int→(List q00)→Option OX3):Ent:=q29 [(.int .i64),(.list q05)] [q05,(.int .i64)] fun (x:Els [(.int .i64),(.list q05)])=>m x.1 x.2.1
def zw2 (N:Nat):Ent:=vf1 (qh4 N)
theorem je9 (N:Nat):q16 Tryz.prog 171 (zw2 N):=q10 (uf0 N) Tryz.func171 rfl (by kernel_rfl) fun (x:Els [(.int .i64),(.list q05)])=>u68 N x.1 x.2.1
def k62 :FH:=⟨[],[],[],[],false,[],[]⟩
noncomputable def xj4 (N:Nat):q46:=tab [(171,zw2 N)]
theorem ud2 (N:Nat):q13 Tryz.prog (xj4 N):=q06 (je9 N)<|q25 _
def jp5 (N:Nat)(l:List q00):Option OX3:=(qh4 N (-1) l).bind fun r=>some r
noncomputable def k61 (N:Nat)(l:List q00):Option (RT [q05,(.int .i64)]):=q20 DR Tryz.prog N (xj4 N) k62 Tryz.f104 (q31 Tryz.f104) (RT [q05,(.int .i64)]) (qb7 [(.list q05)] (l,())) [] (q38 [q05,(.int .i64)])
theorem u47 (N:Nat)(l:List q00):k61 N l=jp5 N l:=by kernel_rfl
def ve3 (m:(List q00)→Option OX3):Ent:=q29 [(.list q05)] [q05,(.int .i64)] fun (x:Els [(.list q05)])=>m x.1
def yf8 (N:Nat):Ent:=ve3 (jp5 N)
theorem v01 (N:Nat):q16 Tryz.prog 104 (yf8 N):=q10 (ud2 N) Tryz.func104 rfl (by kernel_rfl) fun (x:Els [(.list q05)])=>u47 N x.1
def vm5 :FH:=⟨[],[],[],[],false,[],[]⟩
noncomputable def y88 (N:Nat):q46:=tab [(104,yf8 N),(101,qh6 N)]
theorem vb8 (N:Nat):q13 Tryz.prog (y88 N):=q06 (v01 N)<|q06 (qe0 N)<|q25 _
def wn0 (N:Nat)(l:List q00):Option q03:=(jp5 N l).bind fun r=>(qc7 N r.1 r.2.1).bind fun r1=>some r1
noncomputable def vm4 (N:Nat)(l:List q00):Option (RT [q08]):=q20 DR Tryz.prog N (y88 N) vm5 Tryz.f103 (q31 Tryz.f103) (RT [q08]) (qb7 [(.list q05)] (l,())) [] (q38 [q08])
theorem xo1 (N:Nat)(l:List q00):vm4 N l=wn0 N l:=by kernel_rfl
def xb9 (m:(List q00)→Option q03):Ent:=q29 [(.list q05)] [q08] fun (x:Els [(.list q05)])=>m x.1
def j90 (N:Nat):Ent:=xb9 (wn0 N)
theorem yx8 (N:Nat):q16 Tryz.prog 103 (j90 N):=q10 (vb8 N) Tryz.func103 rfl (by kernel_rfl) fun (x:Els [(.list q05)])=>xo1 N x.1
def z20 :LH:=⟨[(2,.asis),(3,.asis),(6,.asis),(7,.own q05 507 26 3),(10,.int .i64),(11,.int .i64)],[],[.cells [.lst q08,.lst .bool],.cells [.int .u8,.int .i64,.str,.int .i64]]⟩
def qr9 :FH:=⟨[z20],[],[],[],false,[],[]⟩
noncomputable def w94 (N:Nat):q46:=tab [(153,q58 N),(103,j90 N)]
theorem y32 (N:Nat):q13 Tryz.prog (w94 N):=q06 (q53 N)<|q06 (yx8 N)<|q25 _
noncomputable def z24 :Sc:=w89 Tryz.prog qr9
noncomputable def z22 (N:Nat):Cfg:=⟨N,w94 N,0⟩
noncomputable def jv0 (N:Nat):Exit→KT q03:=fin Tryz.prog 0 Tryz.f99.results.toList (q38 [q08])
def w38 (n:Int)(k_l:List q03)(q09:List Bool)(q04 q21:Int)(q22:List UInt8)(q66:Int)(e:List q00×Int):List TV:=match e with|(l,t11)=>frm 30 [(2,.func (.func 103) []),(3,.ref 0 0),(6,.ref 1 0),(7,.tl q05 l (.own 507 26 3)),(10,.int .i64 n),(11,.int .i64 t11)]
def w39 (n:Int)(k_l:List q03)(q09:List Bool)(q04 q21:Int)(q22:List UInt8)(q66:Int)(e:List q00×Int):List TOb:=match e with|(l,t11)=>[.cells [.tl q08 k_l .unk,.tl .bool q09 .unk] 118 true,.cells [.int .u8 q04,.int .i64 q21,.str q22,.int .i64 q66] 115 true]
noncomputable def z21 (N:Nat):(KT q03)→KT q03:=qy2 DR z24 (z22 N) (nv [5,4,1,0,1,1] Tryz.f99) z20 (qr9.loops.drop 1) (qd6 0 (qa6 DR z24 (z22 N) (nv [1,1,1] Tryz.f99) (qr9.loops.drop 1) (jv0 N)))
def w37 (N:Nat)(n:Int)(k_l:List q03)(q09:List Bool)(q04 q21:Int)(q22:List UInt8)(q66:Int)(K0:(List q00×Int)→Option q03)(e:List q00×Int):Option q03:=match e with|(l,t11)=>bif decide (t11<n) then (q65 N (k_l,q09,()) t11).bind fun r=>bif (r.2.1 != 0) then some r else bif qr1 (l.length+([r.1]:List q00).length) 4398046511104 then bif q24 (t11+1) then K0 ((l++([r.1]:List q00)),t11+1) else none else none else (wn0 N l).bind fun r1=>some r1
theorem y34 (N:Nat)(n:Int)(k_l:List q03)(q09:List Bool)(q04 q21:Int)(q22:List UInt8)(q66:Int)(n_:Nat)(e:List q00×Int):q55 (z21 N ) n_ ((w38 n k_l q09 q04 q21 q22 q66) e) ((w39 n k_l q09 q04 q21 q22 q66) e)=q80 (w37 N n k_l q09 q04 q21 q22 q66 ) n_ e :=
 q36 (w38 n k_l q09 q04 q21 q22 q66) (w39 n k_l q09 q04 q21 q22 q66) (by intro K e;obtain⟨l,t11⟩:=e;kernel_rfl) n_ e
def ze7 (N:Nat)(k:q35)(n:Int)(l1:Int→(List q03)→(List Bool)→Int→Int→(List UInt8)→Int→(List q00×Int)→Option q03):Option q03:=l1 n k.1 k.2.1 0 0 [] 0 ([],0)
def qi3 (N:Nat)(k:q35)(n:Int):Option q03:=ze7 N k n (fun n k_l q09 q04 q21 q22 q66 e=>q80 (w37 N n k_l q09 q04 q21 q22 q66) N e)
abbrev z23 :List PK:=[.val q69,.val (.int .i64),.fn 103 0]
noncomputable def ze6 (N:Nat)(k:q35)(n:Int):Option (RT [q08]):=q20 DR Tryz.prog N (w94 N) qr9 Tryz.f99 (q31 Tryz.f99) (RT [q08]) (w01 z23 (k,n,())) [] (q38 [q08])
theorem jv1 (N:Nat)(k:q35)(n:Int):ze6 N k n=qi3 N k n:=by
 have h:ze6 N k n=ze7 N k n (fun n k_l q09 q04 q21 q22 q66 e=>q55 (z21 N ) N (w38 n k_l q09 q04 q21 q22 q66 e) (w39 n k_l q09 q04 q21 q22 q66 e)):=by kernel_rfl
 rw[h]
 simp only[qi3,y34]<;>rfl
def ji7 (m:q35→Int→Option q03):Ent:=qf5 z23 [q08] fun (x:Els [q69,(.int .i64)])=>m x.1 x.2.1
def ws1 (N:Nat):Ent:=ji7 (qi3 N)
theorem j70 (N:Nat):q16 Tryz.prog 99 (ws1 N):=q57 (y32 N) Tryz.func99 rfl (by kernel_rfl) (by kernel_rfl) fun (x:Els [q69,(.int .i64)])=>jv1 N x.1 x.2.1
def kt3 :FH:=⟨[],[],[],[],false,[],[]⟩
noncomputable def va0 (N:Nat):q46:=tab [(171,zw2 N)]
theorem k64 (N:Nat):q13 Tryz.prog (va0 N):=q06 (je9 N)<|q25 _
def yk7 (N:Nat)(l:List q00):Option OX3:=(qh4 N 1 l).bind fun r=>some r
noncomputable def kt2 (N:Nat)(l:List q00):Option (RT [q05,(.int .i64)]):=q20 DR Tryz.prog N (va0 N) kt3 Tryz.f106 (q31 Tryz.f106) (RT [q05,(.int .i64)]) (qb7 [(.list q05)] (l,())) [] (q38 [q05,(.int .i64)])
theorem ud4 (N:Nat)(l:List q00):kt2 N l=yk7 N l:=by kernel_rfl
def u50 (m:(List q00)→Option OX3):Ent:=q29 [(.list q05)] [q05,(.int .i64)] fun (x:Els [(.list q05)])=>m x.1
def yt4 (N:Nat):Ent:=u50 (yk7 N)
theorem ve4 (N:Nat):q16 Tryz.prog 106 (yt4 N):=q10 (k64 N) Tryz.func106 rfl (by kernel_rfl) fun (x:Els [(.list q05)])=>ud4 N x.1
def vm7 :FH:=⟨[],[],[],[],false,[],[]⟩
noncomputable def y89 (N:Nat):q46:=tab [(106,yt4 N),(101,qh6 N)]
theorem vb9 (N:Nat):q13 Tryz.prog (y89 N):=q06 (ve4 N)<|q06 (qe0 N)<|q25 _
def wn1 (N:Nat)(l:List q00):Option q03:=(yk7 N l).bind fun r=>(qc7 N r.1 r.2.1).bind fun r1=>some r1
noncomputable def vm6 (N:Nat)(l:List q00):Option (RT [q08]):=q20 DR Tryz.prog N (y89 N) vm7 Tryz.f105 (q31 Tryz.f105) (RT [q08]) (qb7 [(.list q05)] (l,())) [] (q38 [q08])
theorem xo2 (N:Nat)(l:List q00):vm6 N l=wn1 N l:=by kernel_rfl
def xc0 (m:(List q00)→Option q03):Ent:=q29 [(.list q05)] [q08] fun (x:Els [(.list q05)])=>m x.1
def j91 (N:Nat):Ent:=xc0 (wn1 N)
theorem yx9 (N:Nat):q16 Tryz.prog 105 (j91 N):=q10 (vb9 N) Tryz.func105 rfl (by kernel_rfl) fun (x:Els [(.list q05)])=>xo2 N x.1
def z25 :LH:=⟨[(2,.asis),(3,.asis),(6,.asis),(7,.own q05 507 26 3),(10,.int .i64),(11,.int .i64)],[],[.cells [.lst q08,.lst .bool],.cells [.int .u8,.int .i64,.str,.int .i64]]⟩
def qs1 :FH:=⟨[z25],[],[],[],false,[],[]⟩
noncomputable def w95 (N:Nat):q46:=tab [(153,q58 N),(105,j91 N)]
theorem y35 (N:Nat):q13 Tryz.prog (w95 N):=q06 (q53 N)<|q06 (yx9 N)<|q25 _
noncomputable def z29 :Sc:=w89 Tryz.prog qs1
noncomputable def z27 (N:Nat):Cfg:=⟨N,w95 N,0⟩
noncomputable def jv2 (N:Nat):Exit→KT q03:=fin Tryz.prog 0 Tryz.f99.results.toList (q38 [q08])
def w41 (n:Int)(k_l:List q03)(q09:List Bool)(q04 q21:Int)(q22:List UInt8)(q66:Int)(e:List q00×Int):List TV:=match e with|(l,t11)=>frm 30 [(2,.func (.func 105) []),(3,.ref 0 0),(6,.ref 1 0),(7,.tl q05 l (.own 507 26 3)),(10,.int .i64 n),(11,.int .i64 t11)]
def w42 (n:Int)(k_l:List q03)(q09:List Bool)(q04 q21:Int)(q22:List UInt8)(q66:Int)(e:List q00×Int):List TOb:=match e with|(l,t11)=>[.cells [.tl q08 k_l .unk,.tl .bool q09 .unk] 118 true,.cells [.int .u8 q04,.int .i64 q21,.str q22,.int .i64 q66] 115 true]
noncomputable def z26 (N:Nat):(KT q03)→KT q03:=qy2 DR z29 (z27 N) (nv [5,4,1,0,1,1] Tryz.f99) z25 (qs1.loops.drop 1) (qd6 0 (qa6 DR z29 (z27 N) (nv [1,1,1] Tryz.f99) (qs1.loops.drop 1) (jv2 N)))
def w40 (N:Nat)(n:Int)(k_l:List q03)(q09:List Bool)(q04 q21:Int)(q22:List UInt8)(q66:Int)(K0:(List q00×Int)→Option q03)(e:List q00×Int):Option q03:=match e with|(l,t11)=>bif decide (t11<n) then (q65 N (k_l,q09,()) t11).bind fun r=>bif (r.2.1 != 0) then some r else bif qr1 (l.length+([r.1]:List q00).length) 4398046511104 then bif q24 (t11+1) then K0 ((l++([r.1]:List q00)),t11+1) else none else none else (wn1 N l).bind fun r1=>some r1
theorem y37 (N:Nat)(n:Int)(k_l:List q03)(q09:List Bool)(q04 q21:Int)(q22:List UInt8)(q66:Int)(n_:Nat)(e:List q00×Int):q55 (z26 N ) n_ ((w41 n k_l q09 q04 q21 q22 q66) e) ((w42 n k_l q09 q04 q21 q22 q66) e)=q80 (w40 N n k_l q09 q04 q21 q22 q66 ) n_ e :=
 q36 (w41 n k_l q09 q04 q21 q22 q66) (w42 n k_l q09 q04 q21 q22 q66) (by intro K e;obtain⟨l,t11⟩:=e;kernel_rfl) n_ e
def ze9 (N:Nat)(k:q35)(n:Int)(l1:Int→(List q03)→(List Bool)→Int→Int→(List UInt8)→Int→(List q00×Int)→Option q03):Option q03:=l1 n k.1 k.2.1 0 0 [] 0 ([],0)
def qi4 (N:Nat)(k:q35)(n:Int):Option q03:=ze9 N k n (fun n k_l q09 q04 q21 q22 q66 e=>q80 (w40 N n k_l q09 q04 q21 q22 q66) N e)
abbrev z28 :List PK:=[.val q69,.val (.int .i64),.fn 105 0]
noncomputable def ze8 (N:Nat)(k:q35)(n:Int):Option (RT [q08]):=q20 DR Tryz.prog N (w95 N) qs1 Tryz.f99 (q31 Tryz.f99) (RT [q08]) (w01 z28 (k,n,())) [] (q38 [q08])
theorem jv3 (N:Nat)(k:q35)(n:Int):ze8 N k n=qi4 N k n:=by
 have h:ze8 N k n=ze9 N k n (fun n k_l q09 q04 q21 q22 q66 e=>q55 (z26 N ) N (w41 n k_l q09 q04 q21 q22 q66 e) (w42 n k_l q09 q04 q21 q22 q66 e)):=by kernel_rfl
 rw[h]
 simp only[qi4,y37]<;>rfl
def ji8 (m:q35→Int→Option q03):Ent:=qf5 z28 [q08] fun (x:Els [q69,(.int .i64)])=>m x.1 x.2.1
def ws2 (N:Nat):Ent:=ji8 (qi4 N)
theorem j71 (N:Nat):q16 Tryz.prog 99 (ws2 N):=q57 (y35 N) Tryz.func99 rfl (by kernel_rfl) (by kernel_rfl) fun (x:Els [q69,(.int .i64)])=>jv3 N x.1 x.2.1
def q8c :FH:=⟨[],[],[],[],false,[],[]⟩
noncomputable def ug4 (N:Nat):q46:=tab [(159,qd9 N),(76,q91 N),(102,jp6 N),(101,qh6 N)]
theorem kw7 (N:Nat):q13 Tryz.prog (ug4 N):=q06 (qc6 N)<|q06 (q81 N)<|q06 (yg0 N)<|q06 (qe0 N)<|q25 _
def yh3 (N:Nat)(l:List q00):Option q03:=(qb2 N 1 2 l).bind fun r=>bif (!r) then (qd8 N 8).bind fun r1=>some r1 else bif inR 0 l.length then bif decide (((q17 l 0 q26).2.1)<0) then bif inR 0 l.length then (je8 N (q17 l 0 q26)).bind fun r2=>(qc7 N r2.1 r2.2.1).bind fun r3=>some r3 else none else bif inR 0 l.length then some ((q17 l 0 q26),0,()) else none else none
noncomputable def q8b (N:Nat)(l:List q00):Option (RT [q08]):=q20 DR Tryz.prog N (ug4 N) q8c Tryz.f107 (q31 Tryz.f107) (RT [q08]) (qb7 [(.list q05)] (l,())) [] (q38 [q08])
theorem kc2 (N:Nat)(l:List q00):q8b N l=yh3 N l:=by kernel_rfl
def ut6 (m:(List q00)→Option q03):Ent:=q29 [(.list q05)] [q08] fun (x:Els [(.list q05)])=>m x.1
def v27 (N:Nat):Ent:=ut6 (yh3 N)
theorem u89 (N:Nat):q16 Tryz.prog 107 (v27 N):=q10 (kw7 N) Tryz.func107 rfl (by kernel_rfl) fun (x:Els [(.list q05)])=>kc2 N x.1
end Go.Proofs.YtgicljncknbgcaaGreat.Abs
