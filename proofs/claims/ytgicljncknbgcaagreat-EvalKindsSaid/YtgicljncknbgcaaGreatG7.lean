/- The functions of the program, told on typed values, printed by a program: each tells what the reckoning of its body tells. -/
import Derived.Test.YtgicljncknbgcaaGreatL7
import Derived.Test.YtgicljncknbgcaaGreatG6
import Derived.Test.YtgicljncknbgcaaGreatLA
import Derived.Test.YtgicljncknbgcaaGreatProg
set_option linter.unusedVariables false
set_option linter.unusedSimpArgs false
set_option linter.unusedSectionVars false
namespace Go.Proofs.YtgicljncknbgcaaGreat.Abs
set_option maxRecDepth 100000
open Go Go.Proofs
def z30 :LH:=⟨[(2,.asis),(3,.asis),(6,.asis),(7,.own q05 507 26 3),(10,.int .i64),(11,.int .i64)],[],[.cells [.lst q08,.lst .bool],.cells [.int .u8,.int .i64,.str,.int .i64]]⟩
def qs3 :FH:=⟨[z30],[],[],[],false,[],[]⟩
noncomputable def w97 (N:Nat):q46:=tab [(153,q58 N),(107,v27 N)]
theorem y38 (N:Nat):q13 Tryz.prog (w97 N):=q06 (q53 N)<|q06 (u89 N)<|q25 _
noncomputable def z35 :Sc:=w89 Tryz.prog qs3
noncomputable def z32 (N:Nat):Cfg:=⟨N,w97 N,0⟩
noncomputable def jv4 (N:Nat):Exit→KT q03:=fin Tryz.prog 0 Tryz.f99.results.toList (q38 [q08])
def w44 (n:Int)(k_l:List q03)(q09:List Bool)(q04 q21:Int)(q22:List UInt8)(q66:Int)(e:List q00×Int):List TV:=match e with|(l,t11)=>frm 30 [(2,.func (.func 107) []),(3,.ref 0 0),(6,.ref 1 0),(7,.tl q05 l (.own 507 26 3)),(10,.int .i64 n),(11,.int .i64 t11)]
def w45 (n:Int)(k_l:List q03)(q09:List Bool)(q04 q21:Int)(q22:List UInt8)(q66:Int)(e:List q00×Int):List TOb:=match e with|(l,t11)=>[.cells [.tl q08 k_l .unk,.tl .bool q09 .unk] 118 true,.cells [.int .u8 q04,.int .i64 q21,.str q22,.int .i64 q66] 115 true]
noncomputable def z31 (N:Nat):(KT q03)→KT q03:=qy2 DR z35 (z32 N) (nv [5,4,1,0,1,1] Tryz.f99) z30 (qs3.loops.drop 1) (qd6 0 (qa6 DR z35 (z32 N) (nv [1,1,1] Tryz.f99) (qs3.loops.drop 1) (jv4 N)))
def w43 (N:Nat)(n:Int)(k_l:List q03)(q09:List Bool)(q04 q21:Int)(q22:List UInt8)(q66:Int)(K0:(List q00×Int)→Option q03)(e:List q00×Int):Option q03:=match e with|(l,t11)=>bif decide (t11<n) then (q65 N (k_l,q09,()) t11).bind fun r=>bif (r.2.1 != 0) then some r else bif qr1 (l.length+([r.1]:List q00).length) 4398046511104 then bif q24 (t11+1) then K0 ((l++([r.1]:List q00)),t11+1) else none else none else (yh3 N l).bind fun r1=>some r1
theorem y40 (N:Nat)(n:Int)(k_l:List q03)(q09:List Bool)(q04 q21:Int)(q22:List UInt8)(q66:Int)(n_:Nat)(e:List q00×Int):q55 (z31 N ) n_ ((w44 n k_l q09 q04 q21 q22 q66) e) ((w45 n k_l q09 q04 q21 q22 q66) e)=q80 (w43 N n k_l q09 q04 q21 q22 q66 ) n_ e :=
 q36 (w44 n k_l q09 q04 q21 q22 q66) (w45 n k_l q09 q04 q21 q22 q66) (by intro K e;obtain⟨l,t11⟩:=e;kernel_rfl) n_ e
def zf1 (N:Nat)(k:q35)(n:Int)(l1:Int→(List q03)→(List Bool)→Int→Int→(List UInt8)→Int→(List q00×Int)→Option q03):Option q03:=l1 n k.1 k.2.1 0 0 [] 0 ([],0)
def qp2 (N:Nat)(k:q35)(n:Int):Option q03:=zf1 N k n (fun n k_l q09 q04 q21 q22 q66 e=>q80 (w43 N n k_l q09 q04 q21 q22 q66) N e)
abbrev z33 :List PK:=[.val q69,.val (.int .i64),.fn 107 0]
noncomputable def zf0 (N:Nat)(k:q35)(n:Int):Option (RT [q08]):=q20 DR Tryz.prog N (w97 N) qs3 Tryz.f99 (q31 Tryz.f99) (RT [q08]) (w01 z33 (k,n,())) [] (q38 [q08])
theorem jv5 (N:Nat)(k:q35)(n:Int):zf0 N k n=qp2 N k n:=by
 have h:zf0 N k n=zf1 N k n (fun n k_l q09 q04 q21 q22 q66 e=>q55 (z31 N ) N (w44 n k_l q09 q04 q21 q22 q66 e) (w45 n k_l q09 q04 q21 q22 q66 e)):=by kernel_rfl
 rw[h]
 simp only[qp2,y40]<;>rfl
def ji9 (m:q35→Int→Option q03):Ent:=qf5 z33 [q08] fun (x:Els [q69,(.int .i64)])=>m x.1 x.2.1
def ws3 (N:Nat):Ent:=ji9 (qp2 N)
theorem j72 (N:Nat):q16 Tryz.prog 99 (ws3 N):=q57 (y38 N) Tryz.func99 rfl (by kernel_rfl) (by kernel_rfl) fun (x:Els [q69,(.int .i64)])=>jv5 N x.1 x.2.1
def num_Mod_H :FH:=⟨[],[],[],[],false,[],[]⟩
noncomputable def kf5 (N:Nat):q46:=tab [(220,z74 N),(221,we1 N)]
theorem q8u (N:Nat):q13 Tryz.prog (kf5 N):=q06 (z00 N)<|q06 (wf3 N)<|q25 _
def vq3 (N:Nat)(a b:Int):Option (Int×Int×Unit):=bif (b==0) then some (0,10,()) else (w72 N a).bind fun r=>(w72 N b).bind fun r1=>bif decide (r1≠0) then (ql0 N (decide (a<0)) 0 (Int.tmod r r1)).bind fun r2=>some r2 else none
noncomputable def num_Mod_C (N:Nat)(a b:Int):Option (RT [(.int .i64),(.int .i64)]):=q20 DR Tryz.prog N (kf5 N) num_Mod_H Tryz.f172 (q31 Tryz.f172) (RT [(.int .i64),(.int .i64)]) (qb7 [(.int .i64),(.int .i64)] (a,b,())) [] (q38 [(.int .i64),(.int .i64)])
theorem ky7 (N:Nat)(a b:Int):num_Mod_C N a b=vq3 N a b:=by kernel_rfl
def kf6 (m:Int→Int→Option (Int×Int×Unit)):Ent:=q29 [(.int .i64),(.int .i64)] [(.int .i64),(.int .i64)] fun (x:Els [(.int .i64),(.int .i64)])=>m x.1 x.2.1
def vq4 (N:Nat):Ent:=kf6 (vq3 N)
theorem uw5 (N:Nat):q16 Tryz.prog 172 (vq4 N):=q10 (q8u N) Tryz.func172 rfl (by kernel_rfl) fun (x:Els [(.int .i64),(.int .i64)])=>ky7 N x.1 x.2.1
def uu5 :FH:=⟨[],[],[],[],false,[],[]⟩
noncomputable def xb7 (N:Nat):q46:=tab []
theorem u97 (N:Nat):q13 Tryz.prog (xb7 N):=q25 _
def zt1 (N:Nat)(n:Int):Option q00:=some (1,n,[],())
noncomputable def uu4 (N:Nat)(n:Int):Option (RT [q05]):=q20 DR Tryz.prog N (xb7 N) uu5 Tryz.f110 (q31 Tryz.f110) (RT [q05]) (qb7 [(.int .i64)] (n,())) [] (q38 [q05])
theorem vm1 (N:Nat)(n:Int):uu4 N n=zt1 N n:=by kernel_rfl
def vb6 (m:Int→Option q00):Ent:=q29 [(.int .i64)] [q05] fun (x:Els [(.int .i64)])=>m x.1
def zt2 (N:Nat):Ent:=vb6 (zt1 N)
theorem j88 (N:Nat):q16 Tryz.prog 110 (zt2 N):=q10 (u97 N) Tryz.func110 rfl (by kernel_rfl) fun (x:Els [(.int .i64)])=>vm1 N x.1
def q8f :FH:=⟨[],[],[(1,⟨13,21,0,[],[]⟩)],[],false,[],[]⟩
noncomputable def ug5 (N:Nat):q46:=tab [(172,vq4 N),(110,zt2 N),(101,qh6 N)]
theorem kx2 (N:Nat):q13 Tryz.prog (ug5 N):=q06 (uw5 N)<|q06 (j88 N)<|q06 (qe0 N)<|q25 _
def vg7 (N:Nat)(l:List q00):Option q03:=bif inR 0 l.length then bif inR 1 l.length then (vq3 N ((q17 l 0 q26).2.1) ((q17 l 1 q26).2.1)).bind fun r=>(zt1 N r.1).bind fun r1=>(qc7 N r1 r.2.1).bind fun r2=>some r2 else none else none
noncomputable def q8e (N:Nat)(l:List q00):Option (RT [q08]):=q20 DR Tryz.prog N (ug5 N) q8f Tryz.f108 (q31 Tryz.f108) (RT [q08]) (qb7 [(.list q05)] (l,())) [] (q38 [q08])
theorem kc9 (N:Nat)(l:List q00):q8e N l=vg7 N l:=by kernel_rfl
def uu3 (m:(List q00)→Option q03):Ent:=q29 [(.list q05)] [q08] fun (x:Els [(.list q05)])=>m x.1
def v34 (N:Nat):Ent:=uu3 (vg7 N)
theorem u96 (N:Nat):q16 Tryz.prog 108 (v34 N):=q10 (kx2 N) Tryz.func108 rfl (by kernel_rfl) fun (x:Els [(.list q05)])=>kc9 N x.1
def y72 :FH:=⟨[],[],[],[],false,[],[]⟩
noncomputable def z61 (N:Nat):q46:=tab [(159,qd9 N),(76,q91 N),(157,qb5 N),(108,v34 N)]
theorem jx3 (N:Nat):q13 Tryz.prog (z61 N):=q06 (qc6 N)<|q06 (q81 N)<|q06 (qa9 N)<|q06 (u96 N)<|q25 _
def qg0 (N:Nat)(l:List q00)(t1:Int):Option q03:=(qb2 N t1 t1 l).bind fun r=>bif (!r) then (qd8 N 8).bind fun r1=>some r1 else (q82 N l).bind fun r2=>bif r2 then some ((0,0,[],()),0,()) else (vg7 N l).bind fun r3=>some r3
abbrev ws8 :List PK:=[.val (.list q05),.ep 1,.val (.int .u8),.ep 1,.fn 108 0]
noncomputable def y71 (N:Nat)(l:List q00)(t1:Int):Option (RT [q08]):=q20 DR Tryz.prog N (z61 N) y72 Tryz.f160 (q31 Tryz.f160) (RT [q08]) (w01 ws8 (l,t1,())) [] (q38 [q08])
theorem jk3 (N:Nat)(l:List q00)(t1:Int):y71 N l t1=qg0 N l t1:=by kernel_rfl
def j77 (m:(List q00)→Int→Option q03):Ent:=qf5 ws8 [q08] fun (x:Els [(.list q05),(.int .u8)])=>m x.1 x.2.1
def wm3 (N:Nat):Ent:=j77 (qg0 N)
theorem j26 (N:Nat):q16 Tryz.prog 160 (wm3 N):=q57 (jx3 N) Tryz.func160 rfl (by kernel_rfl) (by kernel_rfl) fun (x:Els [(.list q05),(.int .u8)])=>jk3 N x.1 x.2.1
def z36 :LH:=⟨[(2,.asis),(3,.asis),(6,.asis),(7,.own q05 507 26 3),(10,.int .i64),(11,.int .i64)],[],[.cells [.lst q08,.lst .bool],.cells [.int .u8,.int .i64,.str,.int .i64]]⟩
def qs4 :FH:=⟨[z36],[],[],[],false,[],[]⟩
noncomputable def w99 (N:Nat):q46:=tab [(153,q58 N),(160,wm3 N)]
theorem y41 (N:Nat):q13 Tryz.prog (w99 N):=q06 (q53 N)<|q06 (j26 N)<|q25 _
noncomputable def z40 :Sc:=w89 Tryz.prog qs4
noncomputable def z38 (N:Nat):Cfg:=⟨N,w99 N,0⟩
noncomputable def jv6 (N:Nat):Exit→KT q03:=fin Tryz.prog 0 Tryz.f99.results.toList (q38 [q08])
def w47 (n:Int)(k_l:List q03)(q09:List Bool)(q04 q21:Int)(q22:List UInt8)(q66 t1:Int)(e:List q00×Int):List TV:=match e with|(l,t11)=>frm 30 [(2,.func (.func 160) [.ep [.int .u8 t1] 0,.ep [.func (.func 108) []] 0]),(3,.ref 0 0),(6,.ref 1 0),(7,.tl q05 l (.own 507 26 3)),(10,.int .i64 n),(11,.int .i64 t11)]
def w48 (n:Int)(k_l:List q03)(q09:List Bool)(q04 q21:Int)(q22:List UInt8)(q66 t1:Int)(e:List q00×Int):List TOb:=match e with|(l,t11)=>[.cells [.tl q08 k_l .unk,.tl .bool q09 .unk] 118 true,.cells [.int .u8 q04,.int .i64 q21,.str q22,.int .i64 q66] 115 true]
noncomputable def z37 (N:Nat):(KT q03)→KT q03:=qy2 DR z40 (z38 N) (nv [5,4,1,0,1,1] Tryz.f99) z36 (qs4.loops.drop 1) (qd6 0 (qa6 DR z40 (z38 N) (nv [1,1,1] Tryz.f99) (qs4.loops.drop 1) (jv6 N)))
def w46 (N:Nat)(n:Int)(k_l:List q03)(q09:List Bool)(q04 q21:Int)(q22:List UInt8)(q66 t1:Int)(K0:(List q00×Int)→Option q03)(e:List q00×Int):Option q03:=match e with|(l,t11)=>bif decide (t11<n) then (q65 N (k_l,q09,()) t11).bind fun r=>bif (r.2.1 != 0) then some r else bif qr1 (l.length+([r.1]:List q00).length) 4398046511104 then bif q24 (t11+1) then K0 ((l++([r.1]:List q00)),t11+1) else none else none else (qg0 N l t1).bind fun r1=>some r1
theorem y43 (N:Nat)(n:Int)(k_l:List q03)(q09:List Bool)(q04 q21:Int)(q22:List UInt8)(q66 t1:Int)(n_:Nat)(e:List q00×Int):q55 (z37 N ) n_ ((w47 n k_l q09 q04 q21 q22 q66 t1) e) ((w48 n k_l q09 q04 q21 q22 q66 t1) e)=q80 (w46 N n k_l q09 q04 q21 q22 q66 t1 ) n_ e :=
 q36 (w47 n k_l q09 q04 q21 q22 q66 t1) (w48 n k_l q09 q04 q21 q22 q66 t1) (by intro K e;obtain⟨l,t11⟩:=e;kernel_rfl) n_ e
def zf3 (N:Nat)(k:q35)(n t1:Int)(l1:Int→(List q03)→(List Bool)→Int→Int→(List UInt8)→Int→Int→(List q00×Int)→Option q03):Option q03:=l1 n k.1 k.2.1 0 0 [] 0 t1 ([],0)
def qp3 (N:Nat)(k:q35)(n t1:Int):Option q03:=zf3 N k n t1 (fun n k_l q09 q04 q21 q22 q66 t1 e=>q80 (w46 N n k_l q09 q04 q21 q22 q66 t1) N e)
abbrev z39 :List PK:=[.val q69,.val (.int .i64),.fn 160 2,.ep 1,.val (.int .u8),.ep 1,.fn 108 0]
noncomputable def zf2 (N:Nat)(k:q35)(n t1:Int):Option (RT [q08]):=q20 DR Tryz.prog N (w99 N) qs4 Tryz.f99 (q31 Tryz.f99) (RT [q08]) (w01 z39 (k,n,t1,())) [] (q38 [q08])
theorem jv7 (N:Nat)(k:q35)(n t1:Int):zf2 N k n t1=qp3 N k n t1:=by
 have h:zf2 N k n t1=zf3 N k n t1 (fun n k_l q09 q04 q21 q22 q66 t1 e=>q55 (z37 N ) N (w47 n k_l q09 q04 q21 q22 q66 t1 e) (w48 n k_l q09 q04 q21 q22 q66 t1 e)):=by kernel_rfl
 rw[h]
 simp only[qp3,y43]<;>rfl
def jj0 (m:q35→Int→Int→Option q03):Ent:=qf5 z39 [q08] fun (x:Els [q69,(.int .i64),(.int .u8)])=>m x.1 x.2.1 x.2.2.1
def ws4 (N:Nat):Ent:=jj0 (qp3 N)
theorem j73 (N:Nat):q16 Tryz.prog 99 (ws4 N):=q57 (y41 N) Tryz.func99 rfl (by kernel_rfl) (by kernel_rfl) fun (x:Els [q69,(.int .i64),(.int .u8)])=>jv7 N x.1 x.2.1 x.2.2.1
def vm9 :FH:=⟨[],[],[],[],false,[],[]⟩
noncomputable def y90 (N:Nat):q46:=tab [(110,zt2 N)]
theorem vc0 (N:Nat):q13 Tryz.prog (y90 N):=q06 (j88 N)<|q25 _
def jl4 (N:Nat)(l:List q00):Option q03:=bif inR 0 l.length then (zt1 N (((q17 l 0 q26).2.2.1).length:Int)).bind fun r=>some (r,0,()) else none
noncomputable def vm8 (N:Nat)(l:List q00):Option (RT [q08]):=q20 DR Tryz.prog N (y90 N) vm9 Tryz.f109 (q31 Tryz.f109) (RT [q08]) (qb7 [(.list q05)] (l,())) [] (q38 [q08])
theorem xo3 (N:Nat)(l:List q00):vm8 N l=jl4 N l:=by kernel_rfl
def xc1 (m:(List q00)→Option q03):Ent:=q29 [(.list q05)] [q08] fun (x:Els [(.list q05)])=>m x.1
def j92 (N:Nat):Ent:=xc1 (jl4 N)
theorem yy0 (N:Nat):q16 Tryz.prog 109 (j92 N):=q10 (vc0 N) Tryz.func109 rfl (by kernel_rfl) fun (x:Els [(.list q05)])=>xo3 N x.1
def y74 :FH:=⟨[],[],[],[],false,[],[]⟩
noncomputable def z62 (N:Nat):q46:=tab [(159,qd9 N),(76,q91 N),(157,qb5 N),(109,j92 N)]
theorem jx4 (N:Nat):q13 Tryz.prog (z62 N):=q06 (qc6 N)<|q06 (q81 N)<|q06 (qa9 N)<|q06 (yy0 N)<|q25 _
def qg1 (N:Nat)(l:List q00)(t1:Int):Option q03:=(qb2 N t1 t1 l).bind fun r=>bif (!r) then (qd8 N 8).bind fun r1=>some r1 else (q82 N l).bind fun r2=>bif r2 then some ((0,0,[],()),0,()) else (jl4 N l).bind fun r3=>some r3
abbrev ws9 :List PK:=[.val (.list q05),.ep 1,.val (.int .u8),.ep 1,.fn 109 0]
noncomputable def y73 (N:Nat)(l:List q00)(t1:Int):Option (RT [q08]):=q20 DR Tryz.prog N (z62 N) y74 Tryz.f160 (q31 Tryz.f160) (RT [q08]) (w01 ws9 (l,t1,())) [] (q38 [q08])
theorem jk4 (N:Nat)(l:List q00)(t1:Int):y73 N l t1=qg1 N l t1:=by kernel_rfl
def j78 (m:(List q00)→Int→Option q03):Ent:=qf5 ws9 [q08] fun (x:Els [(.list q05),(.int .u8)])=>m x.1 x.2.1
def wm4 (N:Nat):Ent:=j78 (qg1 N)
theorem j27 (N:Nat):q16 Tryz.prog 160 (wm4 N):=q57 (jx4 N) Tryz.func160 rfl (by kernel_rfl) (by kernel_rfl) fun (x:Els [(.list q05),(.int .u8)])=>jk4 N x.1 x.2.1
def z41 :LH:=⟨[(2,.asis),(3,.asis),(6,.asis),(7,.own q05 507 26 3),(10,.int .i64),(11,.int .i64)],[],[.cells [.lst q08,.lst .bool],.cells [.int .u8,.int .i64,.str,.int .i64]]⟩
def qs5 :FH:=⟨[z41],[],[],[],false,[],[]⟩
noncomputable def wa1 (N:Nat):q46:=tab [(153,q58 N),(160,wm4 N)]
theorem y44 (N:Nat):q13 Tryz.prog (wa1 N):=q06 (q53 N)<|q06 (j27 N)<|q25 _
noncomputable def z45 :Sc:=w89 Tryz.prog qs5
noncomputable def z43 (N:Nat):Cfg:=⟨N,wa1 N,0⟩
noncomputable def jv8 (N:Nat):Exit→KT q03:=fin Tryz.prog 0 Tryz.f99.results.toList (q38 [q08])
def w50 (n:Int)(k_l:List q03)(q09:List Bool)(q04 q21:Int)(q22:List UInt8)(q66 t1:Int)(e:List q00×Int):List TV:=match e with|(l,t11)=>frm 30 [(2,.func (.func 160) [.ep [.int .u8 t1] 0,.ep [.func (.func 109) []] 0]),(3,.ref 0 0),(6,.ref 1 0),(7,.tl q05 l (.own 507 26 3)),(10,.int .i64 n),(11,.int .i64 t11)]
def w51 (n:Int)(k_l:List q03)(q09:List Bool)(q04 q21:Int)(q22:List UInt8)(q66 t1:Int)(e:List q00×Int):List TOb:=match e with|(l,t11)=>[.cells [.tl q08 k_l .unk,.tl .bool q09 .unk] 118 true,.cells [.int .u8 q04,.int .i64 q21,.str q22,.int .i64 q66] 115 true]
noncomputable def z42 (N:Nat):(KT q03)→KT q03:=qy2 DR z45 (z43 N) (nv [5,4,1,0,1,1] Tryz.f99) z41 (qs5.loops.drop 1) (qd6 0 (qa6 DR z45 (z43 N) (nv [1,1,1] Tryz.f99) (qs5.loops.drop 1) (jv8 N)))
def w49 (N:Nat)(n:Int)(k_l:List q03)(q09:List Bool)(q04 q21:Int)(q22:List UInt8)(q66 t1:Int)(K0:(List q00×Int)→Option q03)(e:List q00×Int):Option q03:=match e with|(l,t11)=>bif decide (t11<n) then (q65 N (k_l,q09,()) t11).bind fun r=>bif (r.2.1 != 0) then some r else bif qr1 (l.length+([r.1]:List q00).length) 4398046511104 then bif q24 (t11+1) then K0 ((l++([r.1]:List q00)),t11+1) else none else none else (qg1 N l t1).bind fun r1=>some r1
theorem y46 (N:Nat)(n:Int)(k_l:List q03)(q09:List Bool)(q04 q21:Int)(q22:List UInt8)(q66 t1:Int)(n_:Nat)(e:List q00×Int):q55 (z42 N ) n_ ((w50 n k_l q09 q04 q21 q22 q66 t1) e) ((w51 n k_l q09 q04 q21 q22 q66 t1) e)=q80 (w49 N n k_l q09 q04 q21 q22 q66 t1 ) n_ e :=
 q36 (w50 n k_l q09 q04 q21 q22 q66 t1) (w51 n k_l q09 q04 q21 q22 q66 t1) (by intro K e;obtain⟨l,t11⟩:=e;kernel_rfl) n_ e
def zf5 (N:Nat)(k:q35)(n t1:Int)(l1:Int→(List q03)→(List Bool)→Int→Int→(List UInt8)→Int→Int→(List q00×Int)→Option q03):Option q03:=l1 n k.1 k.2.1 0 0 [] 0 t1 ([],0)
def qp4 (N:Nat)(k:q35)(n t1:Int):Option q03:=zf5 N k n t1 (fun n k_l q09 q04 q21 q22 q66 t1 e=>q80 (w49 N n k_l q09 q04 q21 q22 q66 t1) N e)
abbrev z44 :List PK:=[.val q69,.val (.int .i64),.fn 160 2,.ep 1,.val (.int .u8),.ep 1,.fn 109 0]
noncomputable def zf4 (N:Nat)(k:q35)(n t1:Int):Option (RT [q08]):=q20 DR Tryz.prog N (wa1 N) qs5 Tryz.f99 (q31 Tryz.f99) (RT [q08]) (w01 z44 (k,n,t1,())) [] (q38 [q08])
theorem jv9 (N:Nat)(k:q35)(n t1:Int):zf4 N k n t1=qp4 N k n t1:=by
 have h:zf4 N k n t1=zf5 N k n t1 (fun n k_l q09 q04 q21 q22 q66 t1 e=>q55 (z42 N ) N (w50 n k_l q09 q04 q21 q22 q66 t1 e) (w51 n k_l q09 q04 q21 q22 q66 t1 e)):=by kernel_rfl
 rw[h]
 simp only[qp4,y46]<;>rfl
def jj1 (m:q35→Int→Int→Option q03):Ent:=qf5 z44 [q08] fun (x:Els [q69,(.int .i64),(.int .u8)])=>m x.1 x.2.1 x.2.2.1
def ws5 (N:Nat):Ent:=jj1 (qp4 N)
theorem j74 (N:Nat):q16 Tryz.prog 99 (ws5 N):=q57 (y44 N) Tryz.func99 rfl (by kernel_rfl) (by kernel_rfl) fun (x:Els [q69,(.int .i64),(.int .u8)])=>jv9 N x.1 x.2.1 x.2.2.1
def y76 :FH:=⟨[],[],[],[],false,[],[]⟩
noncomputable def z63 (N:Nat):q46:=tab [(159,qd9 N),(76,q91 N),(157,qb5 N),(111,ys4 N)]
theorem jx5 (N:Nat):q13 Tryz.prog (z63 N):=q06 (qc6 N)<|q06 (q81 N)<|q06 (qa9 N)<|q06 (vc9 N)<|q25 _
def qg2 (N:Nat)(l:List q00)(t1:Int):Option q03:=(qb2 N t1 t1 l).bind fun r=>bif (!r) then (qd8 N 8).bind fun r1=>some r1 else (q82 N l).bind fun r2=>bif r2 then some ((0,0,[],()),0,()) else (yh4 N l).bind fun r3=>some r3
abbrev wt0 :List PK:=[.val (.list q05),.ep 1,.val (.int .u8),.ep 1,.fn 111 0]
noncomputable def y75 (N:Nat)(l:List q00)(t1:Int):Option (RT [q08]):=q20 DR Tryz.prog N (z63 N) y76 Tryz.f160 (q31 Tryz.f160) (RT [q08]) (w01 wt0 (l,t1,())) [] (q38 [q08])
theorem jk5 (N:Nat)(l:List q00)(t1:Int):y75 N l t1=qg2 N l t1:=by kernel_rfl
def j79 (m:(List q00)→Int→Option q03):Ent:=qf5 wt0 [q08] fun (x:Els [(.list q05),(.int .u8)])=>m x.1 x.2.1
def wm5 (N:Nat):Ent:=j79 (qg2 N)
theorem j28 (N:Nat):q16 Tryz.prog 160 (wm5 N):=q57 (jx5 N) Tryz.func160 rfl (by kernel_rfl) (by kernel_rfl) fun (x:Els [(.list q05),(.int .u8)])=>jk5 N x.1 x.2.1
def z46 :LH:=⟨[(2,.asis),(3,.asis),(6,.asis),(7,.own q05 507 26 3),(10,.int .i64),(11,.int .i64)],[],[.cells [.lst q08,.lst .bool],.cells [.int .u8,.int .i64,.str,.int .i64]]⟩
def qs6 :FH:=⟨[z46],[],[],[],false,[],[]⟩
noncomputable def wa3 (N:Nat):q46:=tab [(153,q58 N),(160,wm5 N)]
theorem y47 (N:Nat):q13 Tryz.prog (wa3 N):=q06 (q53 N)<|q06 (j28 N)<|q25 _
noncomputable def z50 :Sc:=w89 Tryz.prog qs6
noncomputable def z48 (N:Nat):Cfg:=⟨N,wa3 N,0⟩
noncomputable def jw0 (N:Nat):Exit→KT q03:=fin Tryz.prog 0 Tryz.f99.results.toList (q38 [q08])
def w53 (n:Int)(k_l:List q03)(q09:List Bool)(q04 q21:Int)(q22:List UInt8)(q66 t1:Int)(e:List q00×Int):List TV:=match e with|(l,t11)=>frm 30 [(2,.func (.func 160) [.ep [.int .u8 t1] 0,.ep [.func (.func 111) []] 0]),(3,.ref 0 0),(6,.ref 1 0),(7,.tl q05 l (.own 507 26 3)),(10,.int .i64 n),(11,.int .i64 t11)]
def w54 (n:Int)(k_l:List q03)(q09:List Bool)(q04 q21:Int)(q22:List UInt8)(q66 t1:Int)(e:List q00×Int):List TOb:=match e with|(l,t11)=>[.cells [.tl q08 k_l .unk,.tl .bool q09 .unk] 118 true,.cells [.int .u8 q04,.int .i64 q21,.str q22,.int .i64 q66] 115 true]
noncomputable def z47 (N:Nat):(KT q03)→KT q03:=qy2 DR z50 (z48 N) (nv [5,4,1,0,1,1] Tryz.f99) z46 (qs6.loops.drop 1) (qd6 0 (qa6 DR z50 (z48 N) (nv [1,1,1] Tryz.f99) (qs6.loops.drop 1) (jw0 N)))
def w52 (N:Nat)(n:Int)(k_l:List q03)(q09:List Bool)(q04 q21:Int)(q22:List UInt8)(q66 t1:Int)(K0:(List q00×Int)→Option q03)(e:List q00×Int):Option q03:=match e with|(l,t11)=>bif decide (t11<n) then (q65 N (k_l,q09,()) t11).bind fun r=>bif (r.2.1 != 0) then some r else bif qr1 (l.length+([r.1]:List q00).length) 4398046511104 then bif q24 (t11+1) then K0 ((l++([r.1]:List q00)),t11+1) else none else none else (qg2 N l t1).bind fun r1=>some r1
theorem y49 (N:Nat)(n:Int)(k_l:List q03)(q09:List Bool)(q04 q21:Int)(q22:List UInt8)(q66 t1:Int)(n_:Nat)(e:List q00×Int):q55 (z47 N ) n_ ((w53 n k_l q09 q04 q21 q22 q66 t1) e) ((w54 n k_l q09 q04 q21 q22 q66 t1) e)=q80 (w52 N n k_l q09 q04 q21 q22 q66 t1 ) n_ e :=
 q36 (w53 n k_l q09 q04 q21 q22 q66 t1) (w54 n k_l q09 q04 q21 q22 q66 t1) (by intro K e;obtain⟨l,t11⟩:=e;kernel_rfl) n_ e
def zf7 (N:Nat)(k:q35)(n t1:Int)(l1:Int→(List q03)→(List Bool)→Int→Int→(List UInt8)→Int→Int→(List q00×Int)→Option q03):Option q03:=l1 n k.1 k.2.1 0 0 [] 0 t1 ([],0)
def qp5 (N:Nat)(k:q35)(n t1:Int):Option q03:=zf7 N k n t1 (fun n k_l q09 q04 q21 q22 q66 t1 e=>q80 (w52 N n k_l q09 q04 q21 q22 q66 t1) N e)
abbrev z49 :List PK:=[.val q69,.val (.int .i64),.fn 160 2,.ep 1,.val (.int .u8),.ep 1,.fn 111 0]
noncomputable def zf6 (N:Nat)(k:q35)(n t1:Int):Option (RT [q08]):=q20 DR Tryz.prog N (wa3 N) qs6 Tryz.f99 (q31 Tryz.f99) (RT [q08]) (w01 z49 (k,n,t1,())) [] (q38 [q08])
theorem jw1 (N:Nat)(k:q35)(n t1:Int):zf6 N k n t1=qp5 N k n t1:=by
 have h:zf6 N k n t1=zf7 N k n t1 (fun n k_l q09 q04 q21 q22 q66 t1 e=>q55 (z47 N ) N (w53 n k_l q09 q04 q21 q22 q66 t1 e) (w54 n k_l q09 q04 q21 q22 q66 t1 e)):=by kernel_rfl
 rw[h]
 simp only[qp5,y49]<;>rfl
def jj2 (m:q35→Int→Int→Option q03):Ent:=qf5 z49 [q08] fun (x:Els [q69,(.int .i64),(.int .u8)])=>m x.1 x.2.1 x.2.2.1
def ws6 (N:Nat):Ent:=jj2 (qp5 N)
theorem j75 (N:Nat):q16 Tryz.prog 99 (ws6 N):=q57 (y47 N) Tryz.func99 rfl (by kernel_rfl) (by kernel_rfl) fun (x:Els [q69,(.int .i64),(.int .u8)])=>jw1 N x.1 x.2.1 x.2.2.1
def xa7 :FH:=⟨[],[],[],[],false,[],[]⟩
noncomputable def zy2 (N:Nat):q46:=tab [(80,ql8 N),(153,q58 N)]
theorem yw8 (N:Nat):q13 Tryz.prog (zy2 N):=q06 (qp6 N)<|q06 (q53 N)<|q25 _
def wf0 (N:Nat)(k:q35):Option q03:=(q83 N k 0).bind fun r=>bif (r.2.1 != 0) then some r else bif (r.1.1==0) then some r else bif (r.1.2.1==1) then (q65 N k 1).bind fun r1=>some r1 else (q65 N k 2).bind fun r2=>some r2
noncomputable def xa6 (N:Nat)(k:q35):Option (RT [q08]):=q20 DR Tryz.prog N (zy2 N) xa7 Tryz.f112 (q31 Tryz.f112) (RT [q08]) (qb7 [q69] (k,())) [] (q38 [q08])
theorem ym3 (N:Nat)(k:q35):xa6 N k=wf0 N k:=by kernel_rfl
def y22 (m:q35→Option q03):Ent:=q29 [q69] [q08] fun (x:Els [q69])=>m x.1
def zd4 (N:Nat):Ent:=y22 (wf0 N)
theorem ju4 (N:Nat):q16 Tryz.prog 112 (zd4 N):=q10 (yw8 N) Tryz.func112 rfl (by kernel_rfl) fun (x:Els [q69])=>ym3 N x.1
noncomputable def j87 (N:Nat):q46:=tab [(99,sel [0,0,173,3,105] (z57 N)<|sel [0,0,173,3,106] (z58 N)<|sel [0,0,173,3,107] (z59 N)<|sel [0,0,173,3,108] (wr9 N) ky2)]
theorem xb5 (N:Nat):q13 Tryz.prog (j87 N):=q06 (qe3 (jj9 N)<|qe3 (jk0 N)<|qe3 (jk1 N)<|qe3 (j68 N) wu7)<|q25 _
noncomputable def zs9 (N:Nat):Ent:=zt4 Tryz.prog N (j87 N) ⟨[],[],[],[],false,[99],[]⟩ Tryz.f94 (q31 Tryz.f94)
theorem y81 (N:Nat):q16 Tryz.prog 94 (zs9 N):=qc4 (xb5 N) Tryz.func94 rfl (by kernel_rfl)
noncomputable def zs5 (N:Nat):q46:=tab [(99,sel [0,0,170,3,0,3,118] (ws4 N)<|sel [0,0,170,3,0,3,119] (ws5 N)<|sel [0,0,170,3,0,3,121] (ws6 N) ky2)]
theorem yp9 (N:Nat):q13 Tryz.prog (zs5 N):=q06 (qe3 (j73 N)<|qe3 (j74 N)<|qe3 (j75 N) wu7)<|q25 _
noncomputable def z64 (N:Nat):Ent:=zt4 Tryz.prog N (zs5 N) ⟨[],[],[],[],false,[99],[]⟩ Tryz.f88 (q31 Tryz.f88)
theorem jk6 (N:Nat):q16 Tryz.prog 88 (z64 N):=qc4 (yp9 N) Tryz.func88 rfl (by kernel_rfl)
def uu7 :FH:=⟨[],[],[],[],false,[],[]⟩
noncomputable def xc2 (N:Nat):q46:=tab [(94,zs9 N),(99,sel [0,0,110] (ws0 N)<|sel [0,0,113] (ws1 N)<|sel [0,0,115] (ws2 N)<|sel [0,0,117] (ws3 N) ky2),(88,z64 N),(112,zd4 N),(76,q91 N)]
theorem u98 (N:Nat):q13 Tryz.prog (xc2 N):=q06 (y81 N)<|q06 (qe3 (j69 N)<|qe3 (j70 N)<|qe3 (j71 N)<|qe3 (j72 N) wu7)<|q06 (jk6 N)<|q06 (ju4 N)<|q06 (q81 N)<|q25 _
def qx6 (N:Nat)(op:Int)(k:q35):Option q03:=bif (op==13) then (qu2 N k 2).bind fun r=>some r else bif (op==14) then (qu3 N k 2).bind fun r1=>some r1 else bif (op==15) then (qu4 N k 2).bind fun r2=>some r2 else bif (op==16) then (qp0 N k 2).bind fun r3=>some r3 else bif (op==17) then (qp1 N k 1).bind fun r4=>some r4 else bif (op==19) then (qi3 N k (k.1.length:Int)).bind fun r5=>some r5 else bif (op==20) then (qi4 N k (k.1.length:Int)).bind fun r6=>some r6 else bif (op==18) then (qp2 N k 1).bind fun r7=>some r7 else bif (op==21) then (qp3 N k 2 1).bind fun r8=>some r8 else bif (op==22) then (qp4 N k 1 3).bind fun r9=>some r9 else bif (op==23) then (qp5 N k 1 3).bind fun r10=>some r10 else bif (op==26) then (wf0 N k).bind fun r11=>some r11 else (qd8 N 2).bind fun r12=>some r12
noncomputable def uu6 (N:Nat)(op:Int)(k:q35):Option (RT [q08]):=q20 DR Tryz.prog N (xc2 N) uu7 Tryz.f38 (q31 Tryz.f38) (RT [q08]) (qb7 [(.int .u8),q69] (op,k,())) [] (q38 [q08])
theorem vn0 (N:Nat)(op:Int)(k:q35):uu6 N op k=qx6 N op k:=by kernel_rfl
def vc1 (m:Int→q35→Option q03):Ent:=q29 [(.int .u8),q69] [q08] fun (x:Els [(.int .u8),q69])=>m x.1 x.2.1
def y91 (N:Nat):Ent:=vc1 (qx6 N)
theorem xo4 (N:Nat):q16 Tryz.prog 38 (y91 N):=q10 (u98 N) Tryz.func38 rfl (by kernel_rfl) fun (x:Els [(.int .u8),q69])=>vn0 N x.1 x.2.1
def jh7 :LH:=⟨[(0,.lst q49),(2,.lst qf6),(4,.asis),(6,.asis),(8,.asis),(9,.asis),(20,.lst q49),(21,.int .i64),(22,.int .i64)],[],[.cells [.int .u8,.int .i64,.str],.cells [.int .u8,.int .i64,.str],.same,.cells [.int .u8,.int .i64,.str,.int .i64]]⟩
def xa1 :LH:=⟨[(0,.lst q49),(2,.lst qf6),(4,.asis),(6,.asis),(8,.asis),(9,.asis),(10,.int .i64),(11,.asis),(12,.asis),(20,.lst q49),(21,.int .i64),(22,.int .i64),(28,.lst (.int .i64)),(29,.int .i64),(30,.int .i64)],[],[.cells [.int .u8,.int .i64,.str],.cells [.int .u8,.int .i64,.str],.same,.cells [.int .u8,.int .i64,.str,.int .i64],.cells [.int .u8,.int .u8,.int .i64,.str,.str,.lst (.int .i64),.int .i64,.int .i64],.cells [.own q08 2500 115 4,.own .bool 2501 4 1]]⟩
def qw1 :FH:=⟨[jh7,xa1],[19],[(11,⟨10,114,0,[(4,.app 2500),(8,.app 2501)],[]⟩),(12,⟨28,114,0,[(7,.app 2500),(26,.app 2501)],[]⟩),(19,⟨6,114,0,[(5,.store true 2)],[]⟩),(21,⟨5,114,0,[(4,.store true 1)],[]⟩)],[],false,[],[]⟩
noncomputable def y16 (N:Nat):q46:=tab [(36,xb6 N),(37,y98 N),(38,y91 N)]
theorem ut3 (N:Nat):q13 Tryz.prog (y16 N):=q06 (vm0 N)<|q06 (xp1 N)<|q06 (xo4 N)<|q25 _
noncomputable def w70 :Sc:=w89 Tryz.prog qw1
noncomputable def qw6 (N:Nat):Cfg:=⟨N,y16 N,0⟩
noncomputable def yr6 (N:Nat):Exit→KT OX3:=fin Tryz.prog 0 Tryz.f15.results.toList (q38 [q05,(.int .i64)])
def w68 (t:List q15)(vars:List q30)(t21 q52 q89:Int)(q90:List UInt8)(qa5 jo8:Int)(jo9:List UInt8)(e:Int×List q03×Int×Int×List UInt8×Int):List TV:=match e with|(t22,all,q88,qh7,qh8,wd9)=>frm 114 [(0,.tl q49 t .unk),(2,.tl qf6 vars .unk),(4,.ref 0 0),(6,.ref 1 0),(8,.arr 2 ((t.length:Int).toNat)),(9,.ref 3 0),(20,.tl q49 t .unk),(21,.int .i64 t21),(22,.int .i64 t22)]
def w69 (t:List q15)(vars:List q30)(t21 q52 q89:Int)(q90:List UInt8)(qa5 jo8:Int)(jo9:List UInt8)(e:Int×List q03×Int×Int×List UInt8×Int):List TOb:=match e with|(t22,all,q88,qh7,qh8,wd9)=>[.cells [.int .u8 q52,.int .i64 q89,.str q90] 26 true,.cells [.int .u8 qa5,.int .i64 jo8,.str jo9] 26 true,.tarr q08 all 115 true,.cells [.int .u8 q88,.int .i64 qh7,.str qh8,.int .i64 wd9] 115 true]
def jh6 (t:List q15)(vars:List q30)(t22 t21:Int)(t28:List Int)(t29 q52 q89:Int)(q90:List UInt8)(qa5 jo8:Int)(jo9:List UInt8)(all:List q03)(q88 qh7:Int)(qh8:List UInt8)(wd9 qg3 q18 q44:Int)(q45 q28:List UInt8)(q56:List Int)(q07 q14:Int)(e:Int×List q03×List Bool):List TV:=match e with|(t30,k_l,q09)=>frm 114 [(0,.tl q49 t .unk),(2,.tl qf6 vars .unk),(4,.ref 0 0),(6,.ref 1 0),(8,.arr 2 ((t.length:Int).toNat)),(9,.ref 3 0),(10,.int .i64 t22),(11,.ref 4 0),(12,.ref 5 0),(20,.tl q49 t .unk),(21,.int .i64 t21),(22,.int .i64 t22),(28,.tl (.int .i64) t28 .unk),(29,.int .i64 t29),(30,.int .i64 t30)]
def jh9 (t:List q15)(vars:List q30)(t22 t21:Int)(t28:List Int)(t29 q52 q89:Int)(q90:List UInt8)(qa5 jo8:Int)(jo9:List UInt8)(all:List q03)(q88 qh7:Int)(qh8:List UInt8)(wd9 qg3 q18 q44:Int)(q45 q28:List UInt8)(q56:List Int)(q07 q14:Int)(e:Int×List q03×List Bool):List TOb:=match e with|(t30,k_l,q09)=>[.cells [.int .u8 q52,.int .i64 q89,.str q90] 26 true,.cells [.int .u8 qa5,.int .i64 jo8,.str jo9] 26 true,.tarr q08 all 115 true,.cells [.int .u8 q88,.int .i64 qh7,.str qh8,.int .i64 wd9] 115 true,.cells [.int .u8 qg3,.int .u8 q18,.int .i64 q44,.str q45,.str q28,.tl (.int .i64) q56 .unk,.int .i64 q07,.int .i64 q14] 54 true,.cells [.tl q08 k_l (.own 2500 115 4),.tl .bool q09 (.own 2501 4 1)] 118 true]
noncomputable def xa2 (N:Nat)(K0r:KT OX3):(KT OX3)→KT OX3:=qy2 DR w70 (qw6 N) (nv [5,4,1,0,1,1,4,0,1,1,5,4,1,0,1,1,1] Tryz.f15) xa1 (qw1.loops.drop 2) (qd6 2 (qa6 DR w70 (qw6 N) (nv [1,1,1,4,0,1,1,5,4,1,0,1,1,1] Tryz.f15) (qw1.loops.drop 2) (qd6 1 (qa6 DR w70 (qw6 N) (nv [1,1,1,5,4,1,0,1,1,1] Tryz.f15) (qw1.loops.drop 2) (xp4 (qw6 N) jh7 (qd6 0 (qa6 DR w70 (qw6 N) (nv [1,1,1,1] Tryz.f15) (qw1.loops.drop 2) (yr6 N))) K0r)))))
def jh5 (N:Nat)(t:List q15)(vars:List q30)(t22 t21:Int)(t28:List Int)(t29 q52 q89:Int)(q90:List UInt8)(qa5 jo8:Int)(jo9:List UInt8)(all:List q03)(q88 qh7:Int)(qh8:List UInt8)(wd9 qg3 q18 q44:Int)(q45 q28:List UInt8)(q56:List Int)(q07 q14:Int)(K0:(Int×List q03×Int×Int×List UInt8×Int)→Option OX3)(K1:(Int×List q03×List Bool)→Option OX3)(e:Int×List q03×List Bool):Option OX3:=match e with|(t30,k_l,q09)=>bif decide (t30<t29) then bif inR t30 t28.length then bif decide ((q17 t28 t30 0)<0) then bif qr1 (k_l.length+([((0,0,[],()),0,())]:List q03).length) 3518437208883 then bif qr1 (q09.length+[false].length) 140737488355328 then bif q24 (t30+1) then K1 (t30+1,(k_l++([((0,0,[],()),0,())]:List q03)),(q09++[false])) else none else none else none else bif decide ((q17 t28 t30 0)≥t22) then bif qr1 (k_l.length+([((0,0,[],()),0,())]:List q03).length) 3518437208883 then bif qr1 (q09.length+[false].length) 140737488355328 then bif q24 (t30+1) then K1 (t30+1,(k_l++([((0,0,[],()),0,())]:List q03)),(q09++[false])) else none else none else none else bif inR (q17 t28 t30 0) ((t.length:Int).toNat) then bif inR (q17 t28 t30 0) (all).length then bif qr1 (k_l.length+([(((q17 all (q17 t28 t30 0) wz5).1),(q17 all (q17 t28 t30 0) wz5).2.1,())]:List q03).length) 3518437208883 then bif inR (q17 t28 t30 0) t.length then bif (((q17 t (q17 t28 t30 0) q43).1)==1) then bif inR (q17 t28 t30 0) t.length then bif qr1 (q09.length+[((((q17 t (q17 t28 t30 0) q43).2.1).1)==0)].length) 140737488355328 then bif q24 (t30+1) then K1 (t30+1,(k_l++([(((q17 all (q17 t28 t30 0) wz5).1),(q17 all (q17 t28 t30 0) wz5).2.1,())]:List q03)),(q09++[((((q17 t (q17 t28 t30 0) q43).2.1).1)==0)])) else none else none else none else bif qr1 (q09.length+[false].length) 140737488355328 then bif q24 (t30+1) then K1 (t30+1,(k_l++([(((q17 all (q17 t28 t30 0) wz5).1),(q17 all (q17 t28 t30 0) wz5).2.1,())]:List q03)),(q09++[false])) else none else none else none else none else none else none else none else (z68 N (qg3,(q18,q44,q45,()),q28,q56,(q07,q14,()),()) (q52,q89,q90,()) vars).bind fun r=>bif (!r.2.1) then (wi2 N qg3 (k_l,q09,())).bind fun r1=>bif (!r1.2.1) then (qx6 N qg3 (k_l,q09,())).bind fun r2=>bif inR t22 ((t.length:Int).toNat) then bif inR t22 all.length then bif q24 (t22+1) then K0 (t22+1,(setD all t22 r2),r2.1.1,r2.1.2.1,r2.1.2.2.1,r2.2.1) else none else none else none else bif inR t22 ((t.length:Int).toNat) then bif inR t22 all.length then bif q24 (t22+1) then K0 (t22+1,(setD all t22 r1.1),r1.1.1.1,r1.1.1.2.1,r1.1.1.2.2.1,r1.1.2.1) else none else none else none else bif (!r.2.1) then (qx6 N qg3 (k_l,q09,())).bind fun r3=>bif inR t22 ((t.length:Int).toNat) then bif inR t22 all.length then bif q24 (t22+1) then K0 (t22+1,(setD all t22 r3),r3.1.1,r3.1.2.1,r3.1.2.2.1,r3.2.1) else none else none else none else bif inR t22 ((t.length:Int).toNat) then bif inR t22 all.length then bif q24 (t22+1) then K0 (t22+1,(setD all t22 r.1),r.1.1.1,r.1.1.2.1,r.1.1.2.2.1,r.1.2.1) else none else none else none
theorem ut5 (N:Nat)(t:List q15)(vars:List q30)(t22 t21:Int)(t28:List Int)(t29 q52 q89:Int)(q90:List UInt8)(qa5 jo8:Int)(jo9:List UInt8)(all:List q03)(q88 qh7:Int)(qh8:List UInt8)(wd9 qg3 q18 q44:Int)(q45 q28:List UInt8)(q56:List Int)(q07 q14:Int)(K0r:KT OX3)(n_:Nat)(e:Int×List q03×List Bool):q55 (xa2 N K0r) n_ ((jh6 t vars t22 t21 t28 t29 q52 q89 q90 qa5 jo8 jo9 all q88 qh7 qh8 wd9 qg3 q18 q44 q45 q28 q56 q07 q14) e) ((jh9 t vars t22 t21 t28 t29 q52 q89 q90 qa5 jo8 jo9 all q88 qh7 qh8 wd9 qg3 q18 q44 q45 q28 q56 q07 q14) e)=q80 (jh5 N t vars t22 t21 t28 t29 q52 q89 q90 qa5 jo8 jo9 all q88 qh7 qh8 wd9 qg3 q18 q44 q45 q28 q56 q07 q14 (fun a_=>K0r (w68 t vars t21 q52 q89 q90 qa5 jo8 jo9 a_) (w69 t vars t21 q52 q89 q90 qa5 jo8 jo9 a_))) n_ e :=
 q36 (jh6 t vars t22 t21 t28 t29 q52 q89 q90 qa5 jo8 jo9 all q88 qh7 qh8 wd9 qg3 q18 q44 q45 q28 q56 q07 q14) (jh9 t vars t22 t21 t28 t29 q52 q89 q90 qa5 jo8 jo9 all q88 qh7 qh8 wd9 qg3 q18 q44 q45 q28 q56 q07 q14) (by intro K e;obtain⟨t30,k_l,q09⟩:=e;kernel_rfl) n_ e
noncomputable def jh8 (N:Nat):(KT OX3)→KT OX3:=qy2 DR w70 (qw6 N) (nv [5,4,1,0,1,1,1] Tryz.f15) jh7 (qw1.loops.drop 1) (qd6 0 (qa6 DR w70 (qw6 N) (nv [1,1,1,1] Tryz.f15) (qw1.loops.drop 2) (yr6 N)))
def j20 (N:Nat)(t:List q15)(vars:List q30)(t21 q52 q89:Int)(q90:List UInt8)(qa5 jo8:Int)(jo9:List UInt8)(l2:(List q15)→(List q30)→Int→Int→(List Int)→Int→Int→Int→(List UInt8)→Int→Int→(List UInt8)→(List q03)→Int→Int→(List UInt8)→Int→Int→Int→Int→(List UInt8)→(List UInt8)→(List Int)→Int→Int→(Int×List q03×List Bool)→Option OX3)(K0:(Int×List q03×Int×Int×List UInt8×Int)→Option OX3)(e:Int×List q03×Int×Int×List UInt8×Int):Option OX3:=match e with|(t22,all,q88,qh7,qh8,wd9)=>bif decide (t22<t21) then bif inR t22 t.length then l2 t vars t22 t21 ((q17 t t22 q43).2.2.2.1) (((q17 t t22 q43).2.2.2.1).length:Int) q52 q89 q90 qa5 jo8 jo9 all q88 qh7 qh8 wd9 ((q17 t t22 q43).1) (((q17 t t22 q43).2.1).1) (((q17 t t22 q43).2.1).2.1) (((q17 t t22 q43).2.1).2.2.1) ((q17 t t22 q43).2.2.1) ((q17 t t22 q43).2.2.2.1) (((q17 t t22 q43).2.2.2.2.1).1) (((q17 t t22 q43).2.2.2.2.1).2.1) (0,[],[]) else none else some ((q88,qh7,qh8,()),wd9,())
def zm4 (N:Nat)(t:List q15)(vars:List q30)(t21 q52 q89:Int)(q90:List UInt8)(qa5 jo8:Int)(jo9:List UInt8)(K0:(Int×List q03×Int×Int×List UInt8×Int)→Option OX3)(e:Int×List q03×Int×Int×List UInt8×Int):Option OX3:=j20 N t vars t21 q52 q89 q90 qa5 jo8 jo9 (fun t vars t22 t21 t28 t29 q52 q89 q90 qa5 jo8 jo9 all q88 qh7 qh8 wd9 qg3 q18 q44 q45 q28 q56 q07 q14 e=>q80 (jh5 N t vars t22 t21 t28 t29 q52 q89 q90 qa5 jo8 jo9 all q88 qh7 qh8 wd9 qg3 q18 q44 q45 q28 q56 q07 q14 K0) N e) K0 e
theorem ut4 (N:Nat)(t:List q15)(vars:List q30)(t21 q52 q89:Int)(q90:List UInt8)(qa5 jo8:Int)(jo9:List UInt8)(n_:Nat)(e:Int×List q03×Int×Int×List UInt8×Int):q55 (jh8 N ) n_ ((w68 t vars t21 q52 q89 q90 qa5 jo8 jo9) e) ((w69 t vars t21 q52 q89 q90 qa5 jo8 jo9) e)=q80 (zm4 N t vars t21 q52 q89 q90 qa5 jo8 jo9 ) n_ e :=
 q36 (w68 t vars t21 q52 q89 q90 qa5 jo8 jo9) (w69 t vars t21 q52 q89 q90 qa5 jo8 jo9) (by
  intro K e
  have h:(jh8 N ) K ((w68 t vars t21 q52 q89 q90 qa5 jo8 jo9) e) ((w69 t vars t21 q52 q89 q90 qa5 jo8 jo9) e)=j20 N t vars t21 q52 q89 q90 qa5 jo8 jo9 (fun t vars t22 t21 t28 t29 q52 q89 q90 qa5 jo8 jo9 all q88 qh7 qh8 wd9 qg3 q18 q44 q45 q28 q56 q07 q14 e=>q55 (xa2 N K) N (jh6 t vars t22 t21 t28 t29 q52 q89 q90 qa5 jo8 jo9 all q88 qh7 qh8 wd9 qg3 q18 q44 q45 q28 q56 q07 q14 e) (jh9 t vars t22 t21 t28 t29 q52 q89 q90 qa5 jo8 jo9 all q88 qh7 qh8 wd9 qg3 q18 q44 q45 q28 q56 q07 q14 e)) (fun e=>K ((w68 t vars t21 q52 q89 q90 qa5 jo8 jo9) e) ((w69 t vars t21 q52 q89 q90 qa5 jo8 jo9) e)) e:=by obtain⟨t22,all,q88,qh7,qh8,wd9⟩:=e;kernel_rfl
  rw[h]
  simp only[zm4,ut5]<;>rfl) n_ e
def y17 (N:Nat)(t:List q15)(self:q00)(vars:List q30)(l1:(List q15)→(List q30)→Int→Int→Int→(List UInt8)→Int→Int→(List UInt8)→(Int×List q03×Int×Int×List UInt8×Int)→Option OX3):Option OX3:=bif jz5 40 (t.length:Int) (t.length:Int) then l1 t vars (t.length:Int) self.1 self.2.1 self.2.2.1 0 0 [] (0,(List.replicate (t.length:Int).toNat wz5),0,0,[],0) else none
def qt4 (N:Nat)(t:List q15)(self:q00)(vars:List q30):Option OX3:=y17 N t self vars (fun t vars t21 q52 q89 q90 qa5 jo8 jo9 e=>q80 (zm4 N t vars t21 q52 q89 q90 qa5 jo8 jo9) N e)
noncomputable def v26 (N:Nat)(t:List q15)(self:q00)(vars:List q30):Option (RT [q05,(.int .i64)]):=q20 DR Tryz.prog N (y16 N) qw1 Tryz.f15 (q31 Tryz.f15) (RT [q05,(.int .i64)]) (qb7 [(.list q49),q05,(.list qf6)] (t,self,vars,())) [] (q38 [q05,(.int .i64)])
theorem u88 (N:Nat)(t:List q15)(self:q00)(vars:List q30):v26 N t self vars=qt4 N t self vars:=by
 have h:v26 N t self vars=y17 N t self vars (fun t vars t21 q52 q89 q90 qa5 jo8 jo9 e=>q55 (jh8 N ) N (w68 t vars t21 q52 q89 q90 qa5 jo8 jo9 e) (w69 t vars t21 q52 q89 q90 qa5 jo8 jo9 e)):=by kernel_rfl
 rw[h]
 simp only[qt4,ut4]<;>rfl
def vl0 (m:(List q15)→q00→(List q30)→Option OX3):Ent:=q29 [(.list q49),q05,(.list qf6)] [q05,(.int .i64)] fun (x:Els [(.list q49),q05,(.list qf6)])=>m x.1 x.2.1 x.2.2.1
def j21 (N:Nat):Ent:=vl0 (qt4 N)
theorem jq6 (N:Nat):q16 Tryz.prog 15 (j21 N):=q10 (ut3 N) Tryz.func15 rfl (by kernel_rfl) fun (x:Els [(.list q49),q05,(.list qf6)])=>u88 N x.1 x.2.1 x.2.2.1
def w10_of_H :FH:=⟨[],[],[],[],false,[],[]⟩
noncomputable def q7g (N:Nat):q46:=tab [(11,jn8 N),(15,j21 N)]
theorem w10_of_Ts (N:Nat):q13 Tryz.prog (q7g N):=q06 (jn9 N)<|q06 (jq6 N)<|q25 _
def va3 (N:Nat)(s:List UInt8):Option OX3:=(zb1 N s).bind fun r=>(qt4 N r.1 (0,0,[],()) ([([97],(0,0,[],()),())]:List q30)).bind fun r1=>some r1
noncomputable def w10_of_C (N:Nat)(s:List UInt8):Option (RT [q05,(.int .i64)]):=q20 DR Tryz.prog N (q7g N) w10_of_H Tryz.f32 (q31 Tryz.f32) (RT [q05,(.int .i64)]) (qb7 [.str] (s,())) [] (q38 [q05,(.int .i64)])
theorem w2h (N:Nat)(s:List UInt8):w10_of_C N s=va3 N s:=by kernel_rfl
def q3w (m:(List UInt8)→Option OX3):Ent:=q29 [.str] [q05,(.int .i64)] fun (x:Els [.str])=>m x.1
def up6 (N:Nat):Ent:=q3w (va3 N)
theorem ku3 (N:Nat):q16 Tryz.prog 32 (up6 N):=q10 (w10_of_Ts N) Tryz.func32 rfl (by kernel_rfl) fun (x:Els [.str])=>w2h N x.1
def q3v :FH:=⟨[],[],[],[],false,[],[]⟩
noncomputable def u70 (N:Nat):q46:=tab [(32,up6 N)]
theorem ku2 (N:Nat):q13 Tryz.prog (u70 N):=q06 (ku3 N)<|q25 _
def qd1 (N:Nat):Option Bool:=(va3 N [49,32,47,32,48,32,61,32,49,32,111,114,32,116,114,117,101]).bind fun r=>(va3 N [116,114,117,101,32,111,114,32,49,32,47,32,48,32,61,32,49]).bind fun r1=>(va3 N [110,117,108,108,32,97,110,100,32,102,97,108,115,101]).bind fun r2=>(va3 N [49,32,43,32,110,117,108,108]).bind fun r3=>(va3 N [63,97,32,61,32,110,117,108,108]).bind fun r4=>(va3 N [105,102,40,110,117,108,108,44,32,49,44,32,50,41]).bind fun r5=>bif (r.2.1==10) then bif (r1.2.1==0) then bif (r2.2.1==0) then bif (r3.2.1==0) then bif (r4.2.1==0) then bif (r5.2.1==0) then bif (r1.1.2.1==1) then bif ((r2.1.1==(4:Int))&&((r2.1.2.1==(0:Int))&&((r2.1.2.2.1==([]:List UInt8))&&true))) then bif ((r3.1.1==(0:Int))&&((r3.1.2.1==(0:Int))&&((r3.1.2.2.1==([]:List UInt8))&&true))) then bif (r4.1.2.1==1) then some ((r5.1.1==(0:Int))&&((r5.1.2.1==(0:Int))&&((r5.1.2.2.1==([]:List UInt8))&&true))) else some false else some false else some false else some false else some false else some false else some false else some false else some false else some false
noncomputable def q3u (N:Nat):Option (RT [.bool]):=q20 DR Tryz.prog N (u70 N) q3v Tryz.f12 (q31 Tryz.f12) (RT [.bool]) (qb7 [] (())) [] (q38 [.bool])
theorem k85 (N:Nat):q3u N=qd1 N:=by kernel_rfl
def uf3 (m:Option Bool):Ent:=q29 [] [.bool] fun (x:Els [])=>m
def xl0 (N:Nat):Ent:=uf3 (qd1 N)
theorem u71 (N:Nat):q16 Tryz.prog 12 (xl0 N):=q10 (ku2 N) Tryz.func12 rfl (by kernel_rfl) fun (x:Els [])=>k85 N 
end Go.Proofs.YtgicljncknbgcaaGreat.Abs
