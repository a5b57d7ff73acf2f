/- The functions of the program, told on typed values, printed by a program: each tells what the reckoning of its body tells. -/
import Derived.Test.YtgicljncknbgcaaGreatL7
import Derived.Test.YtgicljncknbgcaaGreatG4
import Derived.Test.YtgicljncknbgcaaGreatLA
import Derived.Test.YtgicljncknbgcaaGreatProg
set_option linter.unusedVariables false
set_option linter.unusedSimpArgs false
set_option linter.unusedSectionVars false
namespace Go.Proofs.YtgicljncknbgcaaGreat.Abs
set_option maxRecDepth 100000
open Go Go.Proofs
def zf8 :LH:=⟨[(2,.asis),(3,.asis),(6,.asis),(7,.own q05 507 26 3),(10,.int .i64),(11,.int .i64)],[],[.cells [.lst q08,.lst .bool],.cells [.int .u8,.int .i64,.str,.int .i64]]⟩
def qw7 :FH:=⟨[zf8],[],[],[],false,[],[]⟩
noncomputable def wg5 (N:Nat):q46:=tab [(153,q58 N),(158,z65 N)]
theorem ym9 (N:Nat):q13 Tryz.prog (wg5 N):=q06 (q53 N)<|q06 (jk7 N)<|q25 _
noncomputable def zg2 :Sc:=w89 Tryz.prog qw7
noncomputable def zg0 (N:Nat):Cfg:=⟨N,wg5 N,0⟩
noncomputable def y50 (N:Nat):Exit→KT q03:=fin Tryz.prog 0 Tryz.f99.results.toList (q38 [q08])
def wa5 (n:Int)(k_l:List q03)(q09:List Bool)(q04 q21:Int)(q22:List UInt8)(q66:Int)(e:List q00×Int):List TV:=match e with|(l,t11)=>frm 30 [(2,.func (.func 158) [.ep [.func (.func 84) []] 0]),(3,.ref 0 0),(6,.ref 1 0),(7,.tl q05 l (.own 507 26 3)),(10,.int .i64 n),(11,.int .i64 t11)]
def wa6 (n:Int)(k_l:List q03)(q09:List Bool)(q04 q21:Int)(q22:List UInt8)(q66:Int)(e:List q00×Int):List TOb:=match e with|(l,t11)=>[.cells [.tl q08 k_l .unk,.tl .bool q09 .unk] 118 true,.cells [.int .u8 q04,.int .i64 q21,.str q22,.int .i64 q66] 115 true]
noncomputable def zf9 (N:Nat):(KT q03)→KT q03:=qy2 DR zg2 (zg0 N) (nv [5,4,1,0,1,1] Tryz.f99) zf8 (qw7.loops.drop 1) (qd6 0 (qa6 DR zg2 (zg0 N) (nv [1,1,1] Tryz.f99) (qw7.loops.drop 1) (y50 N)))
def wa4 (N:Nat)(n:Int)(k_l:List q03)(q09:List Bool)(q04 q21:Int)(q22:List UInt8)(q66:Int)(K0:(List q00×Int)→Option q03)(e:List q00×Int):Option q03:=match e with|(l,t11)=>bif decide (t11<n) then (q65 N (k_l,q09,()) t11).bind fun r=>bif (r.2.1 != 0) then some r else bif qr1 (l.length+([r.1]:List q00).length) 4398046511104 then bif q24 (t11+1) then K0 ((l++([r.1]:List q00)),t11+1) else none else none else (qu5 N l).bind fun r1=>some r1
theorem yn3 (N:Nat)(n:Int)(k_l:List q03)(q09:List Bool)(q04 q21:Int)(q22:List UInt8)(q66:Int)(n_:Nat)(e:List q00×Int):q55 (zf9 N ) n_ ((wa5 n k_l q09 q04 q21 q22 q66) e) ((wa6 n k_l q09 q04 q21 q22 q66) e)=q80 (wa4 N n k_l q09 q04 q21 q22 q66 ) n_ e :=
 q36 (wa5 n k_l q09 q04 q21 q22 q66) (wa6 n k_l q09 q04 q21 q22 q66) (by intro K e;obtain⟨l,t11⟩:=e;kernel_rfl) n_ e
def zq7 (N:Nat)(k:q35)(n:Int)(l1:Int→(List q03)→(List Bool)→Int→Int→(List UInt8)→Int→(List q00×Int)→Option q03):Option q03:=l1 n k.1 k.2.1 0 0 [] 0 ([],0)
def qt6 (N:Nat)(k:q35)(n:Int):Option q03:=zq7 N k n (fun n k_l q09 q04 q21 q22 q66 e=>q80 (wa4 N n k_l q09 q04 q21 q22 q66) N e)
abbrev zg1 :List PK:=[.val q69,.val (.int .i64),.fn 158 1,.ep 1,.fn 84 0]
noncomputable def zq6 (N:Nat)(k:q35)(n:Int):Option (RT [q08]):=q20 DR Tryz.prog N (wg5 N) qw7 Tryz.f99 (q31 Tryz.f99) (RT [q08]) (w01 zg1 (k,n,())) [] (q38 [q08])
theorem y51 (N:Nat)(k:q35)(n:Int):zq6 N k n=qt6 N k n:=by
 have h:zq6 N k n=zq7 N k n (fun n k_l q09 q04 q21 q22 q66 e=>q55 (zf9 N ) N (wa5 n k_l q09 q04 q21 q22 q66 e) (wa6 n k_l q09 q04 q21 q22 q66 e)):=by kernel_rfl
 rw[h]
 simp only[qt6,yn3]<;>rfl
def jw2 (m:q35→Int→Option q03):Ent:=qf5 zg1 [q08] fun (x:Els [q69,(.int .i64)])=>m x.1 x.2.1
def z51 (N:Nat):Ent:=jw2 (qt6 N)
theorem jj3 (N:Nat):q16 Tryz.prog 99 (z51 N):=q57 (ym9 N) Tryz.func99 rfl (by kernel_rfl) (by kernel_rfl) fun (x:Els [q69,(.int .i64)])=>y51 N x.1 x.2.1
def vn5 :FH:=⟨[],[],[],[],false,[],[]⟩
noncomputable def y93 (N:Nat):q46:=tab []
theorem vc3 (N:Nat):q13 Tryz.prog (y93 N):=q25 _
def wn3 (N:Nat)(c:Int):Option Bool:=some (decide (c≤0))
noncomputable def vn4 (N:Nat)(c:Int):Option (RT [.bool]):=q20 DR Tryz.prog N (y93 N) vn5 Tryz.f85 (q31 Tryz.f85) (RT [.bool]) (qb7 [(.int .i64)] (c,())) [] (q38 [.bool])
theorem xo6 (N:Nat)(c:Int):vn4 N c=wn3 N c:=by kernel_rfl
def xc4 (m:Int→Option Bool):Ent:=q29 [(.int .i64)] [.bool] fun (x:Els [(.int .i64)])=>m x.1
def j94 (N:Nat):Ent:=xc4 (wn3 N)
theorem yy2 (N:Nat):q16 Tryz.prog 85 (j94 N):=q10 (vc3 N) Tryz.func85 rfl (by kernel_rfl) fun (x:Els [(.int .i64)])=>xo6 N x.1
def jx9 :FH:=⟨[],[],[(5,⟨11,35,0,[],[]⟩)],[],false,[],[]⟩
noncomputable def wt1 (N:Nat):q46:=tab [(159,qd9 N),(76,q91 N),(157,qb5 N),(155,ql5 N),(85,j94 N),(90,qd0 N)]
theorem jk8 (N:Nat):q13 Tryz.prog (wt1 N):=q06 (qc6 N)<|q06 (q81 N)<|q06 (qa9 N)<|q06 (qm3 N)<|q06 (yy2 N)<|q06 (qc3 N)<|q25 _
def qj2 (N:Nat)(l:List q00):Option q03:=(qb2 N 1 2 l).bind fun r=>bif (!r) then (qb2 N 3 3 l).bind fun r1=>bif (!r1) then (qd8 N 8).bind fun r2=>some r2 else (q82 N l).bind fun r3=>bif r3 then some ((0,0,[],()),0,()) else bif inR 0 l.length then bif inR 1 l.length then (q93 N (q17 l 0 q26) (q17 l 1 q26)).bind fun r4=>(wn3 N r4.1).bind fun r5=>(q97 N r5).bind fun r6=>some (r6,0,()) else none else none else (q82 N l).bind fun r7=>bif r7 then some ((0,0,[],()),0,()) else bif inR 0 l.length then bif inR 1 l.length then (q93 N (q17 l 0 q26) (q17 l 1 q26)).bind fun r8=>(wn3 N r8.1).bind fun r9=>(q97 N r9).bind fun r10=>some (r10,0,()) else none else none
abbrev wm6 :List PK:=[.val (.list q05),.ep 1,.fn 85 0]
noncomputable def jx8 (N:Nat)(l:List q00):Option (RT [q08]):=q20 DR Tryz.prog N (wt1 N) jx9 Tryz.f158 (q31 Tryz.f158) (RT [q08]) (w01 wm6 (l,())) [] (q38 [q08])
theorem j80 (N:Nat)(l:List q00):jx8 N l=qj2 N l:=by kernel_rfl
def j29 (m:(List q00)→Option q03):Ent:=qf5 wm6 [q08] fun (x:Els [(.list q05)])=>m x.1
def wj6 (N:Nat):Ent:=j29 (qj2 N)
theorem zw6 (N:Nat):q16 Tryz.prog 158 (wj6 N):=q57 (jk8 N) Tryz.func158 rfl (by kernel_rfl) (by kernel_rfl) fun (x:Els [(.list q05)])=>j80 N x.1
def zg3 :LH:=⟨[(2,.asis),(3,.asis),(6,.asis),(7,.own q05 507 26 3),(10,.int .i64),(11,.int .i64)],[],[.cells [.lst q08,.lst .bool],.cells [.int .u8,.int .i64,.str,.int .i64]]⟩
def qw8 :FH:=⟨[zg3],[],[],[],false,[],[]⟩
noncomputable def wg7 (N:Nat):q46:=tab [(153,q58 N),(158,wj6 N)]
theorem yn4 (N:Nat):q13 Tryz.prog (wg7 N):=q06 (q53 N)<|q06 (zw6 N)<|q25 _
noncomputable def zg7 :Sc:=w89 Tryz.prog qw8
noncomputable def zg5 (N:Nat):Cfg:=⟨N,wg7 N,0⟩
noncomputable def y52 (N:Nat):Exit→KT q03:=fin Tryz.prog 0 Tryz.f99.results.toList (q38 [q08])
def wa8 (n:Int)(k_l:List q03)(q09:List Bool)(q04 q21:Int)(q22:List UInt8)(q66:Int)(e:List q00×Int):List TV:=match e with|(l,t11)=>frm 30 [(2,.func (.func 158) [.ep [.func (.func 85) []] 0]),(3,.ref 0 0),(6,.ref 1 0),(7,.tl q05 l (.own 507 26 3)),(10,.int .i64 n),(11,.int .i64 t11)]
def wa9 (n:Int)(k_l:List q03)(q09:List Bool)(q04 q21:Int)(q22:List UInt8)(q66:Int)(e:List q00×Int):List TOb:=match e with|(l,t11)=>[.cells [.tl q08 k_l .unk,.tl .bool q09 .unk] 118 true,.cells [.int .u8 q04,.int .i64 q21,.str q22,.int .i64 q66] 115 true]
noncomputable def zg4 (N:Nat):(KT q03)→KT q03:=qy2 DR zg7 (zg5 N) (nv [5,4,1,0,1,1] Tryz.f99) zg3 (qw8.loops.drop 1) (qd6 0 (qa6 DR zg7 (zg5 N) (nv [1,1,1] Tryz.f99) (qw8.loops.drop 1) (y52 N)))
def wa7 (N:Nat)(n:Int)(k_l:List q03)(q09:List Bool)(q04 q21:Int)(q22:List UInt8)(q66:Int)(K0:(List q00×Int)→Option q03)(e:List q00×Int):Option q03:=match e with|(l,t11)=>bif decide (t11<n) then (q65 N (k_l,q09,()) t11).bind fun r=>bif (r.2.1 != 0) then some r else bif qr1 (l.length+([r.1]:List q00).length) 4398046511104 then bif q24 (t11+1) then K0 ((l++([r.1]:List q00)),t11+1) else none else none else (qj2 N l).bind fun r1=>some r1
theorem yn6 (N:Nat)(n:Int)(k_l:List q03)(q09:List Bool)(q04 q21:Int)(q22:List UInt8)(q66:Int)(n_:Nat)(e:List q00×Int):q55 (zg4 N ) n_ ((wa8 n k_l q09 q04 q21 q22 q66) e) ((wa9 n k_l q09 q04 q21 q22 q66) e)=q80 (wa7 N n k_l q09 q04 q21 q22 q66 ) n_ e :=
 q36 (wa8 n k_l q09 q04 q21 q22 q66) (wa9 n k_l q09 q04 q21 q22 q66) (by intro K e;obtain⟨l,t11⟩:=e;kernel_rfl) n_ e
def zq9 (N:Nat)(k:q35)(n:Int)(l1:Int→(List q03)→(List Bool)→Int→Int→(List UInt8)→Int→(List q00×Int)→Option q03):Option q03:=l1 n k.1 k.2.1 0 0 [] 0 ([],0)
def qt7 (N:Nat)(k:q35)(n:Int):Option q03:=zq9 N k n (fun n k_l q09 q04 q21 q22 q66 e=>q80 (wa7 N n k_l q09 q04 q21 q22 q66) N e)
abbrev zg6 :List PK:=[.val q69,.val (.int .i64),.fn 158 1,.ep 1,.fn 85 0]
noncomputable def zq8 (N:Nat)(k:q35)(n:Int):Option (RT [q08]):=q20 DR Tryz.prog N (wg7 N) qw8 Tryz.f99 (q31 Tryz.f99) (RT [q08]) (w01 zg6 (k,n,())) [] (q38 [q08])
theorem y53 (N:Nat)(k:q35)(n:Int):zq8 N k n=qt7 N k n:=by
 have h:zq8 N k n=zq9 N k n (fun n k_l q09 q04 q21 q22 q66 e=>q55 (zg4 N ) N (wa8 n k_l q09 q04 q21 q22 q66 e) (wa9 n k_l q09 q04 q21 q22 q66 e)):=by kernel_rfl
 rw[h]
 simp only[qt7,yn6]<;>rfl
def jw3 (m:q35→Int→Option q03):Ent:=qf5 zg6 [q08] fun (x:Els [q69,(.int .i64)])=>m x.1 x.2.1
def z52 (N:Nat):Ent:=jw3 (qt7 N)
theorem jj4 (N:Nat):q16 Tryz.prog 99 (z52 N):=q57 (yn4 N) Tryz.func99 rfl (by kernel_rfl) (by kernel_rfl) fun (x:Els [q69,(.int .i64)])=>y53 N x.1 x.2.1
def vn7 :FH:=⟨[],[],[],[],false,[],[]⟩
noncomputable def y94 (N:Nat):q46:=tab []
theorem vc4 (N:Nat):q13 Tryz.prog (y94 N):=q25 _
def wn4 (N:Nat)(c:Int):Option Bool:=some (decide (c>0))
noncomputable def vn6 (N:Nat)(c:Int):Option (RT [.bool]):=q20 DR Tryz.prog N (y94 N) vn7 Tryz.f86 (q31 Tryz.f86) (RT [.bool]) (qb7 [(.int .i64)] (c,())) [] (q38 [.bool])
theorem xo7 (N:Nat)(c:Int):vn6 N c=wn4 N c:=by kernel_rfl
def xc5 (m:Int→Option Bool):Ent:=q29 [(.int .i64)] [.bool] fun (x:Els [(.int .i64)])=>m x.1
def j95 (N:Nat):Ent:=xc5 (wn4 N)
theorem yy3 (N:Nat):q16 Tryz.prog 86 (j95 N):=q10 (vc4 N) Tryz.func86 rfl (by kernel_rfl) fun (x:Els [(.int .i64)])=>xo7 N x.1
def jy1 :FH:=⟨[],[],[(5,⟨11,35,0,[],[]⟩)],[],false,[],[]⟩
noncomputable def wt2 (N:Nat):q46:=tab [(159,qd9 N),(76,q91 N),(157,qb5 N),(155,ql5 N),(86,j95 N),(90,qd0 N)]
theorem jk9 (N:Nat):q13 Tryz.prog (wt2 N):=q06 (qc6 N)<|q06 (q81 N)<|q06 (qa9 N)<|q06 (qm3 N)<|q06 (yy3 N)<|q06 (qc3 N)<|q25 _
def qj3 (N:Nat)(l:List q00):Option q03:=(qb2 N 1 2 l).bind fun r=>bif (!r) then (qb2 N 3 3 l).bind fun r1=>bif (!r1) then (qd8 N 8).bind fun r2=>some r2 else (q82 N l).bind fun r3=>bif r3 then some ((0,0,[],()),0,()) else bif inR 0 l.length then bif inR 1 l.length then (q93 N (q17 l 0 q26) (q17 l 1 q26)).bind fun r4=>(wn4 N r4.1).bind fun r5=>(q97 N r5).bind fun r6=>some (r6,0,()) else none else none else (q82 N l).bind fun r7=>bif r7 then some ((0,0,[],()),0,()) else bif inR 0 l.length then bif inR 1 l.length then (q93 N (q17 l 0 q26) (q17 l 1 q26)).bind fun r8=>(wn4 N r8.1).bind fun r9=>(q97 N r9).bind fun r10=>some (r10,0,()) else none else none
abbrev wm7 :List PK:=[.val (.list q05),.ep 1,.fn 86 0]
noncomputable def jy0 (N:Nat)(l:List q00):Option (RT [q08]):=q20 DR Tryz.prog N (wt2 N) jy1 Tryz.f158 (q31 Tryz.f158) (RT [q08]) (w01 wm7 (l,())) [] (q38 [q08])
theorem j81 (N:Nat)(l:List q00):jy0 N l=qj3 N l:=by kernel_rfl
def j30 (m:(List q00)→Option q03):Ent:=qf5 wm7 [q08] fun (x:Els [(.list q05)])=>m x.1
def wj7 (N:Nat):Ent:=j30 (qj3 N)
theorem zw7 (N:Nat):q16 Tryz.prog 158 (wj7 N):=q57 (jk9 N) Tryz.func158 rfl (by kernel_rfl) (by kernel_rfl) fun (x:Els [(.list q05)])=>j81 N x.1
def zg8 :LH:=⟨[(2,.asis),(3,.asis),(6,.asis),(7,.own q05 507 26 3),(10,.int .i64),(11,.int .i64)],[],[.cells [.lst q08,.lst .bool],.cells [.int .u8,.int .i64,.str,.int .i64]]⟩
def qw9 :FH:=⟨[zg8],[],[],[],false,[],[]⟩
noncomputable def wg9 (N:Nat):q46:=tab [(153,q58 N),(158,wj7 N)]
theorem yn7 (N:Nat):q13 Tryz.prog (wg9 N):=q06 (q53 N)<|q06 (zw7 N)<|q25 _
noncomputable def zh2 :Sc:=w89 Tryz.prog qw9
noncomputable def zh0 (N:Nat):Cfg:=⟨N,wg9 N,0⟩
noncomputable def y54 (N:Nat):Exit→KT q03:=fin Tryz.prog 0 Tryz.f99.results.toList (q38 [q08])
def wb1 (n:Int)(k_l:List q03)(q09:List Bool)(q04 q21:Int)(q22:List UInt8)(q66:Int)(e:List q00×Int):List TV:=match e with|(l,t11)=>frm 30 [(2,.func (.func 158) [.ep [.func (.func 86) []] 0]),(3,.ref 0 0),(6,.ref 1 0),(7,.tl q05 l (.own 507 26 3)),(10,.int .i64 n),(11,.int .i64 t11)]
def wb2 (n:Int)(k_l:List q03)(q09:List Bool)(q04 q21:Int)(q22:List UInt8)(q66:Int)(e:List q00×Int):List TOb:=match e with|(l,t11)=>[.cells [.tl q08 k_l .unk,.tl .bool q09 .unk] 118 true,.cells [.int .u8 q04,.int .i64 q21,.str q22,.int .i64 q66] 115 true]
noncomputable def zg9 (N:Nat):(KT q03)→KT q03:=qy2 DR zh2 (zh0 N) (nv [5,4,1,0,1,1] Tryz.f99) zg8 (qw9.loops.drop 1) (qd6 0 (qa6 DR zh2 (zh0 N) (nv [1,1,1] Tryz.f99) (qw9.loops.drop 1) (y54 N)))
def wb0 (N:Nat)(n:Int)(k_l:List q03)(q09:List Bool)(q04 q21:Int)(q22:List UInt8)(q66:Int)(K0:(List q00×Int)→Option q03)(e:List q00×Int):Option q03:=match e with|(l,t11)=>bif decide (t11<n) then (q65 N (k_l,q09,()) t11).bind fun r=>bif (r.2.1 != 0) then some r else bif qr1 (l.length+([r.1]:List q00).length) 4398046511104 then bif q24 (t11+1) then K0 ((l++([r.1]:List q00)),t11+1) else none else none else (qj3 N l).bind fun r1=>some r1
theorem yn9 (N:Nat)(n:Int)(k_l:List q03)(q09:List Bool)(q04 q21:Int)(q22:List UInt8)(q66:Int)(n_:Nat)(e:List q00×Int):q55 (zg9 N ) n_ ((wb1 n k_l q09 q04 q21 q22 q66) e) ((wb2 n k_l q09 q04 q21 q22 q66) e)=q80 (wb0 N n k_l q09 q04 q21 q22 q66 ) n_ e :=
 q36 (wb1 n k_l q09 q04 q21 q22 q66) (wb2 n k_l q09 q04 q21 q22 q66) (by intro K e;obtain⟨l,t11⟩:=e;kernel_rfl) n_ e
def zr1 (N:Nat)(k:q35)(n:Int)(l1:Int→(List q03)→(List Bool)→Int→Int→(List UInt8)→Int→(List q00×Int)→Option q03):Option q03:=l1 n k.1 k.2.1 0 0 [] 0 ([],0)
def qt8 (N:Nat)(k:q35)(n:Int):Option q03:=zr1 N k n (fun n k_l q09 q04 q21 q22 q66 e=>q80 (wb0 N n k_l q09 q04 q21 q22 q66) N e)
abbrev zh1 :List PK:=[.val q69,.val (.int .i64),.fn 158 1,.ep 1,.fn 86 0]
noncomputable def zr0 (N:Nat)(k:q35)(n:Int):Option (RT [q08]):=q20 DR Tryz.prog N (wg9 N) qw9 Tryz.f99 (q31 Tryz.f99) (RT [q08]) (w01 zh1 (k,n,())) [] (q38 [q08])
theorem y55 (N:Nat)(k:q35)(n:Int):zr0 N k n=qt8 N k n:=by
 have h:zr0 N k n=zr1 N k n (fun n k_l q09 q04 q21 q22 q66 e=>q55 (zg9 N ) N (wb1 n k_l q09 q04 q21 q22 q66 e) (wb2 n k_l q09 q04 q21 q22 q66 e)):=by kernel_rfl
 rw[h]
 simp only[qt8,yn9]<;>rfl
def jw4 (m:q35→Int→Option q03):Ent:=qf5 zh1 [q08] fun (x:Els [q69,(.int .i64)])=>m x.1 x.2.1
def z53 (N:Nat):Ent:=jw4 (qt8 N)
theorem jj5 (N:Nat):q16 Tryz.prog 99 (z53 N):=q57 (yn7 N) Tryz.func99 rfl (by kernel_rfl) (by kernel_rfl) fun (x:Els [q69,(.int .i64)])=>y55 N x.1 x.2.1
def vn9 :FH:=⟨[],[],[],[],false,[],[]⟩
noncomputable def y95 (N:Nat):q46:=tab []
theorem vc5 (N:Nat):q13 Tryz.prog (y95 N):=q25 _
def wn5 (N:Nat)(c:Int):Option Bool:=some (decide (c≥0))
noncomputable def vn8 (N:Nat)(c:Int):Option (RT [.bool]):=q20 DR Tryz.prog N (y95 N) vn9 Tryz.f87 (q31 Tryz.f87) (RT [.bool]) (qb7 [(.int .i64)] (c,())) [] (q38 [.bool])
theorem xo8 (N:Nat)(c:Int):vn8 N c=wn5 N c:=by kernel_rfl
def xc6 (m:Int→Option Bool):Ent:=q29 [(.int .i64)] [.bool] fun (x:Els [(.int .i64)])=>m x.1
def j96 (N:Nat):Ent:=xc6 (wn5 N)
theorem yy4 (N:Nat):q16 Tryz.prog 87 (j96 N):=q10 (vc5 N) Tryz.func87 rfl (by kernel_rfl) fun (x:Els [(.int .i64)])=>xo8 N x.1
def jy3 :FH:=⟨[],[],[(5,⟨11,35,0,[],[]⟩)],[],false,[],[]⟩
noncomputable def wt3 (N:Nat):q46:=tab [(159,qd9 N),(76,q91 N),(157,qb5 N),(155,ql5 N),(87,j96 N),(90,qd0 N)]
theorem jl0 (N:Nat):q13 Tryz.prog (wt3 N):=q06 (qc6 N)<|q06 (q81 N)<|q06 (qa9 N)<|q06 (qm3 N)<|q06 (yy4 N)<|q06 (qc3 N)<|q25 _
def qj4 (N:Nat)(l:List q00):Option q03:=(qb2 N 1 2 l).bind fun r=>bif (!r) then (qb2 N 3 3 l).bind fun r1=>bif (!r1) then (qd8 N 8).bind fun r2=>some r2 else (q82 N l).bind fun r3=>bif r3 then some ((0,0,[],()),0,()) else bif inR 0 l.length then bif inR 1 l.length then (q93 N (q17 l 0 q26) (q17 l 1 q26)).bind fun r4=>(wn5 N r4.1).bind fun r5=>(q97 N r5).bind fun r6=>some (r6,0,()) else none else none else (q82 N l).bind fun r7=>bif r7 then some ((0,0,[],()),0,()) else bif inR 0 l.length then bif inR 1 l.length then (q93 N (q17 l 0 q26) (q17 l 1 q26)).bind fun r8=>(wn5 N r8.1).bind fun r9=>(q97 N r9).bind fun r10=>some (r10,0,()) else none else none
abbrev wm8 :List PK:=[.val (.list q05),.ep 1,.fn 87 0]
noncomputable def jy2 (N:Nat)(l:List q00):Option (RT [q08]):=q20 DR Tryz.prog N (wt3 N) jy3 Tryz.f158 (q31 Tryz.f158) (RT [q08]) (w01 wm8 (l,())) [] (q38 [q08])
theorem j82 (N:Nat)(l:List q00):jy2 N l=qj4 N l:=by kernel_rfl
def j31 (m:(List q00)→Option q03):Ent:=qf5 wm8 [q08] fun (x:Els [(.list q05)])=>m x.1
def wj8 (N:Nat):Ent:=j31 (qj4 N)
theorem zw8 (N:Nat):q16 Tryz.prog 158 (wj8 N):=q57 (jl0 N) Tryz.func158 rfl (by kernel_rfl) (by kernel_rfl) fun (x:Els [(.list q05)])=>j82 N x.1
def zh3 :LH:=⟨[(2,.asis),(3,.asis),(6,.asis),(7,.own q05 507 26 3),(10,.int .i64),(11,.int .i64)],[],[.cells [.lst q08,.lst .bool],.cells [.int .u8,.int .i64,.str,.int .i64]]⟩
def qx0 :FH:=⟨[zh3],[],[],[],false,[],[]⟩
noncomputable def wh1 (N:Nat):q46:=tab [(153,q58 N),(158,wj8 N)]
theorem yo0 (N:Nat):q13 Tryz.prog (wh1 N):=q06 (q53 N)<|q06 (zw8 N)<|q25 _
noncomputable def zh7 :Sc:=w89 Tryz.prog qx0
noncomputable def zh5 (N:Nat):Cfg:=⟨N,wh1 N,0⟩
noncomputable def y56 (N:Nat):Exit→KT q03:=fin Tryz.prog 0 Tryz.f99.results.toList (q38 [q08])
def wb4 (n:Int)(k_l:List q03)(q09:List Bool)(q04 q21:Int)(q22:List UInt8)(q66:Int)(e:List q00×Int):List TV:=match e with|(l,t11)=>frm 30 [(2,.func (.func 158) [.ep [.func (.func 87) []] 0]),(3,.ref 0 0),(6,.ref 1 0),(7,.tl q05 l (.own 507 26 3)),(10,.int .i64 n),(11,.int .i64 t11)]
def wb5 (n:Int)(k_l:List q03)(q09:List Bool)(q04 q21:Int)(q22:List UInt8)(q66:Int)(e:List q00×Int):List TOb:=match e with|(l,t11)=>[.cells [.tl q08 k_l .unk,.tl .bool q09 .unk] 118 true,.cells [.int .u8 q04,.int .i64 q21,.str q22,.int .i64 q66] 115 true]
noncomputable def zh4 (N:Nat):(KT q03)→KT q03:=qy2 DR zh7 (zh5 N) (nv [5,4,1,0,1,1] Tryz.f99) zh3 (qx0.loops.drop 1) (qd6 0 (qa6 DR zh7 (zh5 N) (nv [1,1,1] Tryz.f99) (qx0.loops.drop 1) (y56 N)))
def wb3 (N:Nat)(n:Int)(k_l:List q03)(q09:List Bool)(q04 q21:Int)(q22:List UInt8)(q66:Int)(K0:(List q00×Int)→Option q03)(e:List q00×Int):Option q03:=match e with|(l,t11)=>bif decide (t11<n) then (q65 N (k_l,q09,()) t11).bind fun r=>bif (r.2.1 != 0) then some r else bif qr1 (l.length+([r.1]:List q00).length) 4398046511104 then bif q24 (t11+1) then K0 ((l++([r.1]:List q00)),t11+1) else none else none else (qj4 N l).bind fun r1=>some r1
theorem yo2 (N:Nat)(n:Int)(k_l:List q03)(q09:List Bool)(q04 q21:Int)(q22:List UInt8)(q66:Int)(n_:Nat)(e:List q00×Int):q55 (zh4 N ) n_ ((wb4 n k_l q09 q04 q21 q22 q66) e) ((wb5 n k_l q09 q04 q21 q22 q66) e)=q80 (wb3 N n k_l q09 q04 q21 q22 q66 ) n_ e :=
 q36 (wb4 n k_l q09 q04 q21 q22 q66) (wb5 n k_l q09 q04 q21 q22 q66) (by intro K e;obtain⟨l,t11⟩:=e;kernel_rfl) n_ e
def zr3 (N:Nat)(k:q35)(n:Int)(l1:Int→(List q03)→(List Bool)→Int→Int→(List UInt8)→Int→(List q00×Int)→Option q03):Option q03:=l1 n k.1 k.2.1 0 0 [] 0 ([],0)
def qt9 (N:Nat)(k:q35)(n:Int):Option q03:=zr3 N k n (fun n k_l q09 q04 q21 q22 q66 e=>q80 (wb3 N n k_l q09 q04 q21 q22 q66) N e)
abbrev zh6 :List PK:=[.val q69,.val (.int .i64),.fn 158 1,.ep 1,.fn 87 0]
noncomputable def zr2 (N:Nat)(k:q35)(n:Int):Option (RT [q08]):=q20 DR Tryz.prog N (wh1 N) qx0 Tryz.f99 (q31 Tryz.f99) (RT [q08]) (w01 zh6 (k,n,())) [] (q38 [q08])
theorem y57 (N:Nat)(k:q35)(n:Int):zr2 N k n=qt9 N k n:=by
 have h:zr2 N k n=zr3 N k n (fun n k_l q09 q04 q21 q22 q66 e=>q55 (zh4 N ) N (wb4 n k_l q09 q04 q21 q22 q66 e) (wb5 n k_l q09 q04 q21 q22 q66 e)):=by kernel_rfl
 rw[h]
 simp only[qt9,yo2]<;>rfl
def jw5 (m:q35→Int→Option q03):Ent:=qf5 zh6 [q08] fun (x:Els [q69,(.int .i64)])=>m x.1 x.2.1
def z54 (N:Nat):Ent:=jw5 (qt9 N)
theorem jj6 (N:Nat):q16 Tryz.prog 99 (z54 N):=q57 (yo0 N) Tryz.func99 rfl (by kernel_rfl) (by kernel_rfl) fun (x:Els [q69,(.int .i64)])=>y57 N x.1 x.2.1
def vo1 :FH:=⟨[],[],[(1,⟨8,14,0,[],[]⟩)],[],false,[],[]⟩
noncomputable def y96 (N:Nat):q46:=tab [(91,zl5 N),(90,qd0 N)]
theorem vc6 (N:Nat):q13 Tryz.prog (y96 N):=q06 (jy6 N)<|q06 (qc3 N)<|q25 _
def zm6 (N:Nat)(l:List q00):Option q03:=bif inR 0 l.length then bif inR 1 l.length then (wf8 N ((q17 l 0 q26).2.2.1) ((q17 l 1 q26).2.2.1)).bind fun r=>(q97 N r).bind fun r1=>some (r1,0,()) else none else none
noncomputable def vo0 (N:Nat)(l:List q00):Option (RT [q08]):=q20 DR Tryz.prog N (y96 N) vo1 Tryz.f89 (q31 Tryz.f89) (RT [q08]) (qb7 [(.list q05)] (l,())) [] (q38 [q08])
theorem xo9 (N:Nat)(l:List q00):vo0 N l=zm6 N l:=by kernel_rfl
def xc7 (m:(List q00)→Option q03):Ent:=q29 [(.list q05)] [q08] fun (x:Els [(.list q05)])=>m x.1
def j97 (N:Nat):Ent:=xc7 (zm6 N)
theorem yy5 (N:Nat):q16 Tryz.prog 89 (j97 N):=q10 (vc6 N) Tryz.func89 rfl (by kernel_rfl) fun (x:Els [(.list q05)])=>xo9 N x.1
def xb3 :FH:=⟨[],[],[],[],false,[],[]⟩
noncomputable def zy4 (N:Nat):q46:=tab [(159,qd9 N),(76,q91 N),(157,qb5 N),(89,j97 N)]
theorem yx1 (N:Nat):q13 Tryz.prog (zy4 N):=q06 (qc6 N)<|q06 (q81 N)<|q06 (qa9 N)<|q06 (yy5 N)<|q25 _
def qn2 (N:Nat)(l:List q00)(t1:Int):Option q03:=(qb2 N t1 t1 l).bind fun r=>bif (!r) then (qd8 N 8).bind fun r1=>some r1 else (q82 N l).bind fun r2=>bif r2 then some ((0,0,[],()),0,()) else (zm6 N l).bind fun r3=>some r3
abbrev zs4 :List PK:=[.val (.list q05),.ep 1,.val (.int .u8),.ep 1,.fn 89 0]
noncomputable def xb2 (N:Nat)(l:List q00)(t1:Int):Option (RT [q08]):=q20 DR Tryz.prog N (zy4 N) xb3 Tryz.f160 (q31 Tryz.f160) (RT [q08]) (w01 zs4 (l,t1,())) [] (q38 [q08])
theorem yp8 (N:Nat)(l:List q00)(t1:Int):xb2 N l t1=qn2 N l t1:=by kernel_rfl
def y68 (m:(List q00)→Int→Option q03):Ent:=qf5 zs4 [q08] fun (x:Els [(.list q05),(.int .u8)])=>m x.1 x.2.1
def zk3 (N:Nat):Ent:=y68 (qn2 N)
theorem jx1 (N:Nat):q16 Tryz.prog 160 (zk3 N):=q57 (yx1 N) Tryz.func160 rfl (by kernel_rfl) (by kernel_rfl) fun (x:Els [(.list q05),(.int .u8)])=>yp8 N x.1 x.2.1
def zh8 :LH:=⟨[(2,.asis),(3,.asis),(6,.asis),(7,.own q05 507 26 3),(10,.int .i64),(11,.int .i64)],[],[.cells [.lst q08,.lst .bool],.cells [.int .u8,.int .i64,.str,.int .i64]]⟩
def qx1 :FH:=⟨[zh8],[],[],[],false,[],[]⟩
noncomputable def wh3 (N:Nat):q46:=tab [(153,q58 N),(160,zk3 N)]
theorem yo3 (N:Nat):q13 Tryz.prog (wh3 N):=q06 (q53 N)<|q06 (jx1 N)<|q25 _
noncomputable def zi2 :Sc:=w89 Tryz.prog qx1
noncomputable def zi0 (N:Nat):Cfg:=⟨N,wh3 N,0⟩
noncomputable def y58 (N:Nat):Exit→KT q03:=fin Tryz.prog 0 Tryz.f99.results.toList (q38 [q08])
def wb7 (n:Int)(k_l:List q03)(q09:List Bool)(q04 q21:Int)(q22:List UInt8)(q66 t1:Int)(e:List q00×Int):List TV:=match e with|(l,t11)=>frm 30 [(2,.func (.func 160) [.ep [.int .u8 t1] 0,.ep [.func (.func 89) []] 0]),(3,.ref 0 0),(6,.ref 1 0),(7,.tl q05 l (.own 507 26 3)),(10,.int .i64 n),(11,.int .i64 t11)]
def wb8 (n:Int)(k_l:List q03)(q09:List Bool)(q04 q21:Int)(q22:List UInt8)(q66 t1:Int)(e:List q00×Int):List TOb:=match e with|(l,t11)=>[.cells [.tl q08 k_l .unk,.tl .bool q09 .unk] 118 true,.cells [.int .u8 q04,.int .i64 q21,.str q22,.int .i64 q66] 115 true]
noncomputable def zh9 (N:Nat):(KT q03)→KT q03:=qy2 DR zi2 (zi0 N) (nv [5,4,1,0,1,1] Tryz.f99) zh8 (qx1.loops.drop 1) (qd6 0 (qa6 DR zi2 (zi0 N) (nv [1,1,1] Tryz.f99) (qx1.loops.drop 1) (y58 N)))
def wb6 (N:Nat)(n:Int)(k_l:List q03)(q09:List Bool)(q04 q21:Int)(q22:List UInt8)(q66 t1:Int)(K0:(List q00×Int)→Option q03)(e:List q00×Int):Option q03:=match e with|(l,t11)=>bif decide (t11<n) then (q65 N (k_l,q09,()) t11).bind fun r=>bif (r.2.1 != 0) then some r else bif qr1 (l.length+([r.1]:List q00).length) 4398046511104 then bif q24 (t11+1) then K0 ((l++([r.1]:List q00)),t11+1) else none else none else (qn2 N l t1).bind fun r1=>some r1
theorem yo5 (N:Nat)(n:Int)(k_l:List q03)(q09:List Bool)(q04 q21:Int)(q22:List UInt8)(q66 t1:Int)(n_:Nat)(e:List q00×Int):q55 (zh9 N ) n_ ((wb7 n k_l q09 q04 q21 q22 q66 t1) e) ((wb8 n k_l q09 q04 q21 q22 q66 t1) e)=q80 (wb6 N n k_l q09 q04 q21 q22 q66 t1 ) n_ e :=
 q36 (wb7 n k_l q09 q04 q21 q22 q66 t1) (wb8 n k_l q09 q04 q21 q22 q66 t1) (by intro K e;obtain⟨l,t11⟩:=e;kernel_rfl) n_ e
def zr5 (N:Nat)(k:q35)(n t1:Int)(l1:Int→(List q03)→(List Bool)→Int→Int→(List UInt8)→Int→Int→(List q00×Int)→Option q03):Option q03:=l1 n k.1 k.2.1 0 0 [] 0 t1 ([],0)
def qu0 (N:Nat)(k:q35)(n t1:Int):Option q03:=zr5 N k n t1 (fun n k_l q09 q04 q21 q22 q66 t1 e=>q80 (wb6 N n k_l q09 q04 q21 q22 q66 t1) N e)
abbrev zi1 :List PK:=[.val q69,.val (.int .i64),.fn 160 2,.ep 1,.val (.int .u8),.ep 1,.fn 89 0]
noncomputable def zr4 (N:Nat)(k:q35)(n t1:Int):Option (RT [q08]):=q20 DR Tryz.prog N (wh3 N) qx1 Tryz.f99 (q31 Tryz.f99) (RT [q08]) (w01 zi1 (k,n,t1,())) [] (q38 [q08])
theorem y59 (N:Nat)(k:q35)(n t1:Int):zr4 N k n t1=qu0 N k n t1:=by
 have h:zr4 N k n t1=zr5 N k n t1 (fun n k_l q09 q04 q21 q22 q66 t1 e=>q55 (zh9 N ) N (wb7 n k_l q09 q04 q21 q22 q66 t1 e) (wb8 n k_l q09 q04 q21 q22 q66 t1 e)):=by kernel_rfl
 rw[h]
 simp only[qu0,yo5]<;>rfl
def jw6 (m:q35→Int→Int→Option q03):Ent:=qf5 zi1 [q08] fun (x:Els [q69,(.int .i64),(.int .u8)])=>m x.1 x.2.1 x.2.2.1
def z55 (N:Nat):Ent:=jw6 (qu0 N)
theorem jj7 (N:Nat):q16 Tryz.prog 99 (z55 N):=q57 (yo3 N) Tryz.func99 rfl (by kernel_rfl) (by kernel_rfl) fun (x:Els [q69,(.int .i64),(.int .u8)])=>y59 N x.1 x.2.1 x.2.2.1
def jo6 :FH:=⟨[],[],[],[],false,[],[]⟩
noncomputable def wq5 (N:Nat):q46:=tab []
theorem je2 (N:Nat):q13 Tryz.prog (wq5 N):=q25 _
def qq1 (N:Nat)(s wd1:List UInt8):Option Bool:=bif decide ((s.length:Int)≥(wd1.length:Int)) then bif upTo (wd1.length:Int) s.length then some ((s.take (wd1.length:Int).toNat)==wd1) else none else some false
noncomputable def jo5 (N:Nat)(s wd1:List UInt8):Option (RT [.bool]):=q20 DR Tryz.prog N (wq5 N) jo6 Tryz.f162 (q31 Tryz.f162) (RT [.bool]) (qb7 [.str,.str] (s,wd1,())) [] (q38 [.bool])
theorem j36 (N:Nat)(s wd1:List UInt8):jo5 N s wd1=qq1 N s wd1:=by kernel_rfl
def zw9 (m:(List UInt8)→(List UInt8)→Option Bool):Ent:=q29 [.str,.str] [.bool] fun (x:Els [.str,.str])=>m x.1 x.2.1
def we4 (N:Nat):Ent:=zw9 (qq1 N)
theorem zv6 (N:Nat):q16 Tryz.prog 162 (we4 N):=q10 (je2 N) Tryz.func162 rfl (by kernel_rfl) fun (x:Els [.str,.str])=>j36 N x.1 x.2.1
def x48 :FH:=⟨[],[],[],[],false,[],[]⟩
noncomputable def zv5 (N:Nat):q46:=tab [(162,we4 N)]
theorem yr1 (N:Nat):q13 Tryz.prog (zv5 N):=q06 (zv6 N)<|q25 _
def w87 (N:Nat)(s wd1:List UInt8):Option Bool:=(qq1 N s wd1).bind fun r=>some r
noncomputable def x47 (N:Nat)(s wd1:List UInt8):Option (RT [.bool]):=q20 DR Tryz.prog N (zv5 N) x48 Tryz.f93 (q31 Tryz.f93) (RT [.bool]) (qb7 [.str,.str] (s,wd1,())) [] (q38 [.bool])
theorem ye9 (N:Nat)(s wd1:List UInt8):x47 N s wd1=w87 N s wd1:=by kernel_rfl
def jy7 (m:(List UInt8)→(List UInt8)→Option Bool):Ent:=q29 [.str,.str] [.bool] fun (x:Els [.str,.str])=>m x.1 x.2.1
def z91 (N:Nat):Ent:=jy7 (w87 N)
theorem jo4 (N:Nat):q16 Tryz.prog 93 (z91 N):=q10 (yr1 N) Tryz.func93 rfl (by kernel_rfl) fun (x:Els [.str,.str])=>ye9 N x.1 x.2.1
def vo3 :FH:=⟨[],[],[(1,⟨8,14,0,[],[]⟩)],[],false,[],[]⟩
noncomputable def y97 (N:Nat):q46:=tab [(93,z91 N),(90,qd0 N)]
theorem vc7 (N:Nat):q13 Tryz.prog (y97 N):=q06 (jo4 N)<|q06 (qc3 N)<|q25 _
def zm7 (N:Nat)(l:List q00):Option q03:=bif inR 0 l.length then bif inR 1 l.length then (w87 N ((q17 l 0 q26).2.2.1) ((q17 l 1 q26).2.2.1)).bind fun r=>(q97 N r).bind fun r1=>some (r1,0,()) else none else none
noncomputable def vo2 (N:Nat)(l:List q00):Option (RT [q08]):=q20 DR Tryz.prog N (y97 N) vo3 Tryz.f92 (q31 Tryz.f92) (RT [q08]) (qb7 [(.list q05)] (l,())) [] (q38 [q08])
theorem xp0 (N:Nat)(l:List q00):vo2 N l=zm7 N l:=by kernel_rfl
def xc8 (m:(List q00)→Option q03):Ent:=q29 [(.list q05)] [q08] fun (x:Els [(.list q05)])=>m x.1
def j98 (N:Nat):Ent:=xc8 (zm7 N)
theorem yy6 (N:Nat):q16 Tryz.prog 92 (j98 N):=q10 (vc7 N) Tryz.func92 rfl (by kernel_rfl) fun (x:Els [(.list q05)])=>xp0 N x.1
def y70 :FH:=⟨[],[],[],[],false,[],[]⟩
noncomputable def z60 (N:Nat):q46:=tab [(159,qd9 N),(76,q91 N),(157,qb5 N),(92,j98 N)]
theorem jx2 (N:Nat):q13 Tryz.prog (z60 N):=q06 (qc6 N)<|q06 (q81 N)<|q06 (qa9 N)<|q06 (yy6 N)<|q25 _
def qf9 (N:Nat)(l:List q00)(t1:Int):Option q03:=(qb2 N t1 t1 l).bind fun r=>bif (!r) then (qd8 N 8).bind fun r1=>some r1 else (q82 N l).bind fun r2=>bif r2 then some ((0,0,[],()),0,()) else (zm7 N l).bind fun r3=>some r3
abbrev ws7 :List PK:=[.val (.list q05),.ep 1,.val (.int .u8),.ep 1,.fn 92 0]
noncomputable def y69 (N:Nat)(l:List q00)(t1:Int):Option (RT [q08]):=q20 DR Tryz.prog N (z60 N) y70 Tryz.f160 (q31 Tryz.f160) (RT [q08]) (w01 ws7 (l,t1,())) [] (q38 [q08])
theorem jk2 (N:Nat)(l:List q00)(t1:Int):y69 N l t1=qf9 N l t1:=by kernel_rfl
def j76 (m:(List q00)→Int→Option q03):Ent:=qf5 ws7 [q08] fun (x:Els [(.list q05),(.int .u8)])=>m x.1 x.2.1
def wm2 (N:Nat):Ent:=j76 (qf9 N)
theorem j25 (N:Nat):q16 Tryz.prog 160 (wm2 N):=q57 (jx2 N) Tryz.func160 rfl (by kernel_rfl) (by kernel_rfl) fun (x:Els [(.list q05),(.int .u8)])=>jk2 N x.1 x.2.1
def zi3 :LH:=⟨[(2,.asis),(3,.asis),(6,.asis),(7,.own q05 507 26 3),(10,.int .i64),(11,.int .i64)],[],[.cells [.lst q08,.lst .bool],.cells [.int .u8,.int .i64,.str,.int .i64]]⟩
def qx2 :FH:=⟨[zi3],[],[],[],false,[],[]⟩
noncomputable def wh5 (N:Nat):q46:=tab [(153,q58 N),(160,wm2 N)]
theorem yo6 (N:Nat):q13 Tryz.prog (wh5 N):=q06 (q53 N)<|q06 (j25 N)<|q25 _
noncomputable def zi7 :Sc:=w89 Tryz.prog qx2
noncomputable def zi5 (N:Nat):Cfg:=⟨N,wh5 N,0⟩
noncomputable def y60 (N:Nat):Exit→KT q03:=fin Tryz.prog 0 Tryz.f99.results.toList (q38 [q08])
def wc0 (n:Int)(k_l:List q03)(q09:List Bool)(q04 q21:Int)(q22:List UInt8)(q66 t1:Int)(e:List q00×Int):List TV:=match e with|(l,t11)=>frm 30 [(2,.func (.func 160) [.ep [.int .u8 t1] 0,.ep [.func (.func 92) []] 0]),(3,.ref 0 0),(6,.ref 1 0),(7,.tl q05 l (.own 507 26 3)),(10,.int .i64 n),(11,.int .i64 t11)]
def wc1 (n:Int)(k_l:List q03)(q09:List Bool)(q04 q21:Int)(q22:List UInt8)(q66 t1:Int)(e:List q00×Int):List TOb:=match e with|(l,t11)=>[.cells [.tl q08 k_l .unk,.tl .bool q09 .unk] 118 true,.cells [.int .u8 q04,.int .i64 q21,.str q22,.int .i64 q66] 115 true]
noncomputable def zi4 (N:Nat):(KT q03)→KT q03:=qy2 DR zi7 (zi5 N) (nv [5,4,1,0,1,1] Tryz.f99) zi3 (qx2.loops.drop 1) (qd6 0 (qa6 DR zi7 (zi5 N) (nv [1,1,1] Tryz.f99) (qx2.loops.drop 1) (y60 N)))
def wb9 (N:Nat)(n:Int)(k_l:List q03)(q09:List Bool)(q04 q21:Int)(q22:List UInt8)(q66 t1:Int)(K0:(List q00×Int)→Option q03)(e:List q00×Int):Option q03:=match e with|(l,t11)=>bif decide (t11<n) then (q65 N (k_l,q09,()) t11).bind fun r=>bif (r.2.1 != 0) then some r else bif qr1 (l.length+([r.1]:List q00).length) 4398046511104 then bif q24 (t11+1) then K0 ((l++([r.1]:List q00)),t11+1) else none else none else (qf9 N l t1).bind fun r1=>some r1
theorem yo8 (N:Nat)(n:Int)(k_l:List q03)(q09:List Bool)(q04 q21:Int)(q22:List UInt8)(q66 t1:Int)(n_:Nat)(e:List q00×Int):q55 (zi4 N ) n_ ((wc0 n k_l q09 q04 q21 q22 q66 t1) e) ((wc1 n k_l q09 q04 q21 q22 q66 t1) e)=q80 (wb9 N n k_l q09 q04 q21 q22 q66 t1 ) n_ e :=
 q36 (wc0 n k_l q09 q04 q21 q22 q66 t1) (wc1 n k_l q09 q04 q21 q22 q66 t1) (by intro K e;obtain⟨l,t11⟩:=e;kernel_rfl) n_ e
def zr7 (N:Nat)(k:q35)(n t1:Int)(l1:Int→(List q03)→(List Bool)→Int→Int→(List UInt8)→Int→Int→(List q00×Int)→Option q03):Option q03:=l1 n k.1 k.2.1 0 0 [] 0 t1 ([],0)
def qu1 (N:Nat)(k:q35)(n t1:Int):Option q03:=zr7 N k n t1 (fun n k_l q09 q04 q21 q22 q66 t1 e=>q80 (wb9 N n k_l q09 q04 q21 q22 q66 t1) N e)
abbrev zi6 :List PK:=[.val q69,.val (.int .i64),.fn 160 2,.ep 1,.val (.int .u8),.ep 1,.fn 92 0]
noncomputable def zr6 (N:Nat)(k:q35)(n t1:Int):Option (RT [q08]):=q20 DR Tryz.prog N (wh5 N) qx2 Tryz.f99 (q31 Tryz.f99) (RT [q08]) (w01 zi6 (k,n,t1,())) [] (q38 [q08])
theorem y61 (N:Nat)(k:q35)(n t1:Int):zr6 N k n t1=qu1 N k n t1:=by
 have h:zr6 N k n t1=zr7 N k n t1 (fun n k_l q09 q04 q21 q22 q66 t1 e=>q55 (zi4 N ) N (wc0 n k_l q09 q04 q21 q22 q66 t1 e) (wc1 n k_l q09 q04 q21 q22 q66 t1 e)):=by kernel_rfl
 rw[h]
 simp only[qu1,yo8]<;>rfl
def jw7 (m:q35→Int→Int→Option q03):Ent:=qf5 zi6 [q08] fun (x:Els [q69,(.int .i64),(.int .u8)])=>m x.1 x.2.1 x.2.2.1
def z56 (N:Nat):Ent:=jw7 (qu1 N)
theorem jj8 (N:Nat):q16 Tryz.prog 99 (z56 N):=q57 (yo6 N) Tryz.func99 rfl (by kernel_rfl) (by kernel_rfl) fun (x:Els [q69,(.int .i64),(.int .u8)])=>y61 N x.1 x.2.1 x.2.2.1
noncomputable def zs7 (N:Nat):q46:=tab [(99,sel [0,0,168,3,94] (z51 N)<|sel [0,0,168,3,95] (z52 N)<|sel [0,0,168,3,96] (z53 N)<|sel [0,0,168,3,97] (z54 N) ky2)]
theorem yq1 (N:Nat):q13 Tryz.prog (zs7 N):=q06 (qe3 (jj3 N)<|qe3 (jj4 N)<|qe3 (jj5 N)<|qe3 (jj6 N) wu7)<|q25 _
noncomputable def z66 (N:Nat):Ent:=zt4 Tryz.prog N (zs7 N) ⟨[],[],[],[],false,[99],[]⟩ Tryz.f83 (q31 Tryz.f83)
theorem jl1 (N:Nat):q16 Tryz.prog 83 (z66 N):=qc4 (yq1 N) Tryz.func83 rfl (by kernel_rfl)
noncomputable def zy5 (N:Nat):q46:=tab [(99,sel [0,0,170,3,0,3,99] (z55 N)<|sel [0,0,170,3,0,3,102] (z56 N) ky2)]
theorem yx2 (N:Nat):q13 Tryz.prog (zy5 N):=q06 (qe3 (jj7 N)<|qe3 (jj8 N) wu7)<|q25 _
noncomputable def zk4 (N:Nat):Ent:=zt4 Tryz.prog N (zy5 N) ⟨[],[],[],[],false,[99],[]⟩ Tryz.f88 (q31 Tryz.f88)
theorem jx6 (N:Nat):q16 Tryz.prog 88 (zk4 N):=qc4 (yx2 N) Tryz.func88 rfl (by kernel_rfl)
def zm8 :FH:=⟨[],[],[],[],false,[],[(13,⟨[(0,.int .u8),(3,.asis),(4,.asis)],[],[.cells [.lst q08,.lst .bool],.cells [.int .u8,.int .i64,.str,.int .i64]]⟩)]⟩
noncomputable def jl5 (N:Nat):q46:=tab [(77,sel [0,0,88] (zy1 N)<|sel [0,0,89] (z07 N) ky2),(80,ql8 N),(81,jp7 N),(83,z66 N),(88,zk4 N),(82,zq5 N)]
theorem ua0 (N:Nat):q13 Tryz.prog (jl5 N):=q06 (qe3 (ym1 N)<|qe3 (ji3 N) wu7)<|q06 (qp6 N)<|q06 (yg2 N)<|q06 (jl1 N)<|q06 (jx6 N)<|q06 (y24 N)<|q25 _
noncomputable def j33 :Sc:=w89 Tryz.prog zm8
noncomputable def j32 (N:Nat):Cfg:=⟨N,jl5 N,0⟩
noncomputable def vo4 (N:Nat):Exit→KT (q03×Bool×Unit):=fin Tryz.prog 0 Tryz.f37.results.toList (q38 [q08,.bool])
def ys1 (op:Int)(k_l:List q03)(q09:List Bool)(e:Unit):List TV:=frm 59 [(0,.int .u8 op),(3,.ref 0 0),(4,.ref 1 0)]
def ys3 (op:Int)(k_l:List q03)(q09:List Bool)(e:Unit):List TOb:=[.cells [.tl q08 k_l .unk,.tl .bool q09 .unk] 118 true,.cells [.int .u8 0,.int .i64 0,.str [],.int .i64 0] 115 true]
noncomputable def ys2 (N:Nat):KT (q03×Bool×Unit):=yr0 DR j33 (j32 N) (nv [0,2,1,3,1,3,1,3,1,4,1,0,1] Tryz.f37) (qa6 DR j33 (j32 N) (nv [1,2,1,3,1,3,1,3,1,4,1,0,1] Tryz.f37) (zm8.loops.drop 0) (qd6 0 (qa6 DR j33 (j32 N) (nv [1,1] Tryz.f37) (zm8.loops.drop 0) (vo4 N))))
def wz7 (N:Nat)(op:Int)(k_l:List q03)(q09:List Bool)(e:Unit):Option (q03×Bool×Unit):=(w30 N (k_l,q09,()) (op==7)).bind fun r10=>some (r10,true,())
theorem ua1 (N:Nat)(op:Int)(k_l:List q03)(q09:List Bool)(e:Unit):jmp N (ys2 N ) ((ys1 op k_l q09) e) ((ys3 op k_l q09) e)=at1 N (wz7 N op k_l q09 e):=qj5 (by kernel_rfl) N
def jl6 (N:Nat)(op:Int)(k:q35)(l1:Int→(List q03)→(List Bool)→Unit→Option (q03×Bool×Unit)):Option (q03×Bool×Unit):=bif (op==5) then (wd6 N k 0).bind fun r=>some (r,true,()) else bif (op==4) then (qt5 N k 1).bind fun r1=>some (r1,true,()) else bif (op==6) then (q83 N k 0).bind fun r2=>bif (r2.2.1==0) then (zw0 N r2.1).bind fun r3=>some ((r3,r2.2.1,()),true,()) else some (r2,true,()) else bif (op==7) then l1 op k.1 k.2.1 () else bif (op==8) then l1 op k.1 k.2.1 () else bif (op==9) then (qt6 N k 2).bind fun r4=>some (r4,true,()) else bif (op==10) then (qt7 N k 2).bind fun r5=>some (r5,true,()) else bif (op==11) then (qt8 N k 2).bind fun r6=>some (r6,true,()) else bif (op==12) then (qt9 N k 2).bind fun r7=>some (r7,true,()) else bif (op==24) then (qu0 N k 2 3).bind fun r8=>some (r8,true,()) else bif (op==25) then (qu1 N k 2 3).bind fun r9=>some (r9,true,()) else some (((0,0,[],()),0,()),false,())
def wi2 (N:Nat)(op:Int)(k:q35):Option (q03×Bool×Unit):=jl6 N op k (fun op k_l q09 e=>at1 N (wz7 N op k_l q09 e))
noncomputable def xc9 (N:Nat)(op:Int)(k:q35):Option (RT [q08,.bool]):=q20 DR Tryz.prog N (jl5 N) zm8 Tryz.f37 (q31 Tryz.f37) (RT [q08,.bool]) (qb7 [(.int .u8),q69] (op,k,())) [] (q38 [q08,.bool])
theorem vo5 (N:Nat)(op:Int)(k:q35):xc9 N op k=wi2 N op k:=by
 have h:xc9 N op k=jl6 N op k (fun op k_l q09 e=>jmp N (ys2 N ) (ys1 op k_l q09 e) (ys3 op k_l q09 e)):=by kernel_rfl
 rw[h]
 simp only[wi2,ua1]<;>rfl
def vc8 (m:Int→q35→Option (q03×Bool×Unit)):Ent:=q29 [(.int .u8),q69] [q08,.bool] fun (x:Els [(.int .u8),q69])=>m x.1 x.2.1
def y98 (N:Nat):Ent:=vc8 (wi2 N)
theorem xp1 (N:Nat):q16 Tryz.prog 37 (y98 N):=q10 (ua0 N) Tryz.func37 rfl (by kernel_rfl) fun (x:Els [(.int .u8),q69])=>vo5 N x.1 x.2.1
def q9c :FH:=⟨[],[],[],[],true,[],[]⟩
noncomputable def uh8 (N:Nat):q46:=tab []
theorem kz4 (N:Nat):q13 Tryz.prog (uh8 N):=q25 _
def w72 (N:Nat)(n:Int):Option Int:=bif decide (n<0) then some (IntKind.u64.wrap (0-(IntKind.u64.wrap n))) else some (IntKind.u64.wrap n)
noncomputable def q9b (N:Nat)(n:Int):Option (RT [(.int .u64)]):=q20 DR Tryz.prog N (uh8 N) q9c Tryz.f220 (q31 Tryz.f220) (RT [(.int .u64)]) (qb7 [(.int .i64)] (n,())) [] (q38 [(.int .u64)])
theorem kh0 (N:Nat)(n:Int):q9b N n=w72 N n:=by kernel_rfl
def ux3 (m:Int→Option Int):Ent:=q29 [(.int .i64)] [(.int .u64)] fun (x:Els [(.int .i64)])=>m x.1
def z74 (N:Nat):Ent:=ux3 (w72 N)
theorem z00 (N:Nat):q16 Tryz.prog 220 (z74 N):=q10 (kz4 N) Tryz.func220 rfl (by kernel_rfl) fun (x:Els [(.int .i64)])=>kh0 N x.1
def kg9 :FH:=⟨[],[],[],[],true,[],[]⟩
noncomputable def v44 (N:Nat):q46:=tab []
theorem ux2 (N:Nat):q13 Tryz.prog (v44 N):=q25 _
def ql0 (N:Nat)(neg:Bool)(hi lo:Int):Option (Int×Int×Unit):=bif decide (hi>0) then some (0,9,()) else bif decide (lo>9223372036854775808) then some (0,9,()) else bif (lo==9223372036854775808) then bif (!neg) then some (0,9,()) else bif neg then some ((IntKind.i64.wrap (0-(IntKind.i64.wrap lo))),0,()) else some ((IntKind.i64.wrap lo),0,()) else bif neg then some ((IntKind.i64.wrap (0-(IntKind.i64.wrap lo))),0,()) else some ((IntKind.i64.wrap lo),0,())
noncomputable def kg8 (N:Nat)(neg:Bool)(hi lo:Int):Option (RT [(.int .i64),(.int .i64)]):=q20 DR Tryz.prog N (v44 N) kg9 Tryz.f221 (q31 Tryz.f221) (RT [(.int .i64),(.int .i64)]) (qb7 [.bool,(.int .u64),(.int .u64)] (neg,hi,lo,())) [] (q38 [(.int .i64),(.int .i64)])
theorem ua7 (N:Nat)(neg:Bool)(hi lo:Int):kg8 N neg hi lo=ql0 N neg hi lo:=by kernel_rfl
def vr2 (m:Bool→Int→Int→Option (Int×Int×Unit)):Ent:=q29 [.bool,(.int .u64),(.int .u64)] [(.int .i64),(.int .i64)] fun (x:Els [.bool,(.int .u64),(.int .u64)])=>m x.1 x.2.1 x.2.2.1
def we1 (N:Nat):Ent:=vr2 (ql0 N)
theorem wf3 (N:Nat):q16 Tryz.prog 221 (we1 N):=q10 (ux2 N) Tryz.func221 rfl (by kernel_rfl) fun (x:Els [.bool,(.int .u64),(.int .u64)])=>ua7 N x.1 x.2.1 x.2.2.1
def num_Mul_H :FH:=⟨[],[],[],[],false,[],[]⟩
noncomputable def kf9 (N:Nat):q46:=tab [(220,z74 N),(219,wz2 N),(221,we1 N)]
theorem q8v (N:Nat):q13 Tryz.prog (kf9 N):=q06 (z00 N)<|q06 (za2 N)<|q06 (wf3 N)<|q25 _
def yz0 (N:Nat)(a b:Int):Option (Int×Int×Unit):=(w72 N a).bind fun r=>(w72 N b).bind fun r1=>(qz6 N r r1).bind fun r2=>(ql0 N (!((decide (a<0))==(decide (b<0)))) r2.1 r2.2.1).bind fun r3=>some r3
noncomputable def num_Mul_C (N:Nat)(a b:Int):Option (RT [(.int .i64),(.int .i64)]):=q20 DR Tryz.prog N (kf9 N) num_Mul_H Tryz.f167 (q31 Tryz.f167) (RT [(.int .i64),(.int .i64)]) (qb7 [(.int .i64),(.int .i64)] (a,b,())) [] (q38 [(.int .i64),(.int .i64)])
theorem ky8 (N:Nat)(a b:Int):num_Mul_C N a b=yz0 N a b:=by kernel_rfl
def kg0 (m:Int→Int→Option (Int×Int×Unit)):Ent:=q29 [(.int .i64),(.int .i64)] [(.int .i64),(.int .i64)] fun (x:Els [(.int .i64),(.int .i64)])=>m x.1 x.2.1
def yz1 (N:Nat):Ent:=kg0 (yz0 N)
theorem xd7 (N:Nat):q16 Tryz.prog 167 (yz1 N):=q10 (q8v N) Tryz.func167 rfl (by kernel_rfl) fun (x:Els [(.int .i64),(.int .i64)])=>ky8 N x.1 x.2.1
def kz1 :FH:=⟨[],[],[],[],false,[],[]⟩
noncomputable def vq7 (N:Nat):q46:=tab [(167,yz1 N)]
theorem kg3 (N:Nat):q13 Tryz.prog (vq7 N):=q06 (xd7 N)<|q25 _
def ya5 (N:Nat)(a:Int):Option (Int×Int×Unit):=(yz0 N a 10000).bind fun r=>some r
noncomputable def kz0 (N:Nat)(a:Int):Option (RT [(.int .i64),(.int .i64)]):=q20 DR Tryz.prog N (vq7 N) kz1 Tryz.f283 (q31 Tryz.f283) (RT [(.int .i64),(.int .i64)]) (qb7 [(.int .i64)] (a,())) [] (q38 [(.int .i64),(.int .i64)])
theorem uw9 (N:Nat)(a:Int):kz0 N a=ya5 N a:=by kernel_rfl
def ua6 (m:Int→Option (Int×Int×Unit)):Ent:=q29 [(.int .i64)] [(.int .i64),(.int .i64)] fun (x:Els [(.int .i64)])=>m x.1
def xd8 (N:Nat):Ent:=ua6 (ya5 N)
theorem vq8 (N:Nat):q16 Tryz.prog 283 (xd8 N):=q10 (kg3 N) Tryz.func283 rfl (by kernel_rfl) fun (x:Els [(.int .i64)])=>uw9 N x.1
def q3r :FH:=⟨[],[],[],[],false,[],[]⟩
noncomputable def u59 (N:Nat):q46:=tab [(283,xd8 N)]
theorem kt9 (N:Nat):q13 Tryz.prog (u59 N):=q06 (vq8 N)<|q25 _
def we9 (N:Nat)(v:q00):Option OX3:=bif (v.1==2) then some (v,0,()) else (ya5 N v.2.1).bind fun r=>bif (r.2.1 != 0) then some ((0,0,[],()),r.2.1,()) else some ((2,r.1,[],()),0,())
noncomputable def q3q (N:Nat)(v:q00):Option (RT [q05,(.int .i64)]):=q20 DR Tryz.prog N (u59 N) q3r Tryz.f257 (q31 Tryz.f257) (RT [q05,(.int .i64)]) (qb7 [q05] (v,())) [] (q38 [q05,(.int .i64)])
theorem k73 (N:Nat)(v:q00):q3q N v=we9 N v:=by kernel_rfl
def ue5 (m:q00→Option OX3):Ent:=q29 [q05] [q05,(.int .i64)] fun (x:Els [q05])=>m x.1
def xk0 (N:Nat):Ent:=ue5 (we9 N)
theorem u60 (N:Nat):q16 Tryz.prog 257 (xk0 N):=q10 (kt9 N) Tryz.func257 rfl (by kernel_rfl) fun (x:Els [q05])=>k73 N x.1
def yt5 :LH:=⟨[(0,.lst q05),(2,.own q05 502 26 3),(3,.bool),(5,.int .u8),(10,.lst q05),(11,.int .i64),(12,.int .i64)],[],[]⟩
def yt6 :LH:=⟨[(2,.own q05 502 26 3),(5,.int .u8),(36,.lst q05),(37,.int .i64),(38,.int .i64)],[],[]⟩
def w88 :FH:=⟨[yt5,yt6],[],[],[],false,[],[]⟩
noncomputable def jp9 (N:Nat):q46:=tab [(211,wr1 N),(257,xk0 N)]
theorem ue2 (N:Nat):q13 Tryz.prog (jp9 N):=q06 (zl7 N)<|q06 (u60 N)<|q25 _
noncomputable def z02 :Sc:=w89 Tryz.prog w88
noncomputable def z01 (N:Nat):Cfg:=⟨N,jp9 N,0⟩
noncomputable def yg5 (N:Nat):Exit→KT OX7:=fin Tryz.prog 0 Tryz.f217.results.toList (q38 [(.list q05),.bool,(.int .i64)])
def we7 (l out:List q00)(t11:Int)(e:Bool×Int×Int):List TV:=match e with|(null,kind,t12)=>frm 61 [(0,.tl q05 l .unk),(2,.tl q05 out (.own 502 26 3)),(3,.bool null),(5,.int .u8 kind),(10,.tl q05 l .unk),(11,.int .i64 t11),(12,.int .i64 t12)]
def we8 (l out:List q00)(t11:Int)(e:Bool×Int×Int):List TOb:=match e with|(null,kind,t12)=>[]
def j38 (kind:Int)(l:List q00)(t37:Int)(e:List q00×Int):List TV:=match e with|(out1,t38)=>frm 61 [(2,.tl q05 out1 (.own 502 26 3)),(5,.int .u8 kind),(36,.tl q05 l .unk),(37,.int .i64 t37),(38,.int .i64 t38)]
def j40 (kind:Int)(l:List q00)(t37:Int)(e:List q00×Int):List TOb:=match e with|(out1,t38)=>[]
noncomputable def yt7 (N:Nat):(KT OX7)→KT OX7:=qy2 DR z02 (z01 N) (nv [5,4,1,0,1,1,1,1] Tryz.f217) yt6 (w88.loops.drop 2) (qd6 2 (qa6 DR z02 (z01 N) (nv [1,1,1,1,1] Tryz.f217) (w88.loops.drop 2) (yg5 N)))
def qr4 (N:Nat)(kind:Int)(l:List q00)(t37:Int)(K1:(List q00×Int)→Option OX7)(e:List q00×Int):Option OX7:=match e with|(out1,t38)=>bif decide (t38<t37) then bif inR t38 l.length then bif (kind==2) then (we9 N (q17 l t38 q26)).bind fun r1=>bif (r1.2.1 != 0) then some ([],false,r1.2.1,()) else bif qr1 (out1.length+([(kind,r1.1.2.1,[],())]:List q00).length) 4398046511104 then bif q24 (t38+1) then K1 ((out1++([(kind,r1.1.2.1,[],())]:List q00)),t38+1) else none else none else bif qr1 (out1.length+([(kind,(q17 l t38 q26).2.1,[],())]:List q00).length) 4398046511104 then bif q24 (t38+1) then K1 ((out1++([(kind,(q17 l t38 q26).2.1,[],())]:List q00)),t38+1) else none else none else none else some (out1,false,0,())
theorem ue4 (N:Nat)(kind:Int)(l:List q00)(t37:Int)(n_:Nat)(e:List q00×Int):q55 (yt7 N ) n_ ((j38 kind l t37) e) ((j40 kind l t37) e)=q80 (qr4 N kind l t37 ) n_ e :=
 q36 (j38 kind l t37) (j40 kind l t37) (by intro K e;obtain⟨out1,t38⟩:=e;kernel_rfl) n_ e
noncomputable def j39 (N:Nat):(KT OX7)→KT OX7:=qy2 DR z02 (z01 N) (nv [5,4,1,0,1,1] Tryz.f217) yt5 (w88.loops.drop 1) (qd6 0 (qa6 DR z02 (z01 N) (nv [1,1,1] Tryz.f217) (w88.loops.drop 1) (yg5 N)))
def q99 (N:Nat)(l out:List q00)(t11:Int)(l2:Int→(List q00)→Int→(List q00×Int)→Option OX7)(K0:(Bool×Int×Int)→Option OX7)(e:Bool×Int×Int):Option OX7:=match e with|(null,kind,t12)=>bif decide (t12<t11) then bif inR t12 l.length then (q73 N (q17 l t12 q26)).bind fun r=>bif (!r) then bif (((q17 l t12 q26).1) != 0) then some ([],false,8,()) else bif null then bif q24 (t12+1) then K0 (true,(jl7 kind ((q17 l t12 q26).1)),t12+1) else none else bif q24 (t12+1) then K0 ((((q17 l t12 q26).1)==0),(jl7 kind ((q17 l t12 q26).1)),t12+1) else none else bif null then bif q24 (t12+1) then K0 (true,(jl7 kind ((q17 l t12 q26).1)),t12+1) else none else bif q24 (t12+1) then K0 ((((q17 l t12 q26).1)==0),(jl7 kind ((q17 l t12 q26).1)),t12+1) else none else none else bif null then some ([],true,0,()) else l2 kind l (l.length:Int) (out,0)
def qa1 (N:Nat)(l out:List q00)(t11:Int)(K0:(Bool×Int×Int)→Option OX7)(e:Bool×Int×Int):Option OX7:=q99 N l out t11 (fun kind l t37 e=>q80 (qr4 N kind l t37) N e) K0 e
theorem ue3 (N:Nat)(l out:List q00)(t11:Int)(n_:Nat)(e:Bool×Int×Int):q55 (j39 N ) n_ ((we7 l out t11) e) ((we8 l out t11) e)=q80 (qa1 N l out t11 ) n_ e :=
 q36 (we7 l out t11) (we8 l out t11) (by
  intro K e
  have h:(j39 N ) K ((we7 l out t11) e) ((we8 l out t11) e)=q99 N l out t11 (fun kind l t37 e=>q55 (yt7 N ) N (j38 kind l t37 e) (j40 kind l t37 e)) (fun e=>K ((we7 l out t11) e) ((we8 l out t11) e)) e:=by obtain⟨null,kind,t12⟩:=e;kernel_rfl
  rw[h]
  simp only[qa1,ue4]<;>rfl) n_ e
def qq4 (N:Nat)(l:List q00)(l1:(List q00)→(List q00)→Int→(Bool×Int×Int)→Option OX7):Option OX7:=l1 l [] (l.length:Int) (false,1,0)
def q98 (N:Nat)(l:List q00):Option OX7:=qq4 N l (fun l out t11 e=>q80 (qa1 N l out t11) N e)
noncomputable def xj9 (N:Nat)(l:List q00):Option (RT [(.list q05),.bool,(.int .i64)]):=q20 DR Tryz.prog N (jp9 N) w88 Tryz.f217 (q31 Tryz.f217) (RT [(.list q05),.bool,(.int .i64)]) (qb7 [(.list q05)] (l,())) [] (q38 [(.list q05),.bool,(.int .i64)])
theorem u58 (N:Nat)(l:List q00):xj9 N l=q98 N l:=by
 have h:xj9 N l=qq4 N l (fun l out t11 e=>q55 (j39 N ) N (we7 l out t11 e) (we8 l out t11 e)):=by kernel_rfl
 rw[h]
 simp only[q98,ue3]<;>rfl
def ve7 (m:(List q00)→Option OX7):Ent:=q29 [(.list q05)] [(.list q05),.bool,(.int .i64)] fun (x:Els [(.list q05)])=>m x.1
def qv8 (N:Nat):Ent:=ve7 (q98 N)
theorem qv9 (N:Nat):q16 Tryz.prog 217 (qv8 N):=q10 (ue2 N) Tryz.func217 rfl (by kernel_rfl) fun (x:Els [(.list q05)])=>u58 N x.1
def num_Add_H :FH:=⟨[],[],[],[],true,[],[]⟩
noncomputable def kf1 (N:Nat):q46:=tab []
theorem q8t (N:Nat):q13 Tryz.prog (kf1 N):=q25 _
def ya4 (N:Nat)(a b:Int):Option (Int×Int×Unit):=bif ((decide (a<0))==(decide (b<0))) then bif (!((decide ((IntKind.i64.wrap (a+b))<0))==(decide (a<0)))) then some (0,9,()) else some ((IntKind.i64.wrap (a+b)),0,()) else some ((IntKind.i64.wrap (a+b)),0,())
noncomputable def num_Add_C (N:Nat)(a b:Int):Option (RT [(.int .i64),(.int .i64)]):=q20 DR Tryz.prog N (kf1 N) num_Add_H Tryz.f165 (q31 Tryz.f165) (RT [(.int .i64),(.int .i64)]) (qb7 [(.int .i64),(.int .i64)] (a,b,())) [] (q38 [(.int .i64),(.int .i64)])
theorem ky5 (N:Nat)(a b:Int):num_Add_C N a b=ya4 N a b:=by kernel_rfl
def kf2 (m:Int→Int→Option (Int×Int×Unit)):Ent:=q29 [(.int .i64),(.int .i64)] [(.int .i64),(.int .i64)] fun (x:Els [(.int .i64),(.int .i64)])=>m x.1 x.2.1
def vq1 (N:Nat):Ent:=kf2 (ya4 N)
theorem uw2 (N:Nat):q16 Tryz.prog 165 (vq1 N):=q10 (q8t N) Tryz.func165 rfl (by kernel_rfl) fun (x:Els [(.int .i64),(.int .i64)])=>ky5 N x.1 x.2.1
noncomputable def yt8 (N:Nat):q46:=tab []
theorem u61 (N:Nat):q13 Tryz.prog (yt8 N):=q25 _
noncomputable def qz4 (N:Nat):Ent:=zt4 Tryz.prog N (yt8 N) ⟨[],[],[],[],false,[],[]⟩ Tryz.f218 (q31 Tryz.f218)
theorem w17 (N:Nat):q16 Tryz.prog 218 (qz4 N):=qc4 (u61 N) Tryz.func218 rfl (by kernel_rfl)
def w2f :FH:=⟨[],[],[(8,⟨16,54,0,[],[]⟩)],[],false,[],[]⟩
noncomputable def up5 (N:Nat):q46:=tab [(217,qv8 N),(165,vq1 N),(218,qz4 N)]
theorem q3s (N:Nat):q13 Tryz.prog (up5 N):=q06 (qv9 N)<|q06 (uw2 N)<|q06 (w17 N)<|q25 _
def k74 (N:Nat)(a b:q00):Option OX3:=(q98 N ([a,b]:List q00)).bind fun r=>bif r.2.1 then some ((0,0,[],()),r.2.2.1,()) else bif (r.2.2.1 != 0) then some ((0,0,[],()),r.2.2.1,()) else bif inR 0 r.1.length then bif (((q17 r.1 0 q26).1)==2) then bif inR 0 r.1.length then bif inR 1 r.1.length then (ya4 N ((q17 r.1 0 q26).2.1) ((q17 r.1 1 q26).2.1)).bind fun r1=>bif (r1.2.1 != 0) then some ((0,0,[],()),r1.2.1,()) else bif inR 0 r.1.length then some (((q17 r.1 0 q26).1,r1.1,[],()),0,()) else none else none else none else bif inR 0 r.1.length then bif inR 1 r.1.length then (ya4 N ((q17 r.1 0 q26).2.1) ((q17 r.1 1 q26).2.1)).bind fun r2=>bif (r2.2.1 != 0) then some ((0,0,[],()),r2.2.1,()) else bif inR 0 r.1.length then some (((q17 r.1 0 q26).1,r2.1,[],()),0,()) else none else none else none else none
abbrev u62 :List PK:=[.val q05,.val q05,.fn 165 0,.fn 165 0]
noncomputable def w2e (N:Nat)(a b:q00):Option (RT [q05,(.int .i64)]):=q20 DR Tryz.prog N (up5 N) w2f Tryz.f164 (q31 Tryz.f164) (RT [q05,(.int .i64)]) (w01 u62 (a,b,())) [] (q38 [q05,(.int .i64)])
theorem ku1 (N:Nat)(a b:q00):w2e N a b=k74 N a b:=by kernel_rfl
def k75 (m:q00→q00→Option OX3):Ent:=qf5 u62 [q05,(.int .i64)] fun (x:Els [q05,q05])=>m x.1 x.2.1
def va2 (N:Nat):Ent:=k75 (k74 N)
theorem ue6 (N:Nat):q16 Tryz.prog 164 (va2 N):=q57 (q3s N) Tryz.func164 rfl (by kernel_rfl) (by kernel_rfl) fun (x:Els [q05,q05])=>ku1 N x.1 x.2.1
end Go.Proofs.YtgicljncknbgcaaGreat.Abs
