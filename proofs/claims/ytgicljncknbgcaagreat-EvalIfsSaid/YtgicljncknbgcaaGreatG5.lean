/- The functions of the program, told on typed values, printed by a program: each tells what the reckoning of its body tells. -/
import Derived.Test.YtgicljncknbgcaaGreatL7
import Derived.Test.YtgicljncknbgcaaGreatG4
import Derived.Test.YtgicljncknbgcaaGreatLA
import Derived.Test.YtgicljncknbgcaaGreatProg
set_option linter.unusedVariables false
set_option linter.unusedSimpArgs false
set_option linter.unusedSectionVars false
namespace Go.Proofs.YtgicljncknbgcaaGreat.Abs
set_option maxRecDepth 100000
open Go Go.Proofs
def za9 :LH:=⟨[(2,.asis),(3,.asis),(6,.asis),(7,.own q05 507 26 3),(10,.int .i64),(11,.int .i64)],[],[.cells [.lst q07,.lst .bool],.cells [.int .u8,.int .i64,.str,.int .i64]]⟩
def qu0 :FH:=⟨[za9],[],[],[],false,[],[]⟩
noncomputable def wc2 (N:Nat):q48:=tab [(153,q52 N),(158,wv6 N)]
theorem y87 (N:Nat):q13 Tryz.prog (wc2 N):=q06 (q49 N) <| q06 (je0 N) <| q27 _
noncomputable def z57 :Sc:=wl6 Tryz.prog qu0
noncomputable def z64 (N:Nat):Cfg:=⟨N,wc2 N,0⟩
noncomputable def jo6 (N:Nat):Exit→List TV→List TOb→Option q03:=fin Tryz.prog 0 Tryz.f99.results.toList (q40 [q07])
def w89 (n:Int)(k_l:List q03)(q09:List Bool)(q04 q20:Int)(q19:List UInt8)(q62:Int)(e:List q00×Int):List TV:=match e with
 | (l,t11)=>frm 30 [(2,.func (.func 158) [.ep [.func (.func 84) []] 0]),(3,.ref 0 0),(6,.ref 1 0),(7,.tl q05 l (.own 507 26 3)),(10,.int .i64 n),(11,.int .i64 t11)]
def w87 (n:Int)(k_l:List q03)(q09:List Bool)(q04 q20:Int)(q19:List UInt8)(q62:Int)(e:List q00×Int):List TOb:=match e with
 | (l,t11)=>[.cells [.tl q07 k_l .unk,.tl .bool q09 .unk] 118 true,.cells [.int .u8 q04,.int .i64 q20,.str q19,.int .i64 q62] 115 true]
noncomputable def zb6 (N:Nat):(List TV→List TOb→Option q03)→List TV→List TOb→Option q03:=w54 DR z57 (z64 N) (ql6 (qc4 (q08 (q87 (q08 (q08 (q10 Tryz.f99))))))) za9 (qu0.loops.drop 1) (qk0 0 (qc3 DR z57 (z64 N) (q08 (q08 (q08 (q10 Tryz.f99)))) (qu0.loops.drop 1) (jo6 N)))
def w58 (N:Nat)(n:Int)(k_l:List q03)(q09:List Bool)(q04 q20:Int)(q19:List UInt8)(q62:Int)(K0:(List q00×Int)→Option q03)(e:List q00×Int):Option q03 :=
 match e with
 | (l,t11) =>
  bif decide (t11 < n) then
   (q58 N (k_l,q09,()) t11).bind fun r =>
   bif (r.2.1 != 0) then
    some r
   else
    bif w23 (l.length + ([r.1]:List q00).length) 4398046511104 then
    bif q26 (t11 + 1) then
    K0 ((l ++ ([r.1]:List q00)),t11 + 1)
    else none
    else none
  else
   (qr0 N l).bind fun r1 =>
   some r1
theorem yb9 (N:Nat)(n:Int)(k_l:List q03)(q09:List Bool)(q04 q20:Int)(q19:List UInt8)(q62:Int)(n_:Nat)(e:List q00×Int):q57 (zb6 N ) n_ ((w89 n k_l q09 q04 q20 q19 q62) e) ((w87 n k_l q09 q04 q20 q19 q62) e)=q86 (w58 N n k_l q09 q04 q20 q19 q62 ) n_ e :=
 q39 (w89 n k_l q09 q04 q20 q19 q62) (w87 n k_l q09 q04 q20 q19 q62) (by intro K e; obtain ⟨l,t11⟩:=e; kernel_rfl) n_ e
def zm8 (N:Nat)(k:q34)(n:Int)(l1:Int→(List q03)→(List Bool)→Int→Int→(List UInt8)→Int→(List q00×Int)→Option q03):Option q03 :=
 l1 n k.1 k.2.1 0 0 [] 0 ([],0)
def qr6 (N:Nat)(k:q34)(n:Int):Option q03:=zm8 N k n (fun n k_l q09 q04 q20 q19 q62 e=>q86 (w58 N n k_l q09 q04 q20 q19 q62) N e)
abbrev z78 :List PK:=[.val q65,.val (.int .i64),.fn 158 1,.ep 1,.fn 84 0]
noncomputable def zk4 (N:Nat)(k:q34)(n:Int):Option (RT [q07]):=q22 DR Tryz.prog N (wc2 N) qu0 Tryz.f99 (q10 Tryz.f99) (RT [q07]) (qx9 z78 (k,n,())) [] (q40 [q07])
theorem jw3 (N:Nat)(k:q34)(n:Int):zk4 N k n=qr6 N k n:=by
 have h:zk4 N k n=zm8 N k n (fun n k_l q09 q04 q20 q19 q62 e=>q57 (zb6 N ) N (w89 n k_l q09 q04 q20 q19 q62 e) (w87 n k_l q09 q04 q20 q19 q62 e)):=by kernel_rfl
 rw [h]
 simp only [qr6,yb9] <;> rfl
def jl4 (m:q34→Int→Option q03):Ent:=qf1 z78 [q07] fun (x:Els [q65,(.int .i64)])=>m x.1 x.2.1
def wu0 (N:Nat):Ent:=jl4 (qr6 N)
theorem jf1 (N:Nat):q16 Tryz.prog 99 (wu0 N):=q51 (y87 N) Tryz.func99 rfl (by kernel_rfl) (by kernel_rfl) fun (x:Els [q65,(.int .i64)])=>jw3 N x.1 x.2.1
def v35 :FH:=⟨[],[],[],[],false,[],[]⟩
noncomputable def jz9 (N:Nat):q48:=tab []
theorem xx2 (N:Nat):q13 Tryz.prog (jz9 N):=q27 _
def wk8 (N:Nat)(c:Int):Option Bool :=
 some (decide (c≤0))
noncomputable def vi1 (N:Nat)(c:Int):Option (RT [.bool]):=q22 DR Tryz.prog N (jz9 N) v35 Tryz.f85 (q10 Tryz.f85) (RT [.bool]) (qd2 [(.int .i64)] (c,())) [] (q40 [.bool])
theorem x75 (N:Nat)(c:Int):vi1 N c=wk8 N c:=by kernel_rfl
def x40 (m:Int→Option Bool):Ent:=q35 [(.int .i64)] [.bool] fun (x:Els [(.int .i64)])=>m x.1
def j41 (N:Nat):Ent:=x40 (wk8 N)
theorem yo6 (N:Nat):q16 Tryz.prog 85 (j41 N):=q15 (xx2 N) Tryz.func85 rfl (by kernel_rfl) fun (x:Els [(.int .i64)])=>x75 N x.1
def jl6 :FH:=⟨[],[],[(5,⟨11,35,0,[],[]⟩)],[],false,[],[]⟩
noncomputable def wm9 (N:Nat):q48:=tab [(159,qe3 N),(76,q91 N),(157,qb2 N),(155,qj8 N),(85,j41 N),(90,qc8 N)]
theorem je8 (N:Nat):q13 Tryz.prog (wm9 N):=q06 (qc6 N) <| q06 (q80 N) <| q06 (qa5 N) <| q06 (qk8 N) <| q06 (yo6 N) <| q06 (qb9 N) <| q27 _
def qi0 (N:Nat)(l:List q00):Option q03 :=
 (qa8 N 1 2 l).bind fun r =>
 bif (!r) then
  (qa8 N 3 3 l).bind fun r1 =>
  bif (!r1) then
   (qd7 N 8).bind fun r2 =>
   some r2
  else
   (q83 N l).bind fun r3 =>
   bif r3 then
    some ((0,0,[],()),0,())
   else
    bif inR 0 l.length then
    bif inR 1 l.length then
    (q92 N (q24 l 0 q29) (q24 l 1 q29)).bind fun r4 =>
    (wk8 N r4.1).bind fun r5 =>
    (q94 N r5).bind fun r6 =>
    some (r6,0,())
    else none
    else none
 else
  (q83 N l).bind fun r7 =>
  bif r7 then
   some ((0,0,[],()),0,())
  else
   bif inR 0 l.length then
   bif inR 1 l.length then
   (q92 N (q24 l 0 q29) (q24 l 1 q29)).bind fun r8 =>
   (wk8 N r8.1).bind fun r9 =>
   (q94 N r9).bind fun r10 =>
   some (r10,0,())
   else none
   else none
abbrev wh8 :List PK:=[.val (.list q05),.ep 1,.fn 85 0]
noncomputable def jj2 (N:Nat)(l:List q00):Option (RT [q07]):=q22 DR Tryz.prog N (wm9 N) jl6 Tryz.f158 (q10 Tryz.f158) (RT [q07]) (qx9 wh8 (l,())) [] (q40 [q07])
theorem zz4 (N:Nat)(l:List q00):jj2 N l=qi0 N l:=by kernel_rfl
def zu6 (m:(List q00)→Option q03):Ent:=qf1 wh8 [q07] fun (x:Els [(.list q05)])=>m x.1
def wf6 (N:Nat):Ent:=zu6 (qi0 N)
theorem zo7 (N:Nat):q16 Tryz.prog 158 (wf6 N):=q51 (je8 N) Tryz.func158 rfl (by kernel_rfl) (by kernel_rfl) fun (x:Els [(.list q05)])=>zz4 N x.1
def z83 :LH:=⟨[(2,.asis),(3,.asis),(6,.asis),(7,.own q05 507 26 3),(10,.int .i64),(11,.int .i64)],[],[.cells [.lst q07,.lst .bool],.cells [.int .u8,.int .i64,.str,.int .i64]]⟩
def qu8 :FH:=⟨[z83],[],[],[],false,[],[]⟩
noncomputable def wd4 (N:Nat):q48:=tab [(153,q52 N),(158,wf6 N)]
theorem yc9 (N:Nat):q13 Tryz.prog (wd4 N):=q06 (q49 N) <| q06 (zo7 N) <| q27 _
noncomputable def z50 :Sc:=wl6 Tryz.prog qu8
noncomputable def z71 (N:Nat):Cfg:=⟨N,wd4 N,0⟩
noncomputable def y23 (N:Nat):Exit→List TV→List TOb→Option q03:=fin Tryz.prog 0 Tryz.f99.results.toList (q40 [q07])
def w82 (n:Int)(k_l:List q03)(q09:List Bool)(q04 q20:Int)(q19:List UInt8)(q62:Int)(e:List q00×Int):List TV:=match e with
 | (l,t11)=>frm 30 [(2,.func (.func 158) [.ep [.func (.func 85) []] 0]),(3,.ref 0 0),(6,.ref 1 0),(7,.tl q05 l (.own 507 26 3)),(10,.int .i64 n),(11,.int .i64 t11)]
def w93 (n:Int)(k_l:List q03)(q09:List Bool)(q04 q20:Int)(q19:List UInt8)(q62:Int)(e:List q00×Int):List TOb:=match e with
 | (l,t11)=>[.cells [.tl q07 k_l .unk,.tl .bool q09 .unk] 118 true,.cells [.int .u8 q04,.int .i64 q20,.str q19,.int .i64 q62] 115 true]
noncomputable def z87 (N:Nat):(List TV→List TOb→Option q03)→List TV→List TOb→Option q03:=w54 DR z50 (z71 N) (ql6 (qc4 (q08 (q87 (q08 (q08 (q10 Tryz.f99))))))) z83 (qu8.loops.drop 1) (qk0 0 (qc3 DR z50 (z71 N) (q08 (q08 (q08 (q10 Tryz.f99)))) (qu8.loops.drop 1) (y23 N)))
def w53 (N:Nat)(n:Int)(k_l:List q03)(q09:List Bool)(q04 q20:Int)(q19:List UInt8)(q62:Int)(K0:(List q00×Int)→Option q03)(e:List q00×Int):Option q03 :=
 match e with
 | (l,t11) =>
  bif decide (t11 < n) then
   (q58 N (k_l,q09,()) t11).bind fun r =>
   bif (r.2.1 != 0) then
    some r
   else
    bif w23 (l.length + ([r.1]:List q00).length) 4398046511104 then
    bif q26 (t11 + 1) then
    K0 ((l ++ ([r.1]:List q00)),t11 + 1)
    else none
    else none
  else
   (qi0 N l).bind fun r1 =>
   some r1
theorem y84 (N:Nat)(n:Int)(k_l:List q03)(q09:List Bool)(q04 q20:Int)(q19:List UInt8)(q62:Int)(n_:Nat)(e:List q00×Int):q57 (z87 N ) n_ ((w82 n k_l q09 q04 q20 q19 q62) e) ((w93 n k_l q09 q04 q20 q19 q62) e)=q86 (w53 N n k_l q09 q04 q20 q19 q62 ) n_ e :=
 q39 (w82 n k_l q09 q04 q20 q19 q62) (w93 n k_l q09 q04 q20 q19 q62) (by intro K e; obtain ⟨l,t11⟩:=e; kernel_rfl) n_ e
def zi7 (N:Nat)(k:q34)(n:Int)(l1:Int→(List q03)→(List Bool)→Int→Int→(List UInt8)→Int→(List q00×Int)→Option q03):Option q03 :=
 l1 n k.1 k.2.1 0 0 [] 0 ([],0)
def qr5 (N:Nat)(k:q34)(n:Int):Option q03:=zi7 N k n (fun n k_l q09 q04 q20 q19 q62 e=>q86 (w53 N n k_l q09 q04 q20 q19 q62) N e)
abbrev ze0 :List PK:=[.val q65,.val (.int .i64),.fn 158 1,.ep 1,.fn 85 0]
noncomputable def zm3 (N:Nat)(k:q34)(n:Int):Option (RT [q07]):=q22 DR Tryz.prog N (wd4 N) qu8 Tryz.f99 (q10 Tryz.f99) (RT [q07]) (qx9 ze0 (k,n,())) [] (q40 [q07])
theorem y00 (N:Nat)(k:q34)(n:Int):zm3 N k n=qr5 N k n:=by
 have h:zm3 N k n=zi7 N k n (fun n k_l q09 q04 q20 q19 q62 e=>q57 (z87 N ) N (w82 n k_l q09 q04 q20 q19 q62 e) (w93 n k_l q09 q04 q20 q19 q62 e)):=by kernel_rfl
 rw [h]
 simp only [qr5,y84] <;> rfl
def jn5 (m:q34→Int→Option q03):Ent:=qf1 ze0 [q07] fun (x:Els [q65,(.int .i64)])=>m x.1 x.2.1
def z24 (N:Nat):Ent:=jn5 (qr5 N)
theorem jb0 (N:Nat):q16 Tryz.prog 99 (z24 N):=q51 (yc9 N) Tryz.func99 rfl (by kernel_rfl) (by kernel_rfl) fun (x:Els [q65,(.int .i64)])=>y00 N x.1 x.2.1
def vl4 :FH:=⟨[],[],[],[],false,[],[]⟩
noncomputable def ju6 (N:Nat):q48:=tab []
theorem xw4 (N:Nat):q13 Tryz.prog (ju6 N):=q27 _
def wi7 (N:Nat)(c:Int):Option Bool :=
 some (decide (c > 0))
noncomputable def v55 (N:Nat)(c:Int):Option (RT [.bool]):=q22 DR Tryz.prog N (ju6 N) vl4 Tryz.f86 (q10 Tryz.f86) (RT [.bool]) (qd2 [(.int .i64)] (c,())) [] (q40 [.bool])
theorem xg8 (N:Nat)(c:Int):v55 N c=wi7 N c:=by kernel_rfl
def x49 (m:Int→Option Bool):Ent:=q35 [(.int .i64)] [.bool] fun (x:Els [(.int .i64)])=>m x.1
def zz1 (N:Nat):Ent:=x49 (wi7 N)
theorem yq5 (N:Nat):q16 Tryz.prog 86 (zz1 N):=q15 (xw4 N) Tryz.func86 rfl (by kernel_rfl) fun (x:Els [(.int .i64)])=>xg8 N x.1
def jk9 :FH:=⟨[],[],[(5,⟨11,35,0,[],[]⟩)],[],false,[],[]⟩
noncomputable def wm5 (N:Nat):q48:=tab [(159,qe3 N),(76,q91 N),(157,qb2 N),(155,qj8 N),(86,zz1 N),(90,qc8 N)]
theorem jb7 (N:Nat):q13 Tryz.prog (wm5 N):=q06 (qc6 N) <| q06 (q80 N) <| q06 (qa5 N) <| q06 (qk8 N) <| q06 (yq5 N) <| q06 (qb9 N) <| q27 _
def qh9 (N:Nat)(l:List q00):Option q03 :=
 (qa8 N 1 2 l).bind fun r =>
 bif (!r) then
  (qa8 N 3 3 l).bind fun r1 =>
  bif (!r1) then
   (qd7 N 8).bind fun r2 =>
   some r2
  else
   (q83 N l).bind fun r3 =>
   bif r3 then
    some ((0,0,[],()),0,())
   else
    bif inR 0 l.length then
    bif inR 1 l.length then
    (q92 N (q24 l 0 q29) (q24 l 1 q29)).bind fun r4 =>
    (wi7 N r4.1).bind fun r5 =>
    (q94 N r5).bind fun r6 =>
    some (r6,0,())
    else none
    else none
 else
  (q83 N l).bind fun r7 =>
  bif r7 then
   some ((0,0,[],()),0,())
  else
   bif inR 0 l.length then
   bif inR 1 l.length then
   (q92 N (q24 l 0 q29) (q24 l 1 q29)).bind fun r8 =>
   (wi7 N r8.1).bind fun r9 =>
   (q94 N r9).bind fun r10 =>
   some (r10,0,())
   else none
   else none
abbrev wl2 :List PK:=[.val (.list q05),.ep 1,.fn 86 0]
noncomputable def jk2 (N:Nat)(l:List q00):Option (RT [q07]):=q22 DR Tryz.prog N (wm5 N) jk9 Tryz.f158 (q10 Tryz.f158) (RT [q07]) (qx9 wl2 (l,())) [] (q40 [q07])
theorem j11 (N:Nat)(l:List q00):jk2 N l=qh9 N l:=by kernel_rfl
def zu8 (m:(List q00)→Option q03):Ent:=qf1 wl2 [q07] fun (x:Els [(.list q05)])=>m x.1
def wf3 (N:Nat):Ent:=zu8 (qh9 N)
theorem zo2 (N:Nat):q16 Tryz.prog 158 (wf3 N):=q51 (jb7 N) Tryz.func158 rfl (by kernel_rfl) (by kernel_rfl) fun (x:Els [(.list q05)])=>j11 N x.1
def za3 :LH:=⟨[(2,.asis),(3,.asis),(6,.asis),(7,.own q05 507 26 3),(10,.int .i64),(11,.int .i64)],[],[.cells [.lst q07,.lst .bool],.cells [.int .u8,.int .i64,.str,.int .i64]]⟩
def qu6 :FH:=⟨[za3],[],[],[],false,[],[]⟩
noncomputable def we7 (N:Nat):q48:=tab [(153,q52 N),(158,wf3 N)]
theorem yb0 (N:Nat):q13 Tryz.prog (we7 N):=q06 (q49 N) <| q06 (zo2 N) <| q27 _
noncomputable def zd7 :Sc:=wl6 Tryz.prog qu6
noncomputable def za7 (N:Nat):Cfg:=⟨N,we7 N,0⟩
noncomputable def y24 (N:Nat):Exit→List TV→List TOb→Option q03:=fin Tryz.prog 0 Tryz.f99.results.toList (q40 [q07])
def w95 (n:Int)(k_l:List q03)(q09:List Bool)(q04 q20:Int)(q19:List UInt8)(q62:Int)(e:List q00×Int):List TV:=match e with
 | (l,t11)=>frm 30 [(2,.func (.func 158) [.ep [.func (.func 86) []] 0]),(3,.ref 0 0),(6,.ref 1 0),(7,.tl q05 l (.own 507 26 3)),(10,.int .i64 n),(11,.int .i64 t11)]
def w69 (n:Int)(k_l:List q03)(q09:List Bool)(q04 q20:Int)(q19:List UInt8)(q62:Int)(e:List q00×Int):List TOb:=match e with
 | (l,t11)=>[.cells [.tl q07 k_l .unk,.tl .bool q09 .unk] 118 true,.cells [.int .u8 q04,.int .i64 q20,.str q19,.int .i64 q62] 115 true]
noncomputable def z88 (N:Nat):(List TV→List TOb→Option q03)→List TV→List TOb→Option q03:=w54 DR zd7 (za7 N) (ql6 (qc4 (q08 (q87 (q08 (q08 (q10 Tryz.f99))))))) za3 (qu6.loops.drop 1) (qk0 0 (qc3 DR zd7 (za7 N) (q08 (q08 (q08 (q10 Tryz.f99)))) (qu6.loops.drop 1) (y24 N)))
def w68 (N:Nat)(n:Int)(k_l:List q03)(q09:List Bool)(q04 q20:Int)(q19:List UInt8)(q62:Int)(K0:(List q00×Int)→Option q03)(e:List q00×Int):Option q03 :=
 match e with
 | (l,t11) =>
  bif decide (t11 < n) then
   (q58 N (k_l,q09,()) t11).bind fun r =>
   bif (r.2.1 != 0) then
    some r
   else
    bif w23 (l.length + ([r.1]:List q00).length) 4398046511104 then
    bif q26 (t11 + 1) then
    K0 ((l ++ ([r.1]:List q00)),t11 + 1)
    else none
    else none
  else
   (qh9 N l).bind fun r1 =>
   some r1
theorem ye1 (N:Nat)(n:Int)(k_l:List q03)(q09:List Bool)(q04 q20:Int)(q19:List UInt8)(q62:Int)(n_:Nat)(e:List q00×Int):q57 (z88 N ) n_ ((w95 n k_l q09 q04 q20 q19 q62) e) ((w69 n k_l q09 q04 q20 q19 q62) e)=q86 (w68 N n k_l q09 q04 q20 q19 q62 ) n_ e :=
 q39 (w95 n k_l q09 q04 q20 q19 q62) (w69 n k_l q09 q04 q20 q19 q62) (by intro K e; obtain ⟨l,t11⟩:=e; kernel_rfl) n_ e
def zh8 (N:Nat)(k:q34)(n:Int)(l1:Int→(List q03)→(List Bool)→Int→Int→(List UInt8)→Int→(List q00×Int)→Option q03):Option q03 :=
 l1 n k.1 k.2.1 0 0 [] 0 ([],0)
def qr8 (N:Nat)(k:q34)(n:Int):Option q03:=zh8 N k n (fun n k_l q09 q04 q20 q19 q62 e=>q86 (w68 N n k_l q09 q04 q20 q19 q62) N e)
abbrev z68 :List PK:=[.val q65,.val (.int .i64),.fn 158 1,.ep 1,.fn 86 0]
noncomputable def zn0 (N:Nat)(k:q34)(n:Int):Option (RT [q07]):=q22 DR Tryz.prog N (we7 N) qu6 Tryz.f99 (q10 Tryz.f99) (RT [q07]) (qx9 z68 (k,n,())) [] (q40 [q07])
theorem y26 (N:Nat)(k:q34)(n:Int):zn0 N k n=qr8 N k n:=by
 have h:zn0 N k n=zh8 N k n (fun n k_l q09 q04 q20 q19 q62 e=>q57 (z88 N ) N (w95 n k_l q09 q04 q20 q19 q62 e) (w69 n k_l q09 q04 q20 q19 q62 e)):=by kernel_rfl
 rw [h]
 simp only [qr8,ye1] <;> rfl
def jl2 (m:q34→Int→Option q03):Ent:=qf1 z68 [q07] fun (x:Els [q65,(.int .i64)])=>m x.1 x.2.1
def wz5 (N:Nat):Ent:=jl2 (qr8 N)
theorem ja8 (N:Nat):q16 Tryz.prog 99 (wz5 N):=q51 (yb0 N) Tryz.func99 rfl (by kernel_rfl) (by kernel_rfl) fun (x:Els [q65,(.int .i64)])=>y26 N x.1 x.2.1
def v49 :FH:=⟨[],[],[],[],false,[],[]⟩
noncomputable def js2 (N:Nat):q48:=tab []
theorem xt4 (N:Nat):q13 Tryz.prog (js2 N):=q27 _
def wk5 (N:Nat)(c:Int):Option Bool :=
 some (decide (c ≥ 0))
noncomputable def v83 (N:Nat)(c:Int):Option (RT [.bool]):=q22 DR Tryz.prog N (js2 N) v49 Tryz.f87 (q10 Tryz.f87) (RT [.bool]) (qd2 [(.int .i64)] (c,())) [] (q40 [.bool])
theorem xc8 (N:Nat)(c:Int):v83 N c=wk5 N c:=by kernel_rfl
def x11 (m:Int→Option Bool):Ent:=q35 [(.int .i64)] [.bool] fun (x:Els [(.int .i64)])=>m x.1
def j25 (N:Nat):Ent:=x11 (wk5 N)
theorem yj5 (N:Nat):q16 Tryz.prog 87 (j25 N):=q15 (xt4 N) Tryz.func87 rfl (by kernel_rfl) fun (x:Els [(.int .i64)])=>xc8 N x.1
def jn9 :FH:=⟨[],[],[(5,⟨11,35,0,[],[]⟩)],[],false,[],[]⟩
noncomputable def wm0 (N:Nat):q48:=tab [(159,qe3 N),(76,q91 N),(157,qb2 N),(155,qj8 N),(87,j25 N),(90,qc8 N)]
theorem j76 (N:Nat):q13 Tryz.prog (wm0 N):=q06 (qc6 N) <| q06 (q80 N) <| q06 (qa5 N) <| q06 (qk8 N) <| q06 (yj5 N) <| q06 (qb9 N) <| q27 _
def qi4 (N:Nat)(l:List q00):Option q03 :=
 (qa8 N 1 2 l).bind fun r =>
 bif (!r) then
  (qa8 N 3 3 l).bind fun r1 =>
  bif (!r1) then
   (qd7 N 8).bind fun r2 =>
   some r2
  else
   (q83 N l).bind fun r3 =>
   bif r3 then
    some ((0,0,[],()),0,())
   else
    bif inR 0 l.length then
    bif inR 1 l.length then
    (q92 N (q24 l 0 q29) (q24 l 1 q29)).bind fun r4 =>
    (wk5 N r4.1).bind fun r5 =>
    (q94 N r5).bind fun r6 =>
    some (r6,0,())
    else none
    else none
 else
  (q83 N l).bind fun r7 =>
  bif r7 then
   some ((0,0,[],()),0,())
  else
   bif inR 0 l.length then
   bif inR 1 l.length then
   (q92 N (q24 l 0 q29) (q24 l 1 q29)).bind fun r8 =>
   (wk5 N r8.1).bind fun r9 =>
   (q94 N r9).bind fun r10 =>
   some (r10,0,())
   else none
   else none
abbrev wg6 :List PK:=[.val (.list q05),.ep 1,.fn 87 0]
noncomputable def jm1 (N:Nat)(l:List q00):Option (RT [q07]):=q22 DR Tryz.prog N (wm0 N) jn9 Tryz.f158 (q10 Tryz.f158) (RT [q07]) (qx9 wg6 (l,())) [] (q40 [q07])
theorem zw2 (N:Nat)(l:List q00):jm1 N l=qi4 N l:=by kernel_rfl
def zu0 (m:(List q00)→Option q03):Ent:=qf1 wg6 [q07] fun (x:Els [(.list q05)])=>m x.1
def wf8 (N:Nat):Ent:=zu0 (qi4 N)
theorem zo3 (N:Nat):q16 Tryz.prog 158 (wf8 N):=q51 (j76 N) Tryz.func158 rfl (by kernel_rfl) (by kernel_rfl) fun (x:Els [(.list q05)])=>zw2 N x.1
def z90 :LH:=⟨[(2,.asis),(3,.asis),(6,.asis),(7,.own q05 507 26 3),(10,.int .i64),(11,.int .i64)],[],[.cells [.lst q07,.lst .bool],.cells [.int .u8,.int .i64,.str,.int .i64]]⟩
def qu7 :FH:=⟨[z90],[],[],[],false,[],[]⟩
noncomputable def wd7 (N:Nat):q48:=tab [(153,q52 N),(158,wf8 N)]
theorem yd8 (N:Nat):q13 Tryz.prog (wd7 N):=q06 (q49 N) <| q06 (zo3 N) <| q27 _
noncomputable def zc6 :Sc:=wl6 Tryz.prog qu7
noncomputable def z52 (N:Nat):Cfg:=⟨N,wd7 N,0⟩
noncomputable def jt9 (N:Nat):Exit→List TV→List TOb→Option q03:=fin Tryz.prog 0 Tryz.f99.results.toList (q40 [q07])
def w84 (n:Int)(k_l:List q03)(q09:List Bool)(q04 q20:Int)(q19:List UInt8)(q62:Int)(e:List q00×Int):List TV:=match e with
 | (l,t11)=>frm 30 [(2,.func (.func 158) [.ep [.func (.func 87) []] 0]),(3,.ref 0 0),(6,.ref 1 0),(7,.tl q05 l (.own 507 26 3)),(10,.int .i64 n),(11,.int .i64 t11)]
def w63 (n:Int)(k_l:List q03)(q09:List Bool)(q04 q20:Int)(q19:List UInt8)(q62:Int)(e:List q00×Int):List TOb:=match e with
 | (l,t11)=>[.cells [.tl q07 k_l .unk,.tl .bool q09 .unk] 118 true,.cells [.int .u8 q04,.int .i64 q20,.str q19,.int .i64 q62] 115 true]
noncomputable def z93 (N:Nat):(List TV→List TOb→Option q03)→List TV→List TOb→Option q03:=w54 DR zc6 (z52 N) (ql6 (qc4 (q08 (q87 (q08 (q08 (q10 Tryz.f99))))))) z90 (qu7.loops.drop 1) (qk0 0 (qc3 DR zc6 (z52 N) (q08 (q08 (q08 (q10 Tryz.f99)))) (qu7.loops.drop 1) (jt9 N)))
def w81 (N:Nat)(n:Int)(k_l:List q03)(q09:List Bool)(q04 q20:Int)(q19:List UInt8)(q62:Int)(K0:(List q00×Int)→Option q03)(e:List q00×Int):Option q03 :=
 match e with
 | (l,t11) =>
  bif decide (t11 < n) then
   (q58 N (k_l,q09,()) t11).bind fun r =>
   bif (r.2.1 != 0) then
    some r
   else
    bif w23 (l.length + ([r.1]:List q00).length) 4398046511104 then
    bif q26 (t11 + 1) then
    K0 ((l ++ ([r.1]:List q00)),t11 + 1)
    else none
    else none
  else
   (qi4 N l).bind fun r1 =>
   some r1
theorem y85 (N:Nat)(n:Int)(k_l:List q03)(q09:List Bool)(q04 q20:Int)(q19:List UInt8)(q62:Int)(n_:Nat)(e:List q00×Int):q57 (z93 N ) n_ ((w84 n k_l q09 q04 q20 q19 q62) e) ((w63 n k_l q09 q04 q20 q19 q62) e)=q86 (w81 N n k_l q09 q04 q20 q19 q62 ) n_ e :=
 q39 (w84 n k_l q09 q04 q20 q19 q62) (w63 n k_l q09 q04 q20 q19 q62) (by intro K e; obtain ⟨l,t11⟩:=e; kernel_rfl) n_ e
def zm5 (N:Nat)(k:q34)(n:Int)(l1:Int→(List q03)→(List Bool)→Int→Int→(List UInt8)→Int→(List q00×Int)→Option q03):Option q03 :=
 l1 n k.1 k.2.1 0 0 [] 0 ([],0)
def qs8 (N:Nat)(k:q34)(n:Int):Option q03:=zm5 N k n (fun n k_l q09 q04 q20 q19 q62 e=>q86 (w81 N n k_l q09 q04 q20 q19 q62) N e)
abbrev z60 :List PK:=[.val q65,.val (.int .i64),.fn 158 1,.ep 1,.fn 87 0]
noncomputable def zk2 (N:Nat)(k:q34)(n:Int):Option (RT [q07]):=q22 DR Tryz.prog N (wd7 N) qu7 Tryz.f99 (q10 Tryz.f99) (RT [q07]) (qx9 z60 (k,n,())) [] (q40 [q07])
theorem jx9 (N:Nat)(k:q34)(n:Int):zk2 N k n=qs8 N k n:=by
 have h:zk2 N k n=zm5 N k n (fun n k_l q09 q04 q20 q19 q62 e=>q57 (z93 N ) N (w84 n k_l q09 q04 q20 q19 q62 e) (w63 n k_l q09 q04 q20 q19 q62 e)):=by kernel_rfl
 rw [h]
 simp only [qs8,y85] <;> rfl
def jm9 (m:q34→Int→Option q03):Ent:=qf1 z60 [q07] fun (x:Els [q65,(.int .i64)])=>m x.1 x.2.1
def wt9 (N:Nat):Ent:=jm9 (qs8 N)
theorem jb4 (N:Nat):q16 Tryz.prog 99 (wt9 N):=q51 (yd8 N) Tryz.func99 rfl (by kernel_rfl) (by kernel_rfl) fun (x:Els [q65,(.int .i64)])=>jx9 N x.1 x.2.1
def vj9 :FH:=⟨[],[],[(1,⟨8,14,0,[],[]⟩)],[],false,[],[]⟩
noncomputable def jy9 (N:Nat):q48:=tab [(91,z55 N),(90,qc8 N)]
theorem xs8 (N:Nat):q13 Tryz.prog (jy9 N):=q06 (jl7 N) <| q06 (qb9 N) <| q27 _
def ze6 (N:Nat)(l:List q00):Option q03 :=
 bif inR 0 l.length then
 bif inR 1 l.length then
 (wb3 N ((q24 l 0 q29).2.2.1) ((q24 l 1 q29).2.2.1)).bind fun r =>
 (q94 N r).bind fun r1 =>
 some (r1,0,())
 else none
 else none
noncomputable def vd6 (N:Nat)(l:List q00):Option (RT [q07]):=q22 DR Tryz.prog N (jy9 N) vj9 Tryz.f89 (q10 Tryz.f89) (RT [q07]) (qd2 [(.list q05)] (l,())) [] (q40 [q07])
theorem xe1 (N:Nat)(l:List q00):vd6 N l=ze6 N l:=by kernel_rfl
def yw8 (m:(List q00)→Option q03):Ent:=q35 [(.list q05)] [q07] fun (x:Els [(.list q05)])=>m x.1
def j04 (N:Nat):Ent:=yw8 (ze6 N)
theorem yk7 (N:Nat):q16 Tryz.prog 89 (j04 N):=q15 (xs8 N) Tryz.func89 rfl (by kernel_rfl) fun (x:Els [(.list q05)])=>xe1 N x.1
def yx2 :FH:=⟨[],[],[],[],false,[],[]⟩
noncomputable def zr0 (N:Nat):q48:=tab [(159,qe3 N),(76,q91 N),(157,qb2 N),(89,j04 N)]
theorem yp3 (N:Nat):q13 Tryz.prog (zr0 N):=q06 (qc6 N) <| q06 (q80 N) <| q06 (qa5 N) <| q06 (yk7 N) <| q27 _
def qm1 (N:Nat)(l:List q00)(t1:Int):Option q03 :=
 (qa8 N t1 t1 l).bind fun r =>
 bif (!r) then
  (qd7 N 8).bind fun r1 =>
  some r1
 else
  (q83 N l).bind fun r2 =>
  bif r2 then
   some ((0,0,[],()),0,())
  else
   (ze6 N l).bind fun r3 =>
   some r3
abbrev zn2 :List PK:=[.val (.list q05),.ep 1,.val (.int .u8),.ep 1,.fn 89 0]
noncomputable def yv9 (N:Nat)(l:List q00)(t1:Int):Option (RT [q07]):=q22 DR Tryz.prog N (zr0 N) yx2 Tryz.f160 (q10 Tryz.f160) (RT [q07]) (qx9 zn2 (l,t1,())) [] (q40 [q07])
theorem ya4 (N:Nat)(l:List q00)(t1:Int):yv9 N l t1=qm1 N l t1:=by kernel_rfl
def y30 (m:(List q00)→Int→Option q03):Ent:=qf1 zn2 [q07] fun (x:Els [(.list q05),(.int .u8)])=>m x.1 x.2.1
def za1 (N:Nat):Ent:=y30 (qm1 N)
theorem jm6 (N:Nat):q16 Tryz.prog 160 (za1 N):=q51 (yp3 N) Tryz.func160 rfl (by kernel_rfl) (by kernel_rfl) fun (x:Els [(.list q05),(.int .u8)])=>ya4 N x.1 x.2.1
def zd9 :LH:=⟨[(2,.asis),(3,.asis),(6,.asis),(7,.own q05 507 26 3),(10,.int .i64),(11,.int .i64)],[],[.cells [.lst q07,.lst .bool],.cells [.int .u8,.int .i64,.str,.int .i64]]⟩
def qv3 :FH:=⟨[zd9],[],[],[],false,[],[]⟩
noncomputable def wc8 (N:Nat):q48:=tab [(153,q52 N),(160,za1 N)]
theorem y94 (N:Nat):q13 Tryz.prog (wc8 N):=q06 (q49 N) <| q06 (jm6 N) <| q27 _
noncomputable def z73 :Sc:=wl6 Tryz.prog qv3
noncomputable def z66 (N:Nat):Cfg:=⟨N,wc8 N,0⟩
noncomputable def y57 (N:Nat):Exit→List TV→List TOb→Option q03:=fin Tryz.prog 0 Tryz.f99.results.toList (q40 [q07])
def w86 (n:Int)(k_l:List q03)(q09:List Bool)(q04 q20:Int)(q19:List UInt8)(q62 t1:Int)(e:List q00×Int):List TV:=match e with
 | (l,t11)=>frm 30 [(2,.func (.func 160) [.ep [.int .u8 t1] 0,.ep [.func (.func 89) []] 0]),(3,.ref 0 0),(6,.ref 1 0),(7,.tl q05 l (.own 507 26 3)),(10,.int .i64 n),(11,.int .i64 t11)]
def w61 (n:Int)(k_l:List q03)(q09:List Bool)(q04 q20:Int)(q19:List UInt8)(q62 t1:Int)(e:List q00×Int):List TOb:=match e with
 | (l,t11)=>[.cells [.tl q07 k_l .unk,.tl .bool q09 .unk] 118 true,.cells [.int .u8 q04,.int .i64 q20,.str q19,.int .i64 q62] 115 true]
noncomputable def z95 (N:Nat):(List TV→List TOb→Option q03)→List TV→List TOb→Option q03:=w54 DR z73 (z66 N) (ql6 (qc4 (q08 (q87 (q08 (q08 (q10 Tryz.f99))))))) zd9 (qv3.loops.drop 1) (qk0 0 (qc3 DR z73 (z66 N) (q08 (q08 (q08 (q10 Tryz.f99)))) (qv3.loops.drop 1) (y57 N)))
def w67 (N:Nat)(n:Int)(k_l:List q03)(q09:List Bool)(q04 q20:Int)(q19:List UInt8)(q62 t1:Int)(K0:(List q00×Int)→Option q03)(e:List q00×Int):Option q03 :=
 match e with
 | (l,t11) =>
  bif decide (t11 < n) then
   (q58 N (k_l,q09,()) t11).bind fun r =>
   bif (r.2.1 != 0) then
    some r
   else
    bif w23 (l.length + ([r.1]:List q00).length) 4398046511104 then
    bif q26 (t11 + 1) then
    K0 ((l ++ ([r.1]:List q00)),t11 + 1)
    else none
    else none
  else
   (qm1 N l t1).bind fun r1 =>
   some r1
theorem y95 (N:Nat)(n:Int)(k_l:List q03)(q09:List Bool)(q04 q20:Int)(q19:List UInt8)(q62 t1:Int)(n_:Nat)(e:List q00×Int):q57 (z95 N ) n_ ((w86 n k_l q09 q04 q20 q19 q62 t1) e) ((w61 n k_l q09 q04 q20 q19 q62 t1) e)=q86 (w67 N n k_l q09 q04 q20 q19 q62 t1 ) n_ e :=
 q39 (w86 n k_l q09 q04 q20 q19 q62 t1) (w61 n k_l q09 q04 q20 q19 q62 t1) (by intro K e; obtain ⟨l,t11⟩:=e; kernel_rfl) n_ e
def zk1 (N:Nat)(k:q34)(n t1:Int)(l1:Int→(List q03)→(List Bool)→Int→Int→(List UInt8)→Int→Int→(List q00×Int)→Option q03):Option q03 :=
 l1 n k.1 k.2.1 0 0 [] 0 t1 ([],0)
def qt3 (N:Nat)(k:q34)(n t1:Int):Option q03:=zk1 N k n t1 (fun n k_l q09 q04 q20 q19 q62 t1 e=>q86 (w67 N n k_l q09 q04 q20 q19 q62 t1) N e)
abbrev zd8 :List PK:=[.val q65,.val (.int .i64),.fn 160 2,.ep 1,.val (.int .u8),.ep 1,.fn 89 0]
noncomputable def zm4 (N:Nat)(k:q34)(n t1:Int):Option (RT [q07]):=q22 DR Tryz.prog N (wc8 N) qv3 Tryz.f99 (q10 Tryz.f99) (RT [q07]) (qx9 zd8 (k,n,t1,())) [] (q40 [q07])
theorem jy8 (N:Nat)(k:q34)(n t1:Int):zm4 N k n t1=qt3 N k n t1:=by
 have h:zm4 N k n t1=zk1 N k n t1 (fun n k_l q09 q04 q20 q19 q62 t1 e=>q57 (z95 N ) N (w86 n k_l q09 q04 q20 q19 q62 t1 e) (w61 n k_l q09 q04 q20 q19 q62 t1 e)):=by kernel_rfl
 rw [h]
 simp only [qt3,y95] <;> rfl
def jj7 (m:q34→Int→Int→Option q03):Ent:=qf1 zd8 [q07] fun (x:Els [q65,(.int .i64),(.int .u8)])=>m x.1 x.2.1 x.2.2.1
def z01 (N:Nat):Ent:=jj7 (qt3 N)
theorem ja2 (N:Nat):q16 Tryz.prog 99 (z01 N):=q51 (y94 N) Tryz.func99 rfl (by kernel_rfl) (by kernel_rfl) fun (x:Els [q65,(.int .i64),(.int .u8)])=>jy8 N x.1 x.2.1 x.2.2.1
def j91 :FH:=⟨[],[],[],[],false,[],[]⟩
noncomputable def wj5 (N:Nat):q48:=tab []
theorem j57 (N:Nat):q13 Tryz.prog (wj5 N):=q27 _
def qo5 (N:Nat)(s w71:List UInt8):Option Bool :=
 bif decide ((s.length:Int) ≥ (w71.length:Int)) then
  bif upTo (w71.length:Int) s.length then
  some ((s.take (w71.length:Int).toNat) == w71)
  else none
 else
  some false
noncomputable def ja3 (N:Nat)(s w71:List UInt8):Option (RT [.bool]):=q22 DR Tryz.prog N (wj5 N) j91 Tryz.f162 (q10 Tryz.f162) (RT [.bool]) (qd2 [.str,.str] (s,w71,())) [] (q40 [.bool])
theorem zu7 (N:Nat)(s w71:List UInt8):ja3 N s w71=qo5 N s w71:=by kernel_rfl
def zo6 (m:(List UInt8)→(List UInt8)→Option Bool):Ent:=q35 [.str,.str] [.bool] fun (x:Els [.str,.str])=>m x.1 x.2.1
def wa2 (N:Nat):Ent:=zo6 (qo5 N)
theorem zi5 (N:Nat):q16 Tryz.prog 162 (wa2 N):=q15 (j57 N) Tryz.func162 rfl (by kernel_rfl) fun (x:Els [.str,.str])=>zu7 N x.1 x.2.1
def yl6 :FH:=⟨[],[],[],[],false,[],[]⟩
noncomputable def zi6 (N:Nat):q48:=tab [(162,wa2 N)]
theorem ya2 (N:Nat):q13 Tryz.prog (zi6 N):=q06 (zi5 N) <| q27 _
def w38 (N:Nat)(s w71:List UInt8):Option Bool :=
 (qo5 N s w71).bind fun r =>
 some r
noncomputable def ym7 (N:Nat)(s w71:List UInt8):Option (RT [.bool]):=q22 DR Tryz.prog N (zi6 N) yl6 Tryz.f93 (q10 Tryz.f93) (RT [.bool]) (qd2 [.str,.str] (s,w71,())) [] (q40 [.bool])
theorem y59 (N:Nat)(s w71:List UInt8):ym7 N s w71=w38 N s w71:=by kernel_rfl
def jn3 (m:(List UInt8)→(List UInt8)→Option Bool):Ent:=q35 [.str,.str] [.bool] fun (x:Els [.str,.str])=>m x.1 x.2.1
def wz8 (N:Nat):Ent:=jn3 (w38 N)
theorem j72 (N:Nat):q16 Tryz.prog 93 (wz8 N):=q15 (ya2 N) Tryz.func93 rfl (by kernel_rfl) fun (x:Els [.str,.str])=>y59 N x.1 x.2.1
def vg1 :FH:=⟨[],[],[(1,⟨8,14,0,[],[]⟩)],[],false,[],[]⟩
noncomputable def jo5 (N:Nat):q48:=tab [(93,wz8 N),(90,qc8 N)]
theorem xu1 (N:Nat):q13 Tryz.prog (jo5 N):=q06 (j72 N) <| q06 (qb9 N) <| q27 _
def zf4 (N:Nat)(l:List q00):Option q03 :=
 bif inR 0 l.length then
 bif inR 1 l.length then
 (w38 N ((q24 l 0 q29).2.2.1) ((q24 l 1 q29).2.2.1)).bind fun r =>
 (q94 N r).bind fun r1 =>
 some (r1,0,())
 else none
 else none
noncomputable def v46 (N:Nat)(l:List q00):Option (RT [q07]):=q22 DR Tryz.prog N (jo5 N) vg1 Tryz.f92 (q10 Tryz.f92) (RT [q07]) (qd2 [(.list q05)] (l,())) [] (q40 [q07])
theorem xi3 (N:Nat)(l:List q00):v46 N l=zf4 N l:=by kernel_rfl
def x12 (m:(List q00)→Option q03):Ent:=q35 [(.list q05)] [q07] fun (x:Els [(.list q05)])=>m x.1
def zy1 (N:Nat):Ent:=x12 (zf4 N)
theorem yj3 (N:Nat):q16 Tryz.prog 92 (zy1 N):=q15 (xu1 N) Tryz.func92 rfl (by kernel_rfl) fun (x:Els [(.list q05)])=>xi3 N x.1
def y53 :FH:=⟨[],[],[],[],false,[],[]⟩
noncomputable def z27 (N:Nat):q48:=tab [(159,qe3 N),(76,q91 N),(157,qb2 N),(92,zy1 N)]
theorem jj9 (N:Nat):q13 Tryz.prog (z27 N):=q06 (qc6 N) <| q06 (q80 N) <| q06 (qa5 N) <| q06 (yj3 N) <| q27 _
def qg3 (N:Nat)(l:List q00)(t1:Int):Option q03 :=
 (qa8 N t1 t1 l).bind fun r =>
 bif (!r) then
  (qd7 N 8).bind fun r1 =>
  some r1
 else
  (q83 N l).bind fun r2 =>
  bif r2 then
   some ((0,0,[],()),0,())
  else
   (zf4 N l).bind fun r3 =>
   some r3
abbrev wm1 :List PK:=[.val (.list q05),.ep 1,.val (.int .u8),.ep 1,.fn 92 0]
noncomputable def y16 (N:Nat)(l:List q00)(t1:Int):Option (RT [q07]):=q22 DR Tryz.prog N (z27 N) y53 Tryz.f160 (q10 Tryz.f160) (RT [q07]) (qx9 wm1 (l,t1,())) [] (q40 [q07])
theorem j82 (N:Nat)(l:List q00)(t1:Int):y16 N l t1=qg3 N l t1:=by kernel_rfl
def j08 (m:(List q00)→Int→Option q03):Ent:=qf1 wm1 [q07] fun (x:Els [(.list q05),(.int .u8)])=>m x.1 x.2.1
def wg5 (N:Nat):Ent:=j08 (qg3 N)
theorem zt3 (N:Nat):q16 Tryz.prog 160 (wg5 N):=q51 (jj9 N) Tryz.func160 rfl (by kernel_rfl) (by kernel_rfl) fun (x:Els [(.list q05),(.int .u8)])=>j82 N x.1 x.2.1
def z76 :LH:=⟨[(2,.asis),(3,.asis),(6,.asis),(7,.own q05 507 26 3),(10,.int .i64),(11,.int .i64)],[],[.cells [.lst q07,.lst .bool],.cells [.int .u8,.int .i64,.str,.int .i64]]⟩
def qu2 :FH:=⟨[z76],[],[],[],false,[],[]⟩
noncomputable def wd5 (N:Nat):q48:=tab [(153,q52 N),(160,wg5 N)]
theorem ya9 (N:Nat):q13 Tryz.prog (wd5 N):=q06 (q49 N) <| q06 (zt3 N) <| q27 _
noncomputable def zc3 :Sc:=wl6 Tryz.prog qu2
noncomputable def z62 (N:Nat):Cfg:=⟨N,wd5 N,0⟩
noncomputable def jw2 (N:Nat):Exit→List TV→List TOb→Option q03:=fin Tryz.prog 0 Tryz.f99.results.toList (q40 [q07])
def w55 (n:Int)(k_l:List q03)(q09:List Bool)(q04 q20:Int)(q19:List UInt8)(q62 t1:Int)(e:List q00×Int):List TV:=match e with
 | (l,t11)=>frm 30 [(2,.func (.func 160) [.ep [.int .u8 t1] 0,.ep [.func (.func 92) []] 0]),(3,.ref 0 0),(6,.ref 1 0),(7,.tl q05 l (.own 507 26 3)),(10,.int .i64 n),(11,.int .i64 t11)]
def w88 (n:Int)(k_l:List q03)(q09:List Bool)(q04 q20:Int)(q19:List UInt8)(q62 t1:Int)(e:List q00×Int):List TOb:=match e with
 | (l,t11)=>[.cells [.tl q07 k_l .unk,.tl .bool q09 .unk] 118 true,.cells [.int .u8 q04,.int .i64 q20,.str q19,.int .i64 q62] 115 true]
noncomputable def z53 (N:Nat):(List TV→List TOb→Option q03)→List TV→List TOb→Option q03:=w54 DR zc3 (z62 N) (ql6 (qc4 (q08 (q87 (q08 (q08 (q10 Tryz.f99))))))) z76 (qu2.loops.drop 1) (qk0 0 (qc3 DR zc3 (z62 N) (q08 (q08 (q08 (q10 Tryz.f99)))) (qu2.loops.drop 1) (jw2 N)))
def w73 (N:Nat)(n:Int)(k_l:List q03)(q09:List Bool)(q04 q20:Int)(q19:List UInt8)(q62 t1:Int)(K0:(List q00×Int)→Option q03)(e:List q00×Int):Option q03 :=
 match e with
 | (l,t11) =>
  bif decide (t11 < n) then
   (q58 N (k_l,q09,()) t11).bind fun r =>
   bif (r.2.1 != 0) then
    some r
   else
    bif w23 (l.length + ([r.1]:List q00).length) 4398046511104 then
    bif q26 (t11 + 1) then
    K0 ((l ++ ([r.1]:List q00)),t11 + 1)
    else none
    else none
  else
   (qg3 N l t1).bind fun r1 =>
   some r1
theorem yb5 (N:Nat)(n:Int)(k_l:List q03)(q09:List Bool)(q04 q20:Int)(q19:List UInt8)(q62 t1:Int)(n_:Nat)(e:List q00×Int):q57 (z53 N ) n_ ((w55 n k_l q09 q04 q20 q19 q62 t1) e) ((w88 n k_l q09 q04 q20 q19 q62 t1) e)=q86 (w73 N n k_l q09 q04 q20 q19 q62 t1 ) n_ e :=
 q39 (w55 n k_l q09 q04 q20 q19 q62 t1) (w88 n k_l q09 q04 q20 q19 q62 t1) (by intro K e; obtain ⟨l,t11⟩:=e; kernel_rfl) n_ e
def zn3 (N:Nat)(k:q34)(n t1:Int)(l1:Int→(List q03)→(List Bool)→Int→Int→(List UInt8)→Int→Int→(List q00×Int)→Option q03):Option q03 :=
 l1 n k.1 k.2.1 0 0 [] 0 t1 ([],0)
def qr9 (N:Nat)(k:q34)(n t1:Int):Option q03:=zn3 N k n t1 (fun n k_l q09 q04 q20 q19 q62 t1 e=>q86 (w73 N n k_l q09 q04 q20 q19 q62 t1) N e)
abbrev zd1 :List PK:=[.val q65,.val (.int .i64),.fn 160 2,.ep 1,.val (.int .u8),.ep 1,.fn 92 0]
noncomputable def zl5 (N:Nat)(k:q34)(n t1:Int):Option (RT [q07]):=q22 DR Tryz.prog N (wd5 N) qu2 Tryz.f99 (q10 Tryz.f99) (RT [q07]) (qx9 zd1 (k,n,t1,())) [] (q40 [q07])
theorem jr7 (N:Nat)(k:q34)(n t1:Int):zl5 N k n t1=qr9 N k n t1:=by
 have h:zl5 N k n t1=zn3 N k n t1 (fun n k_l q09 q04 q20 q19 q62 t1 e=>q57 (z53 N ) N (w55 n k_l q09 q04 q20 q19 q62 t1 e) (w88 n k_l q09 q04 q20 q19 q62 t1 e)):=by kernel_rfl
 rw [h]
 simp only [qr9,yb5] <;> rfl
def jn8 (m:q34→Int→Int→Option q03):Ent:=qf1 zd1 [q07] fun (x:Els [q65,(.int .i64),(.int .u8)])=>m x.1 x.2.1 x.2.2.1
def wv8 (N:Nat):Ent:=jn8 (qr9 N)
theorem jc5 (N:Nat):q16 Tryz.prog 99 (wv8 N):=q51 (ya9 N) Tryz.func99 rfl (by kernel_rfl) (by kernel_rfl) fun (x:Els [q65,(.int .i64),(.int .u8)])=>jr7 N x.1 x.2.1 x.2.2.1
noncomputable def zg9 (N:Nat):q48:=tab [(99,sel [0,0,168,3,94] (wu0 N) <| sel [0,0,168,3,95] (z24 N) <| sel [0,0,168,3,96] (wz5 N) <| sel [0,0,168,3,97] (wt9 N) kb5)]
theorem y93 (N:Nat):q13 Tryz.prog (zg9 N):=q06 (qd9 (jf1 N) <| qd9 (jb0 N) <| qd9 (ja8 N) <| qd9 (jb4 N) wo3) <| q27 _
noncomputable def ww7 (N:Nat):Ent:=zn6 Tryz.prog N (zg9 N) ⟨[],[],[],[],false,[99],[]⟩ Tryz.f83 (q10 Tryz.f83)
theorem jf2 (N:Nat):q16 Tryz.prog 83 (ww7 N):=qc2 (y93 N) Tryz.func83 rfl (by kernel_rfl)
noncomputable def zr6 (N:Nat):q48:=tab [(99,sel [0,0,170,3,0,3,99] (z01 N) <| sel [0,0,170,3,0,3,102] (wv8 N) kb5)]
theorem yk4 (N:Nat):q13 Tryz.prog (zr6 N):=q06 (qd9 (ja2 N) <| qd9 (jc5 N) wo3) <| q27 _
noncomputable def zb1 (N:Nat):Ent:=zn6 Tryz.prog N (zr6 N) ⟨[],[],[],[],false,[99],[]⟩ Tryz.f88 (q10 Tryz.f88)
theorem jl9 (N:Nat):q16 Tryz.prog 88 (zb1 N):=qc2 (yk4 N) Tryz.func88 rfl (by kernel_rfl)
def zf6 :FH:=⟨[],[],[],[],false,[],[(13,⟨[(0,.int .u8),(3,.asis),(4,.asis)],[],[.cells [.lst q07,.lst .bool],.cells [.int .u8,.int .i64,.str,.int .i64]]⟩)]⟩
noncomputable def jc7 (N:Nat):q48:=tab [(77,sel [0,0,88] (zp6 N) <| sel [0,0,89] (z20 N) kb5),(80,ql0 N),(81,jc1 N),(83,ww7 N),(88,zb1 N),(82,zj9 N)]
theorem vu2 (N:Nat):q13 Tryz.prog (jc7 N):=q06 (qd9 (yb6 N) <| qd9 (jc6 N) wo3) <| q06 (qn3 N) <| q06 (jv0 N) <| q06 (jf2 N) <| q06 (jl9 N) <| q06 (y39 N) <| q27 _
noncomputable def zt4 :Sc:=wl6 Tryz.prog zf6
noncomputable def zu1 (N:Nat):Cfg:=⟨N,jc7 N,0⟩
noncomputable def v12 (N:Nat):Exit→List TV→List TOb→Option (q03×Bool×Unit):=fin Tryz.prog 0 Tryz.f37.results.toList (q40 [q07,.bool])
def yh1 (op:Int)(k_l:List q03)(q09:List Bool)(e:Unit):List TV:=frm 59 [(0,.int .u8 op),(3,.ref 0 0),(4,.ref 1 0)]
def yg9 (op:Int)(k_l:List q03)(q09:List Bool)(e:Unit):List TOb:=[.cells [.tl q07 k_l .unk,.tl .bool q09 .unk] 118 true,.cells [.int .u8 0,.int .i64 0,.str [],.int .i64 0] 115 true]
noncomputable def ye9 (N:Nat):List TV→List TOb→Option (q03×Bool×Unit):=ys5 DR zt4 (zu1 N) (q87 (ys1 (q08 (zf9 (q08 (zf9 (q08 (zf9 (q08 (qc4 (q08 (q87 (q08 (q10 Tryz.f37)))))))))))))) (qc3 DR zt4 (zu1 N) (q08 (ys1 (q08 (zf9 (q08 (zf9 (q08 (zf9 (q08 (qc4 (q08 (q87 (q08 (q10 Tryz.f37)))))))))))))) (zf6.loops.drop 0) (qk0 0 (qc3 DR zt4 (zu1 N) (q08 (q08 (q10 Tryz.f37))) (zf6.loops.drop 0) (v12 N))))
def wt0 (N:Nat)(op:Int)(k_l:List q03)(q09:List Bool)(e:Unit):Option (q03×Bool×Unit) :=
 (qz3 N (k_l,q09,()) (op == 7)).bind fun r10 =>
 some (r10,true,())
theorem vs9 (N:Nat)(op:Int)(k_l:List q03)(q09:List Bool)(e:Unit):jmp N (ye9 N ) ((yh1 op k_l q09) e) ((yg9 op k_l q09) e)=at1 N (wt0 N op k_l q09 e):=qn4 (by kernel_rfl) N
def j81 (N:Nat)(op:Int)(k:q34)(l1:Int→(List q03)→(List Bool)→Unit→Option (q03×Bool×Unit)):Option (q03×Bool×Unit) :=
 bif (op == 5) then
  (wa7 N k 0).bind fun r =>
  some (r,true,())
 else
  bif (op == 4) then
   (qr4 N k 1).bind fun r1 =>
   some (r1,true,())
  else
   bif (op == 6) then
    (q82 N k 0).bind fun r2 =>
    bif (r2.2.1 == 0) then
     (zm1 N r2.1).bind fun r3 =>
     some ((r3,r2.2.1,()),true,())
    else
     some (r2,true,())
   else
    bif (op == 7) then
     l1 op k.1 k.2.1 ()
    else
     bif (op == 8) then
      l1 op k.1 k.2.1 ()
     else
      bif (op == 9) then
       (qr6 N k 2).bind fun r4 =>
       some (r4,true,())
      else
       bif (op == 10) then
        (qr5 N k 2).bind fun r5 =>
        some (r5,true,())
       else
        bif (op == 11) then
         (qr8 N k 2).bind fun r6 =>
         some (r6,true,())
        else
         bif (op == 12) then
          (qs8 N k 2).bind fun r7 =>
          some (r7,true,())
         else
          bif (op == 24) then
           (qt3 N k 2 3).bind fun r8 =>
           some (r8,true,())
          else
           bif (op == 25) then
            (qr9 N k 2 3).bind fun r9 =>
            some (r9,true,())
           else
            some (((0,0,[],()),0,()),false,())
def wd9 (N:Nat)(op:Int)(k:q34):Option (q03×Bool×Unit):=j81 N op k (fun op k_l q09 e=>at1 N (wt0 N op k_l q09 e))
noncomputable def x07 (N:Nat)(op:Int)(k:q34):Option (RT [q07,.bool]):=q22 DR Tryz.prog N (jc7 N) zf6 Tryz.f37 (q10 Tryz.f37) (RT [q07,.bool]) (qd2 [(.int .u8),q65] (op,k,())) [] (q40 [q07,.bool])
theorem v91 (N:Nat)(op:Int)(k:q34):x07 N op k=wd9 N op k:=by
 have h:x07 N op k=j81 N op k (fun op k_l q09 e=>jmp N (ye9 N ) (yh1 op k_l q09 e) (yg9 op k_l q09 e)):=by kernel_rfl
 rw [h]
 simp only [wd9,vs9] <;> rfl
def xt1 (m:Int→q34→Option (q03×Bool×Unit)):Ent:=q35 [(.int .u8),q65] [q07,.bool] fun (x:Els [(.int .u8),q65])=>m x.1 x.2.1
def jq5 (N:Nat):Ent:=xt1 (wd9 N)
theorem x88 (N:Nat):q16 Tryz.prog 37 (jq5 N):=q15 (vu2 N) Tryz.func37 rfl (by kernel_rfl) fun (x:Els [(.int .u8),q65])=>v91 N x.1 x.2.1
def ks6 :FH:=⟨[],[],[],[],true,[],[]⟩
noncomputable def u26 (N:Nat):q48:=tab []
theorem k28 (N:Nat):q13 Tryz.prog (u26 N):=q27 _
def w41 (N:Nat)(n:Int):Option Int :=
 bif decide (n < 0) then
  some (IntKind.u64.wrap (0 - (IntKind.u64.wrap n)))
 else
  some (IntKind.u64.wrap n)
noncomputable def kx7 (N:Nat)(n:Int):Option (RT [(.int .u64)]):=q22 DR Tryz.prog N (u26 N) ks6 Tryz.f220 (q10 Tryz.f220) (RT [(.int .u64)]) (qd2 [(.int .i64)] (n,())) [] (q40 [(.int .u64)])
theorem ur5 (N:Nat)(n:Int):kx7 N n=w41 N n:=by kernel_rfl
def ui2 (m:Int→Option Int):Ent:=q35 [(.int .i64)] [(.int .u64)] fun (x:Els [(.int .i64)])=>m x.1
def wy0 (N:Nat):Ent:=ui2 (w41 N)
theorem ws3 (N:Nat):q16 Tryz.prog 220 (wy0 N):=q15 (k28 N) Tryz.func220 rfl (by kernel_rfl) fun (x:Els [(.int .i64)])=>ur5 N x.1
def ur3 :FH:=⟨[],[],[],[],true,[],[]⟩
noncomputable def xr8 (N:Nat):q48:=tab []
theorem uc9 (N:Nat):q13 Tryz.prog (xr8 N):=q27 _
def qj4 (N:Nat)(neg:Bool)(hi lo:Int):Option (Int×Int×Unit) :=
 bif decide (hi > 0) then
  some (0,9,())
 else
  bif decide (lo > 9223372036854775808) then
   some (0,9,())
  else
   bif (lo == 9223372036854775808) then
    bif (!neg) then
     some (0,9,())
    else
     bif neg then
      some ((IntKind.i64.wrap (0 - (IntKind.i64.wrap lo))),0,())
     else
      some ((IntKind.i64.wrap lo),0,())
   else
    bif neg then
     some ((IntKind.i64.wrap (0 - (IntKind.i64.wrap lo))),0,())
    else
     some ((IntKind.i64.wrap lo),0,())
noncomputable def up0 (N:Nat)(neg:Bool)(hi lo:Int):Option (RT [(.int .i64),(.int .i64)]):=q22 DR Tryz.prog N (xr8 N) ur3 Tryz.f221 (q10 Tryz.f221) (RT [(.int .i64),(.int .i64)]) (qd2 [.bool,(.int .u64),(.int .u64)] (neg,hi,lo,())) [] (q40 [(.int .i64),(.int .i64)])
theorem vo7 (N:Nat)(neg:Bool)(hi lo:Int):up0 N neg hi lo=qj4 N neg hi lo:=by kernel_rfl
def vg3 (m:Bool→Int→Int→Option (Int×Int×Unit)):Ent:=q35 [.bool,(.int .u64),(.int .u64)] [(.int .i64),(.int .i64)] fun (x:Els [.bool,(.int .u64),(.int .u64)])=>m x.1 x.2.1 x.2.2.1
def w98 (N:Nat):Ent:=vg3 (qj4 N)
theorem wb5 (N:Nat):q16 Tryz.prog 221 (w98 N):=q15 (uc9 N) Tryz.func221 rfl (by kernel_rfl) fun (x:Els [.bool,(.int .u64),(.int .u64)])=>vo7 N x.1 x.2.1 x.2.2.1
def num_Mul_H :FH:=⟨[],[],[],[],false,[],[]⟩
noncomputable def uy6 (N:Nat):q48:=tab [(220,wy0 N),(219,ws1 N),(221,w98 N)]
theorem kt9 (N:Nat):q13 Tryz.prog (uy6 N):=q06 (ws3 N) <| q06 (z46 N) <| q06 (wb5 N) <| q27 _
def yq6 (N:Nat)(a b:Int):Option (Int×Int×Unit) :=
 (w41 N a).bind fun r =>
 (w41 N b).bind fun r1 =>
 (qx5 N r r1).bind fun r2 =>
 (qj4 N (!((decide (a < 0)) == (decide (b < 0)))) r2.1 r2.2.1).bind fun r3 =>
 some r3
noncomputable def num_Mul_C (N:Nat)(a b:Int):Option (RT [(.int .i64),(.int .i64)]):=q22 DR Tryz.prog N (uy6 N) num_Mul_H Tryz.f167 (q10 Tryz.f167) (RT [(.int .i64),(.int .i64)]) (qd2 [(.int .i64),(.int .i64)] (a,b,())) [] (q40 [(.int .i64),(.int .i64)])
theorem ke3 (N:Nat)(a b:Int):num_Mul_C N a b=yq6 N a b:=by kernel_rfl
def up6 (m:Int→Int→Option (Int×Int×Unit)):Ent:=q35 [(.int .i64),(.int .i64)] [(.int .i64),(.int .i64)] fun (x:Els [(.int .i64),(.int .i64)])=>m x.1 x.2.1
def yr2 (N:Nat):Ent:=up6 (yq6 N)
theorem yt1 (N:Nat):q16 Tryz.prog 167 (yr2 N):=q15 (kt9 N) Tryz.func167 rfl (by kernel_rfl) fun (x:Els [(.int .i64),(.int .i64)])=>ke3 N x.1 x.2.1
def k73 :FH:=⟨[],[],[],[],false,[],[]⟩
noncomputable def vj2 (N:Nat):q48:=tab [(167,yr2 N)]
theorem uu5 (N:Nat):q13 Tryz.prog (vj2 N):=q06 (yt1 N) <| q27 _
def y40 (N:Nat)(a:Int):Option (Int×Int×Unit) :=
 (yq6 N a 10000).bind fun r =>
 some r
noncomputable def k46 (N:Nat)(a:Int):Option (RT [(.int .i64),(.int .i64)]):=q22 DR Tryz.prog N (vj2 N) k73 Tryz.f283 (q10 Tryz.f283) (RT [(.int .i64),(.int .i64)]) (qd2 [(.int .i64)] (a,())) [] (q40 [(.int .i64),(.int .i64)])
theorem ub4 (N:Nat)(a:Int):k46 N a=y40 N a:=by kernel_rfl
def vo4 (m:Int→Option (Int×Int×Unit)):Ent:=q35 [(.int .i64)] [(.int .i64),(.int .i64)] fun (x:Els [(.int .i64)])=>m x.1
def x54 (N:Nat):Ent:=vo4 (y40 N)
theorem vb1 (N:Nat):q16 Tryz.prog 283 (x54 N):=q15 (uu5 N) Tryz.func283 rfl (by kernel_rfl) fun (x:Els [(.int .i64)])=>ub4 N x.1
def k29 :FH:=⟨[],[],[],[],false,[],[]⟩
noncomputable def vj6 (N:Nat):q48:=tab [(283,x54 N)]
theorem uj8 (N:Nat):q13 Tryz.prog (vj6 N):=q06 (vb1 N) <| q27 _
def wa1 (N:Nat)(v:q00):Option OX3 :=
 bif (v.1 == 2) then
  some (v,0,())
 else
  (y40 N v.2.1).bind fun r =>
  bif (r.2.1 != 0) then
   some ((0,0,[],()),r.2.1,())
  else
   some ((2,r.1,[],()),0,())
noncomputable def k97 (N:Nat)(v:q00):Option (RT [q05,(.int .i64)]):=q22 DR Tryz.prog N (vj6 N) k29 Tryz.f257 (q10 Tryz.f257) (RT [q05,(.int .i64)]) (qd2 [q05] (v,())) [] (q40 [q05,(.int .i64)])
theorem u91 (N:Nat)(v:q00):k97 N v=wa1 N v:=by kernel_rfl
def vt2 (m:q00→Option OX3):Ent:=q35 [q05] [q05,(.int .i64)] fun (x:Els [q05])=>m x.1
def x08 (N:Nat):Ent:=vt2 (wa1 N)
theorem vg0 (N:Nat):q16 Tryz.prog 257 (x08 N):=q15 (uj8 N) Tryz.func257 rfl (by kernel_rfl) fun (x:Els [q05])=>u91 N x.1
def ye7 :LH:=⟨[(0,.lst q05),(2,.own q05 502 26 3),(3,.bool),(5,.int .u8),(10,.lst q05),(11,.int .i64),(12,.int .i64)],[],[]⟩
def yg4 :LH:=⟨[(2,.own q05 502 26 3),(5,.int .u8),(36,.lst q05),(37,.int .i64),(38,.int .i64)],[],[]⟩
def w39 :FH:=⟨[ye7,yg4],[],[],[],false,[],[]⟩
noncomputable def jf0 (N:Nat):q48:=tab [(211,wi4 N),(257,x08 N)]
theorem vr3 (N:Nat):q13 Tryz.prog (jf0 N):=q06 (z94 N) <| q06 (vg0 N) <| q27 _
noncomputable def wt2 :Sc:=wl6 Tryz.prog w39
noncomputable def ws9 (N:Nat):Cfg:=⟨N,jf0 N,0⟩
noncomputable def ju1 (N:Nat):Exit→List TV→List TOb→Option OX7:=fin Tryz.prog 0 Tryz.f217.results.toList (q40 [(.list q05),.bool,(.int .i64)])
def wa6 (l out:List q00)(t11:Int)(e:Bool×Int×Int):List TV:=match e with
 | (null,kind,t12)=>frm 61 [(0,.tl q05 l .unk),(2,.tl q05 out (.own 502 26 3)),(3,.bool null),(5,.int .u8 kind),(10,.tl q05 l .unk),(11,.int .i64 t11),(12,.int .i64 t12)]
def wb1 (l out:List q00)(t11:Int)(e:Bool×Int×Int):List TOb:=match e with
 | (null,kind,t12)=>[]
def zs8 (kind:Int)(l:List q00)(t37:Int)(e:List q00×Int):List TV:=match e with
 | (out1,t38)=>frm 61 [(2,.tl q05 out1 (.own 502 26 3)),(5,.int .u8 kind),(36,.tl q05 l .unk),(37,.int .i64 t37),(38,.int .i64 t38)]
def zs9 (kind:Int)(l:List q00)(t37:Int)(e:List q00×Int):List TOb:=match e with
 | (out1,t38)=>[]
noncomputable def ye3 (N:Nat):(List TV→List TOb→Option OX7)→List TV→List TOb→Option OX7:=w54 DR wt2 (ws9 N) (ql6 (qc4 (q08 (q87 (q08 (q08 (q08 (q08 (q10 Tryz.f217))))))))) yg4 (w39.loops.drop 2) (qk0 2 (qc3 DR wt2 (ws9 N) (q08 (q08 (q08 (q08 (q08 (q10 Tryz.f217)))))) (w39.loops.drop 2) (ju1 N)))
def qp0 (N:Nat)(kind:Int)(l:List q00)(t37:Int)(K1:(List q00×Int)→Option OX7)(e:List q00×Int):Option OX7 :=
 match e with
 | (out1,t38) =>
  bif decide (t38 < t37) then
   bif inR t38 l.length then
   bif (kind == 2) then
    (wa1 N (q24 l t38 q29)).bind fun r1 =>
    bif (r1.2.1 != 0) then
     some ([],false,r1.2.1,())
    else
     bif w23 (out1.length + ([(kind,r1.1.2.1,[],())]:List q00).length) 4398046511104 then
     bif q26 (t38 + 1) then
     K1 ((out1 ++ ([(kind,r1.1.2.1,[],())]:List q00)),t38 + 1)
     else none
     else none
   else
    bif w23 (out1.length + ([(kind,(q24 l t38 q29).2.1,[],())]:List q00).length) 4398046511104 then
    bif q26 (t38 + 1) then
    K1 ((out1 ++ ([(kind,(q24 l t38 q29).2.1,[],())]:List q00)),t38 + 1)
    else none
    else none
   else none
  else
   some (out1,false,0,())
theorem vp3 (N:Nat)(kind:Int)(l:List q00)(t37:Int)(n_:Nat)(e:List q00×Int):q57 (ye3 N ) n_ ((zs8 kind l t37) e) ((zs9 kind l t37) e)=q86 (qp0 N kind l t37 ) n_ e :=
 q39 (zs8 kind l t37) (zs9 kind l t37) (by intro K e; obtain ⟨out1,t38⟩:=e; kernel_rfl) n_ e
noncomputable def zt2 (N:Nat):(List TV→List TOb→Option OX7)→List TV→List TOb→Option OX7:=w54 DR wt2 (ws9 N) (ql6 (qc4 (q08 (q87 (q08 (q08 (q10 Tryz.f217))))))) ye7 (w39.loops.drop 1) (qk0 0 (qc3 DR wt2 (ws9 N) (q08 (q08 (q08 (q10 Tryz.f217)))) (w39.loops.drop 1) (ju1 N)))
def q95 (N:Nat)(l out:List q00)(t11:Int)(l2:Int→(List q00)→Int→(List q00×Int)→Option OX7)(K0:(Bool×Int×Int)→Option OX7)(e:Bool×Int×Int):Option OX7 :=
 match e with
 | (null,kind,t12) =>
  bif decide (t12 < t11) then
   bif inR t12 l.length then
   (q71 N (q24 l t12 q29)).bind fun r =>
   bif (!r) then
    bif (((q24 l t12 q29).1) != 0) then
     some ([],false,8,())
    else
     bif null then
      bif q26 (t12 + 1) then
      K0 (true,(vn1 kind ((q24 l t12 q29).1)),t12 + 1)
      else none
     else
      bif q26 (t12 + 1) then
      K0 ((((q24 l t12 q29).1) == 0),(vn1 kind ((q24 l t12 q29).1)),t12 + 1)
      else none
   else
    bif null then
     bif q26 (t12 + 1) then
     K0 (true,(vn1 kind ((q24 l t12 q29).1)),t12 + 1)
     else none
    else
     bif q26 (t12 + 1) then
     K0 ((((q24 l t12 q29).1) == 0),(vn1 kind ((q24 l t12 q29).1)),t12 + 1)
     else none
   else none
  else
   bif null then
    some ([],true,0,())
   else
    l2 kind l (l.length:Int) (out,0)
def q97 (N:Nat)(l out:List q00)(t11:Int)(K0:(Bool×Int×Int)→Option OX7)(e:Bool×Int×Int):Option OX7:=q95 N l out t11 (fun kind l t37 e=>q86 (qp0 N kind l t37) N e) K0 e
theorem vr5 (N:Nat)(l out:List q00)(t11:Int)(n_:Nat)(e:Bool×Int×Int):q57 (zt2 N ) n_ ((wa6 l out t11) e) ((wb1 l out t11) e)=q86 (q97 N l out t11 ) n_ e :=
 q39 (wa6 l out t11) (wb1 l out t11) (by
  intro K e
  have h:(zt2 N ) K ((wa6 l out t11) e) ((wb1 l out t11) e)=q95 N l out t11 (fun kind l t37 e=>q57 (ye3 N ) N (zs8 kind l t37 e) (zs9 kind l t37 e)) (fun e=>K ((wa6 l out t11) e) ((wb1 l out t11) e)) e:=by obtain ⟨null,kind,t12⟩:=e; kernel_rfl
  rw [h]
  simp only [q97,vp3] <;> rfl) n_ e
def qo8 (N:Nat)(l:List q00)(l1:(List q00)→(List q00)→Int→(Bool×Int×Int)→Option OX7):Option OX7 :=
 l1 l [] (l.length:Int) (false,1,0)
def q96 (N:Nat)(l:List q00):Option OX7:=qo8 N l (fun l out t11 e=>q86 (q97 N l out t11) N e)
noncomputable def x15 (N:Nat)(l:List q00):Option (RT [(.list q05),.bool,(.int .i64)]):=q22 DR Tryz.prog N (jf0 N) w39 Tryz.f217 (q10 Tryz.f217) (RT [(.list q05),.bool,(.int .i64)]) (qd2 [(.list q05)] (l,())) [] (q40 [(.list q05),.bool,(.int .i64)])
theorem v09 (N:Nat)(l:List q00):x15 N l=q96 N l:=by
 have h:x15 N l=qo8 N l (fun l out t11 e=>q57 (zt2 N ) N (wa6 l out t11 e) (wb1 l out t11 e)):=by kernel_rfl
 rw [h]
 simp only [q96,vr5] <;> rfl
def xw5 (m:(List q00)→Option OX7):Ent:=q35 [(.list q05)] [(.list q05),.bool,(.int .i64)] fun (x:Els [(.list q05)])=>m x.1
def qs4 (N:Nat):Ent:=xw5 (q96 N)
theorem qt2 (N:Nat):q16 Tryz.prog 217 (qs4 N):=q15 (vr3 N) Tryz.func217 rfl (by kernel_rfl) fun (x:Els [(.list q05)])=>v09 N x.1
def num_Add_H :FH:=⟨[],[],[],[],true,[],[]⟩
noncomputable def us4 (N:Nat):q48:=tab []
theorem kv5 (N:Nat):q13 Tryz.prog (us4 N):=q27 _
def jz2 (N:Nat)(a b:Int):Option (Int×Int×Unit) :=
 bif ((decide (a < 0)) == (decide (b < 0))) then
  bif (!((decide ((IntKind.i64.wrap (a + b)) < 0)) == (decide (a < 0)))) then
   some (0,9,())
  else
   some ((IntKind.i64.wrap (a + b)),0,())
 else
  some ((IntKind.i64.wrap (a + b)),0,())
noncomputable def num_Add_C (N:Nat)(a b:Int):Option (RT [(.int .i64),(.int .i64)]):=q22 DR Tryz.prog N (us4 N) num_Add_H Tryz.f165 (q10 Tryz.f165) (RT [(.int .i64),(.int .i64)]) (qd2 [(.int .i64),(.int .i64)] (a,b,())) [] (q40 [(.int .i64),(.int .i64)])
theorem kb9 (N:Nat)(a b:Int):num_Add_C N a b=jz2 N a b:=by kernel_rfl
def uu6 (m:Int→Int→Option (Int×Int×Unit)):Ent:=q35 [(.int .i64),(.int .i64)] [(.int .i64),(.int .i64)] fun (x:Els [(.int .i64),(.int .i64)])=>m x.1 x.2.1
def vh6 (N:Nat):Ent:=uu6 (jz2 N)
theorem ui4 (N:Nat):q16 Tryz.prog 165 (vh6 N):=q15 (kv5 N) Tryz.func165 rfl (by kernel_rfl) fun (x:Els [(.int .i64),(.int .i64)])=>kb9 N x.1 x.2.1
noncomputable def yg3 (N:Nat):q48:=tab []
theorem vd5 (N:Nat):q13 Tryz.prog (yg3 N):=q27 _
noncomputable def qw1 (N:Nat):Ent:=zn6 Tryz.prog N (yg3 N) ⟨[],[],[],[],false,[],[]⟩ Tryz.f218 (q10 Tryz.f218)
theorem qy0 (N:Nat):q16 Tryz.prog 218 (qw1 N):=qc2 (vd5 N) Tryz.func218 rfl (by kernel_rfl)
def ky4 :FH:=⟨[],[],[(8,⟨16,54,0,[],[]⟩)],[],false,[],[]⟩
noncomputable def vx8 (N:Nat):q48:=tab [(217,qs4 N),(165,vh6 N),(218,qw1 N)]
theorem k95 (N:Nat):q13 Tryz.prog (vx8 N):=q06 (qt2 N) <| q06 (ui4 N) <| q06 (qy0 N) <| q27 _
def ub2 (N:Nat)(a b:q00):Option OX3 :=
 (q96 N ([a,b]:List q00)).bind fun r =>
 bif r.2.1 then
  some ((0,0,[],()),r.2.2.1,())
 else
  bif (r.2.2.1 != 0) then
   some ((0,0,[],()),r.2.2.1,())
  else
   bif inR 0 r.1.length then
   bif (((q24 r.1 0 q29).1) == 2) then
    bif inR 0 r.1.length then
    bif inR 1 r.1.length then
    (jz2 N ((q24 r.1 0 q29).2.1) ((q24 r.1 1 q29).2.1)).bind fun r1 =>
    bif (r1.2.1 != 0) then
     some ((0,0,[],()),r1.2.1,())
    else
     bif inR 0 r.1.length then
     some (((q24 r.1 0 q29).1,r1.1,[],()),0,())
     else none
    else none
    else none
   else
    bif inR 0 r.1.length then
    bif inR 1 r.1.length then
    (jz2 N ((q24 r.1 0 q29).2.1) ((q24 r.1 1 q29).2.1)).bind fun r2 =>
    bif (r2.2.1 != 0) then
     some ((0,0,[],()),r2.2.1,())
    else
     bif inR 0 r.1.length then
     some (((q24 r.1 0 q29).1,r2.1,[],()),0,())
     else none
    else none
    else none
   else none
abbrev v05 :List PK:=[.val q05,.val q05,.fn 165 0,.fn 165 0]
noncomputable def ko9 (N:Nat)(a b:q00):Option (RT [q05,(.int .i64)]):=q22 DR Tryz.prog N (vx8 N) ky4 Tryz.f164 (q10 Tryz.f164) (RT [q05,(.int .i64)]) (qx9 v05 (a,b,())) [] (q40 [q05,(.int .i64)])
theorem uj4 (N:Nat)(a b:q00):ko9 N a b=ub2 N a b:=by kernel_rfl
def ub8 (m:q00→q00→Option OX3):Ent:=qf1 v05 [q05,(.int .i64)] fun (x:Els [q05,q05])=>m x.1 x.2.1
def xj7 (N:Nat):Ent:=ub8 (ub2 N)
theorem vu1 (N:Nat):q16 Tryz.prog 164 (xj7 N):=q51 (k95 N) Tryz.func164 rfl (by kernel_rfl) (by kernel_rfl) fun (x:Els [q05,q05])=>uj4 N x.1 x.2.1
end Go.Proofs.YtgicljncknbgcaaGreat.Abs
