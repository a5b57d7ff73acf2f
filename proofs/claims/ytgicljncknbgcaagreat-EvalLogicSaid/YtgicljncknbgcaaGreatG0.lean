/- The functions of the program, told on typed values, printed by a program: each tells what the reckoning of its body tells. -/
import Derived.Test.YtgicljncknbgcaaGreatL7
import Derived.Test.YtgicljncknbgcaaGreatLA
import Derived.Test.YtgicljncknbgcaaGreatProg
set_option linter.unusedVariables false
set_option linter.unusedSimpArgs false
set_option linter.unusedSectionVars false
namespace Go.Proofs.YtgicljncknbgcaaGreat.Abs
set_option maxRecDepth 100000
open Go Go.Proofs
def q05 :Ty:=.st [(.int .u8),(.int .i64),.str]
abbrev q00 :Type:=Int×Int×(List UInt8)×Unit
def q30 :q00:=(0,0,[],())
def qa6 :Ty:=.st [.str,q05]
abbrev q40 :Type:=(List UInt8)×q00×Unit
def vl5 :q40:=([],q30,())
def w78 :Ty:=.st [(.int .i64),(.int .i64)]
abbrev qi2 :Type:=Int×Int×Unit
def d_Place :qi2:=(0,0,())
def q81 :Ty:=.st [(.int .u8),q05,.str,(.list (.int .i64)),w78]
abbrev q20 :Type:=Int×q00×(List UInt8)×(List Int)×qi2×Unit
def qb7 :q20:=(0,q30,[],[],d_Place,())
def qd2 :Ty:=.st [(.int .u8),.str,q05,w78]
abbrev q33 :Type:=Int×(List UInt8)×q00×qi2×Unit
def q31 :q33:=(0,[],q30,d_Place,())
def ql5 :Ty:=.st [.bool,(.list (.int .i64))]
abbrev qa2 :Type:=Bool×(List Int)×Unit
def q07 :Ty:=.st [q05,(.int .i64)]
abbrev q03 :Type:=q00×Int×Unit
def wt6 :q03:=(q30,0,())
def q66 :Ty:=.st [(.list q07),(.list .bool)]
abbrev q34 :Type:=(List q03)×(List Bool)×Unit
abbrev OX0 :Type:=((((List q33)×Int×Int×(List q20)×Int×Int×Unit)×Unit)×(Int×Unit))
abbrev OX1 :Type:=(((List q33)×Int×Int×(List q20)×Int×Int×Unit)×Unit)
abbrev OX2 :Type:=((List q33)×Int×Int×(List q20)×Int×Int×Unit)
abbrev OX3 :Type:=(q00×Int×Unit)
abbrev OX4 :Type:=(qa2×Bool×Bool×Unit)
abbrev OX5 :Type:=(List q33×Int×Int×List q20×Int×Int×List Int)
abbrev OX6 :Type:=((List q33)×qi2×Int×Unit)
abbrev OX7 :Type:=((List q00)×Bool×Int×Unit)
abbrev OX8 :Type:=(Int×List q33×Int×Int×List q20×Int×Int)
def q73 :List UInt8:=0 :: 1 :: 2 :: 2 :: 3 :: 3 :: 3 :: 3 :: 4 :: 4 :: 4 :: 4 :: 4 :: 4 :: 4 :: 4 :: 5 :: 5 :: 5 :: 5 :: 5 :: 5 :: 5 :: 5 :: 5 :: 5 :: 5 :: 5 :: 5 :: 5 :: 5 :: 5 :: 6 :: 6 :: 6 :: 6 :: 6 :: 6 :: 6 :: 6 :: 6 :: 6 :: 6 :: 6 :: 6 :: 6 :: 6 :: 6 :: 6 :: 6 :: 6 :: 6 :: 6 :: 6 :: 6 :: 6 :: 6 :: 6 :: 6 :: 6 :: 6 :: 6 :: 6 :: 6 :: 7 :: 7 :: 7 :: 7 :: 7 :: 7 :: 7 :: 7 :: 7 :: 7 :: 7 :: 7 :: 7 :: 7 :: 7 :: 7 :: 7 :: 7 :: 7 :: 7 :: 7 :: 7 :: 7 :: 7 :: 7 :: 7 :: 7 :: 7 :: 7 :: 7 :: 7 :: 7 :: 7 :: 7 :: 7 :: 7 :: 7 :: 7 :: 7 :: 7 :: 7 :: 7 :: 7 :: 7 :: 7 :: 7 :: 7 :: 7 :: 7 :: 7 :: 7 :: 7 :: 7 :: 7 :: 7 :: 7 :: 7 :: 7 :: 7 :: 7 :: 7 :: 7 :: 7 :: 7 :: 8 :: 8 :: 8 :: 8 :: 8 :: 8 :: 8 :: 8 :: 8 :: 8 :: 8 :: 8 :: 8 :: 8 :: 8 :: 8 :: 8 :: 8 :: 8 :: 8 :: 8 :: 8 :: 8 :: 8 :: 8 :: 8 :: 8 :: 8 :: 8 :: 8 :: 8 :: 8 :: 8 :: 8 :: 8 :: 8 :: 8 :: 8 :: 8 :: 8 :: 8 :: 8 :: 8 :: 8 :: 8 :: 8 :: 8 :: 8 :: 8 :: 8 :: 8 :: 8 :: 8 :: 8 :: 8 :: 8 :: 8 :: 8 :: 8 :: 8 :: 8 :: 8 :: 8 :: 8 :: 8 :: 8 :: 8 :: 8 :: 8 :: 8 :: 8 :: 8 :: 8 :: 8 :: 8 :: 8 :: 8 :: 8 :: 8 :: 8 :: 8 :: 8 :: 8 :: 8 :: 8 :: 8 :: 8 :: 8 :: 8 :: 8 :: 8 :: 8 :: 8 :: 8 :: 8 :: 8 :: 8 :: 8 :: 8 :: 8 :: 8 :: 8 :: 8 :: 8 :: 8 :: 8 :: 8 :: 8 :: 8 :: 8 :: 8 :: 8 :: 8 :: 8 :: 8 :: 8 :: 8 :: 8 :: 8 :: 8 :: 8 :: 8 :: 8 :: 8 :: 8 :: 8 :: 8 :: 8 :: []
def kw4 :FH:=⟨[],[],[],[],false,[],[]⟩
noncomputable def u37 (N:Nat):q49:=tab []
theorem k74 (N:Nat):q14 Tryz.prog (u37 N):=q28 _
def ya0 (N:Nat)(c:Int):Option Bool :=
 bif decide (c ≥ 97) then
  some (decide (c≤122))
 else
  some false
noncomputable def kw2 (N:Nat)(c:Int):Option (RT [.bool]):=q24 DR Tryz.prog N (u37 N) kw4 Tryz.f200 (q13 Tryz.f200) (RT [.bool]) (qd4 [(.int .u8)] (c,())) [] (q42 [.bool])
theorem uq6 (N:Nat)(c:Int):kw2 N c=ya0 N c:=by kernel_rfl
def um0 (m:Int→Option Bool):Ent:=q37 [(.int .u8)] [.bool] fun (x:Els [(.int .u8)])=>m x.1
def xq7 (N:Nat):Ent:=um0 (ya0 N)
theorem vq9 (N:Nat):q17 Tryz.prog 200 (xq7 N):=q16 (k74 N) Tryz.func200 rfl (by kernel_rfl) fun (x:Els [(.int .u8)])=>uq6 N x.1
def kr8 :FH:=⟨[],[],[],[],false,[],[]⟩
noncomputable def u46 (N:Nat):q49:=tab []
theorem ki2 (N:Nat):q14 Tryz.prog (u46 N):=q28 _
def wc2 (N:Nat)(c:Int):Option Bool :=
 bif decide (c ≥ 48) then
  some (decide (c≤57))
 else
  some false
noncomputable def kw9 (N:Nat)(c:Int):Option (RT [.bool]):=q24 DR Tryz.prog N (u46 N) kr8 Tryz.f136 (q13 Tryz.f136) (RT [.bool]) (qd4 [(.int .u8)] (c,())) [] (q42 [.bool])
theorem uo7 (N:Nat)(c:Int):kw9 N c=wc2 N c:=by kernel_rfl
def u87 (m:Int→Option Bool):Ent:=q37 [(.int .u8)] [.bool] fun (x:Els [(.int .u8)])=>m x.1
def zs8 (N:Nat):Ent:=u87 (wc2 N)
theorem zu8 (N:Nat):q17 Tryz.prog 136 (zs8 N):=q16 (ki2 N) Tryz.func136 rfl (by kernel_rfl) fun (x:Els [(.int .u8)])=>uo7 N x.1
def uu8 :LH:=⟨[(0,.str),(1,.int .i64)],[],[]⟩
def v22 :FH:=⟨[uu8],[],[],[],false,[],[]⟩
noncomputable def uc5 (N:Nat):q49:=tab [(200,xq7 N),(136,zs8 N)]
theorem r6_run_Ts (N:Nat):q14 Tryz.prog (uc5 N):=q06 (vq9 N) <| q06 (zu8 N) <| q28 _
noncomputable def k32 :Sc:=wm4 Tryz.prog v22
noncomputable def k24 (N:Nat):Cfg:=⟨N,uc5 N,0⟩
noncomputable def q0g (N:Nat):Exit→List TV→List TOb→Option Int:=fin Tryz.prog 0 Tryz.f135.results.toList (q42 [(.int .i64)])
def vp6 (s:List UInt8)(e:Int):List TV:=match e with
 | at_1=>frm 36 [(0,.str s),(1,.int .i64 at_1)]
def vd8 (s:List UInt8)(e:Int):List TOb:=match e with
 | at_1=>[]
noncomputable def uo1 (N:Nat):(List TV→List TOb→Option Int)→List TV→List TOb→Option Int:=w66 DR k32 (k24 N) (qm3 (qc6 (q88 (q08 (q08 (q13 Tryz.f135)))))) uu8 (v22.loops.drop 1) (qj9 0 (qc5 DR k32 (k24 N) (q08 (q08 (q08 (q13 Tryz.f135)))) (v22.loops.drop 1) (q0g N)))
def j59 (N:Nat)(s:List UInt8)(K0:Int→Option Int)(e:Int):Option Int :=
 match e with
 | at_1 =>
  bif decide (at_1 < (s.length:Int)) then
   bif inR at_1 s.length then
   (ya0 N (q38 s at_1)).bind fun r1 =>
   bif r1 then
    bif q27 (at_1 + 1) then
    K0 (at_1 + 1)
    else none
   else
    bif inR at_1 s.length then
    (wc2 N (q38 s at_1)).bind fun r2 =>
    bif r2 then
     bif q27 (at_1 + 1) then
     K0 (at_1 + 1)
     else none
    else
     some at_1
    else none
   else none
  else
   some at_1
theorem r6_run_l1 (N:Nat)(s:List UInt8)(n_:Nat)(e:Int):q58 (uo1 N ) n_ ((vp6 s) e) ((vd8 s) e)=q87 (j59 N s ) n_ e :=
 q41 (vp6 s) (vd8 s) (by intro K e; kernel_rfl) n_ e
def v24 (N:Nat)(s:List UInt8)(at_:Int)(l1:(List UInt8)→Int→Option Int):Option Int :=
 bif decide (at_ ≥ (s.length:Int)) then
  some at_
 else
  bif inR at_ s.length then
  (ya0 N (q38 s at_)).bind fun r =>
  bif (!r) then
   some at_
  else
   l1 s at_
  else none
def x27 (N:Nat)(s:List UInt8)(at_:Int):Option Int:=v24 N s at_ (fun s e=>q87 (j59 N s) N e)
noncomputable def kl8 (N:Nat)(s:List UInt8)(at_:Int):Option (RT [(.int .i64)]):=q24 DR Tryz.prog N (uc5 N) v22 Tryz.f135 (q13 Tryz.f135) (RT [(.int .i64)]) (qd4 [.str,(.int .i64)] (s,at_,())) [] (q42 [(.int .i64)])
theorem kr1 (N:Nat)(s:List UInt8)(at_:Int):kl8 N s at_=x27 N s at_:=by
 have h:kl8 N s at_=v24 N s at_ (fun s e=>q58 (uo1 N ) N (vp6 s e) (vd8 s e)):=by kernel_rfl
 rw [h]
 simp only [x27,r6_run_l1] <;> rfl
def kh9 (m:(List UInt8)→Int→Option Int):Ent:=q37 [.str,(.int .i64)] [(.int .i64)] fun (x:Els [.str,(.int .i64)])=>m x.1 x.2.1
def vy8 (N:Nat):Ent:=kh9 (x27 N)
theorem k16 (N:Nat):q17 Tryz.prog 135 (vy8 N):=q16 (r6_run_Ts N) Tryz.func135 rfl (by kernel_rfl) fun (x:Els [.str,(.int .i64)])=>kr1 N x.1 x.2.1
def xq6 :LH:=⟨[(0,.str),(1,.int .i64)],[],[]⟩
def y34 :LH:=⟨[(0,.str),(1,.int .i64)],[],[]⟩
def w31 :FH:=⟨[xq6,y34],[],[],[],false,[],[]⟩
noncomputable def yp2 (N:Nat):q49:=tab [(136,zs8 N)]
theorem ur5 (N:Nat):q14 Tryz.prog (yp2 N):=q06 (zu8 N) <| q28 _
noncomputable def wg9 :Sc:=wm4 Tryz.prog w31
noncomputable def wg7 (N:Nat):Cfg:=⟨N,yp2 N,0⟩
noncomputable def j84 (N:Nat):Exit→List TV→List TOb→Option Int:=fin Tryz.prog 0 Tryz.f137.results.toList (q42 [(.int .i64)])
def z22 (s:List UInt8)(e:Int):List TV:=match e with
 | at_1=>frm 52 [(0,.str s),(1,.int .i64 at_1)]
def wu9 (s:List UInt8)(e:Int):List TOb:=match e with
 | at_1=>[]
def jx1 (s:List UInt8)(e:Int):List TV:=match e with
 | at_3=>frm 52 [(0,.str s),(1,.int .i64 at_3)]
def y35 (s:List UInt8)(e:Int):List TOb:=match e with
 | at_3=>[]
def jy4 (s:List UInt8)(e:Int):List TV:=match e with
 | at_2=>frm 52 [(0,.str s),(1,.int .i64 at_2)]
def jx2 (s:List UInt8)(e:Int):List TOb:=match e with
 | at_2=>[]
noncomputable def xm8 (N:Nat):(List TV→List TOb→Option Int)→List TV→List TOb→Option Int:=w66 DR wg9 (wg7 N) (qm3 (qc6 (q88 (q08 (q08 (q08 (q08 (q13 Tryz.f137)))))))) y34 (w31.loops.drop 2) (qj9 2 (qc5 DR wg9 (wg7 N) (q08 (q08 (q08 (q08 (q08 (q13 Tryz.f137)))))) (w31.loops.drop 2) (j84 N)))
def w32 (N:Nat)(s:List UInt8)(K1:Int→Option Int)(e:Int):Option Int :=
 match e with
 | at_2 =>
  bif decide (at_2 < (s.length:Int)) then
   bif inR at_2 s.length then
   (wc2 N (q38 s at_2)).bind fun r2 =>
   bif r2 then
    bif q27 (at_2 + 1) then
    K1 (at_2 + 1)
    else none
   else
    some at_2
   else none
  else
   some at_2
theorem us1 (N:Nat)(s:List UInt8)(n_:Nat)(e:Int):q58 (xm8 N ) n_ ((jy4 s) e) ((jx2 s) e)=q87 (w32 N s ) n_ e :=
 q41 (jy4 s) (jx2 s) (by intro K e; kernel_rfl) n_ e
noncomputable def xo3 (N:Nat):(List TV→List TOb→Option Int)→List TV→List TOb→Option Int:=w66 DR wg9 (wg7 N) (qm3 (qc6 (q88 (q08 (q08 (q08 (q08 (q13 Tryz.f137)))))))) y34 (w31.loops.drop 2) (qj9 2 (qc5 DR wg9 (wg7 N) (q08 (q08 (q08 (q08 (q08 (q13 Tryz.f137)))))) (w31.loops.drop 2) (j84 N)))
def wz7 (N:Nat)(s:List UInt8)(K1:Int→Option Int)(e:Int):Option Int :=
 match e with
 | at_3 =>
  bif decide (at_3 < (s.length:Int)) then
   bif inR at_3 s.length then
   (wc2 N (q38 s at_3)).bind fun r4 =>
   bif r4 then
    bif q27 (at_3 + 1) then
    K1 (at_3 + 1)
    else none
   else
    some at_3
   else none
  else
   some at_3
theorem uo2 (N:Nat)(s:List UInt8)(n_:Nat)(e:Int):q58 (xo3 N ) n_ ((jx1 s) e) ((y35 s) e)=q87 (wz7 N s ) n_ e :=
 q41 (jx1 s) (y35 s) (by intro K e; kernel_rfl) n_ e
noncomputable def y29 (N:Nat):(List TV→List TOb→Option Int)→List TV→List TOb→Option Int:=w66 DR wg9 (wg7 N) (qm3 (qc6 (q88 (q08 (q13 Tryz.f137))))) xq6 (w31.loops.drop 1) (qj9 0 (qc5 DR wg9 (wg7 N) (q08 (q08 (q13 Tryz.f137))) (w31.loops.drop 1) (j84 N)))
def zg6 (N:Nat)(s:List UInt8)(l2 l3:(List UInt8)→Int→Option Int)(K0:Int→Option Int)(e:Int):Option Int :=
 match e with
 | at_1 =>
  bif decide (at_1 < (s.length:Int)) then
   bif inR at_1 s.length then
   (wc2 N (q38 s at_1)).bind fun r =>
   bif r then
    bif q27 (at_1 + 1) then
    K0 (at_1 + 1)
    else none
   else
    bif q27 (at_1 + 1) then
    bif decide ((at_1 + 1) ≥ (s.length:Int)) then
     some at_1
    else
     bif inR at_1 s.length then
     bif ((q38 s at_1) != 46) then
      some at_1
     else
      bif q27 (at_1 + 1) then
      bif inR (at_1 + 1) s.length then
      (wc2 N (q38 s (at_1 + 1))).bind fun r1 =>
      bif (!r1) then
       some at_1
      else
       bif q27 (at_1 + 1) then
       l2 s (at_1 + 1)
       else none
      else none
      else none
     else none
    else none
   else none
  else
   bif q27 (at_1 + 1) then
   bif decide ((at_1 + 1) ≥ (s.length:Int)) then
    some at_1
   else
    bif inR at_1 s.length then
    bif ((q38 s at_1) != 46) then
     some at_1
    else
     bif q27 (at_1 + 1) then
     bif inR (at_1 + 1) s.length then
     (wc2 N (q38 s (at_1 + 1))).bind fun r3 =>
     bif (!r3) then
      some at_1
     else
      bif q27 (at_1 + 1) then
      l3 s (at_1 + 1)
      else none
     else none
     else none
    else none
   else none
def wu6 (N:Nat)(s:List UInt8)(K0:Int→Option Int)(e:Int):Option Int:=zg6 N s (fun s e=>q87 (w32 N s) N e) (fun s e=>q87 (wz7 N s) N e) K0 e
theorem un7 (N:Nat)(s:List UInt8)(n_:Nat)(e:Int):q58 (y29 N ) n_ ((z22 s) e) ((wu9 s) e)=q87 (wu6 N s ) n_ e :=
 q41 (z22 s) (wu9 s) (by
  intro K e
  have h:(y29 N ) K ((z22 s) e) ((wu9 s) e)=zg6 N s (fun s e=>q58 (xm8 N ) N (jy4 s e) (jx2 s e)) (fun s e=>q58 (xo3 N ) N (jx1 s e) (y35 s e)) (fun e=>K ((z22 s) e) ((wu9 s) e)) e:=by kernel_rfl
  rw [h]
  simp only [wu6,us1,uo2] <;> rfl) n_ e
def jc3 (N:Nat)(s:List UInt8)(at_:Int)(l1:(List UInt8)→Int→Option Int):Option Int :=
 l1 s at_
def wx6 (N:Nat)(s:List UInt8)(at_:Int):Option Int:=jc3 N s at_ (fun s e=>q87 (wu6 N s) N e)
noncomputable def vk3 (N:Nat)(s:List UInt8)(at_:Int):Option (RT [(.int .i64)]):=q24 DR Tryz.prog N (yp2 N) w31 Tryz.f137 (q13 Tryz.f137) (RT [(.int .i64)]) (qd4 [.str,(.int .i64)] (s,at_,())) [] (q42 [(.int .i64)])
theorem ue6 (N:Nat)(s:List UInt8)(at_:Int):vk3 N s at_=wx6 N s at_:=by
 have h:vk3 N s at_=jc3 N s at_ (fun s e=>q58 (y29 N ) N (z22 s e) (wu9 s e)):=by kernel_rfl
 rw [h]
 simp only [wx6,un7] <;> rfl
def vw6 (m:(List UInt8)→Int→Option Int):Ent:=q37 [.str,(.int .i64)] [(.int .i64)] fun (x:Els [.str,(.int .i64)])=>m x.1 x.2.1
def yx1 (N:Nat):Ent:=vw6 (wx6 N)
theorem v81 (N:Nat):q17 Tryz.prog 137 (yx1 N):=q16 (ur5 N) Tryz.func137 rfl (by kernel_rfl) fun (x:Els [.str,(.int .i64)])=>ue6 N x.1 x.2.1
def kq2 :LH:=⟨[(0,.int .i64),(2,.asis),(3,.bool),(4,.own (.int .i64) 504 3 1)],[],[.cells [.bool,.lst (.int .i64)]]⟩
def uj2 :FH:=⟨[kq2],[],[],[],false,[],[]⟩
noncomputable def k97 (N:Nat):q49:=tab []
theorem r1_Of_Ts (N:Nat):q14 Tryz.prog (k97 N):=q28 _
noncomputable def kk8 :Sc:=wm4 Tryz.prog uj2
noncomputable def kn1 (N:Nat):Cfg:=⟨N,k97 N,0⟩
noncomputable def r1_Of_fin (N:Nat):Exit→List TV→List TOb→Option qa2:=fin Tryz.prog 0 Tryz.f209.results.toList (q42 [ql5])
def ui1 (neg qa5:Bool)(z40:List Int)(e:Int×List Int):List TV:=match e with
 | (n1,d)=>frm 25 [(0,.int .i64 n1),(2,.ref 0 0),(3,.bool neg),(4,.tl (.int .i64) d (.own 504 3 1))]
def ue8 (neg qa5:Bool)(z40:List Int)(e:Int×List Int):List TOb:=match e with
 | (n1,d)=>[.cells [.bool qa5,.tl (.int .i64) z40 .unk] 265 true]
noncomputable def km3 (N:Nat):(List TV→List TOb→Option qa2)→List TV→List TOb→Option qa2:=w66 DR kk8 (kn1 N) (qm3 (qc6 (q88 (q08 (q08 (q08 (q13 Tryz.f209))))))) kq2 (uj2.loops.drop 1) (qj9 0 (qc5 DR kk8 (kn1 N) (q08 (q08 (q08 (q08 (q13 Tryz.f209))))) (uj2.loops.drop 1) (r1_Of_fin N)))
def ug5 (N:Nat)(neg qa5:Bool)(z40:List Int)(K0:(Int×List Int)→Option qa2)(e:Int×List Int):Option qa2 :=
 match e with
 | (n1,d) =>
  bif (n1 != 0) then
   bif decide ((Int.tmod n1 10000) < 0) then
    bif q27 (0 - (Int.tmod n1 10000)) then
    bif w33 (d.length + [0 - (Int.tmod n1 10000)].length) 17592186044416 then
    bif q27 (Int.tdiv n1 10000) then
    K0 (Int.tdiv n1 10000,(d ++ [0 - (Int.tmod n1 10000)]))
    else none
    else none
    else none
   else
    bif w33 (d.length + [Int.tmod n1 10000].length) 17592186044416 then
    bif q27 (Int.tdiv n1 10000) then
    K0 (Int.tdiv n1 10000,(d ++ [Int.tmod n1 10000]))
    else none
    else none
  else
   some (neg,d,())
theorem r1_Of_l1 (N:Nat)(neg qa5:Bool)(z40:List Int)(n_:Nat)(e:Int×List Int):q58 (km3 N ) n_ ((ui1 neg qa5 z40) e) ((ue8 neg qa5 z40) e)=q87 (ug5 N neg qa5 z40 ) n_ e :=
 q41 (ui1 neg qa5 z40) (ue8 neg qa5 z40) (by intro K e; obtain ⟨n1,d⟩:=e; kernel_rfl) n_ e
def kc4 (N:Nat)(n:Int)(l1:Bool→Bool→(List Int)→(Int×List Int)→Option qa2):Option qa2 :=
 l1 (decide (n < 0)) false [] (n,[])
def qz5 (N:Nat)(n:Int):Option qa2:=kc4 N n (fun neg qa5 z40 e=>q87 (ug5 N neg qa5 z40) N e)
noncomputable def r1_Of_C (N:Nat)(n:Int):Option (RT [ql5]):=q24 DR Tryz.prog N (k97 N) uj2 Tryz.f209 (q13 Tryz.f209) (RT [ql5]) (qd4 [(.int .i64)] (n,())) [] (q42 [ql5])
theorem r1_Of_run (N:Nat)(n:Int):r1_Of_C N n=qz5 N n:=by
 have h:r1_Of_C N n=kc4 N n (fun neg qa5 z40 e=>q58 (km3 N ) N (ui1 neg qa5 z40 e) (ue8 neg qa5 z40 e)):=by kernel_rfl
 rw [h]
 simp only [qz5,r1_Of_l1] <;> rfl
def kx2 (m:Int→Option qa2):Ent:=q37 [(.int .i64)] [ql5] fun (x:Els [(.int .i64)])=>m x.1
def zy4 (N:Nat):Ent:=kx2 (qz5 N)
theorem zo5 (N:Nat):q17 Tryz.prog 209 (zy4 N):=q16 (r1_Of_Ts N) Tryz.func209 rfl (by kernel_rfl) fun (x:Els [(.int .i64)])=>r1_Of_run N x.1
def ko3 :LH:=⟨[(0,.lst (.int .i64)),(1,.lst (.int .i64)),(5,.own (.int .i64) 505 3 1),(6,.int .i64),(7,.int .i64)],[],[]⟩
def ug2 :FH:=⟨[ko3],[],[],[],false,[],[]⟩
noncomputable def kh2 (N:Nat):q49:=tab []
theorem r1_up_Ts (N:Nat):q14 Tryz.prog (kh2 N):=q28 _
noncomputable def ko7 :Sc:=wm4 Tryz.prog ug2
noncomputable def kq4 (N:Nat):Cfg:=⟨N,kh2 N,0⟩
noncomputable def r1_up_fin (N:Nat):Exit→List TV→List TOb→Option (List Int):=fin Tryz.prog 0 Tryz.f276.results.toList (q42 [(.list (.int .i64))])
def ul6 (a b:List Int)(e:List Int×Int×Int):List TV:=match e with
 | (out,more,i)=>frm 52 [(0,.tl (.int .i64) a .unk),(1,.tl (.int .i64) b .unk),(5,.tl (.int .i64) out (.own 505 3 1)),(6,.int .i64 more),(7,.int .i64 i)]
def ud1 (a b:List Int)(e:List Int×Int×Int):List TOb:=match e with
 | (out,more,i)=>[]
noncomputable def ko6 (N:Nat):(List TV→List TOb→Option (List Int))→List TV→List TOb→Option (List Int):=w66 DR ko7 (kq4 N) (qm3 (qc6 (q08 (q88 (q08 (q08 (q08 (q13 Tryz.f276)))))))) ko3 (ug2.loops.drop 1) (qj9 0 (qc5 DR ko7 (kq4 N) (q08 (q08 (q08 (q08 (q13 Tryz.f276))))) (ug2.loops.drop 1) (r1_up_fin N)))
def uj6 (N:Nat)(a b:List Int)(K0:(List Int×Int×Int)→Option (List Int))(e:List Int×Int×Int):Option (List Int) :=
 match e with
 | (out,more,i) =>
  bif decide (i < (a.length:Int)) then
   bif decide (i < (a.length:Int)) then
    bif inR i a.length then
    bif q27 (more + (q25 a i 0)) then
    bif decide (i < (b.length:Int)) then
     bif inR i b.length then
     bif q27 ((more + (q25 a i 0)) + (q25 b i 0)) then
     bif w33 (out.length + [Int.tmod ((more + (q25 a i 0)) + (q25 b i 0)) 10000].length) 17592186044416 then
     bif q27 (Int.tdiv ((more + (q25 a i 0)) + (q25 b i 0)) 10000) then
     bif q27 (i + 1) then
     K0 ((out ++ [Int.tmod ((more + (q25 a i 0)) + (q25 b i 0)) 10000]),Int.tdiv ((more + (q25 a i 0)) + (q25 b i 0)) 10000,i + 1)
     else none
     else none
     else none
     else none
     else none
    else
     bif w33 (out.length + [Int.tmod (more + (q25 a i 0)) 10000].length) 17592186044416 then
     bif q27 (Int.tdiv (more + (q25 a i 0)) 10000) then
     bif q27 (i + 1) then
     K0 ((out ++ [Int.tmod (more + (q25 a i 0)) 10000]),Int.tdiv (more + (q25 a i 0)) 10000,i + 1)
     else none
     else none
     else none
    else none
    else none
   else
    bif decide (i < (b.length:Int)) then
     bif inR i b.length then
     bif q27 (more + (q25 b i 0)) then
     bif w33 (out.length + [Int.tmod (more + (q25 b i 0)) 10000].length) 17592186044416 then
     bif q27 (Int.tdiv (more + (q25 b i 0)) 10000) then
     bif q27 (i + 1) then
     K0 ((out ++ [Int.tmod (more + (q25 b i 0)) 10000]),Int.tdiv (more + (q25 b i 0)) 10000,i + 1)
     else none
     else none
     else none
     else none
     else none
    else
     bif w33 (out.length + [Int.tmod more 10000].length) 17592186044416 then
     bif q27 (Int.tdiv more 10000) then
     bif q27 (i + 1) then
     K0 ((out ++ [Int.tmod more 10000]),Int.tdiv more 10000,i + 1)
     else none
     else none
     else none
  else
   bif decide (i < (b.length:Int)) then
    bif decide (i < (a.length:Int)) then
     bif inR i a.length then
     bif q27 (more + (q25 a i 0)) then
     bif decide (i < (b.length:Int)) then
      bif inR i b.length then
      bif q27 ((more + (q25 a i 0)) + (q25 b i 0)) then
      bif w33 (out.length + [Int.tmod ((more + (q25 a i 0)) + (q25 b i 0)) 10000].length) 17592186044416 then
      bif q27 (Int.tdiv ((more + (q25 a i 0)) + (q25 b i 0)) 10000) then
      bif q27 (i + 1) then
      K0 ((out ++ [Int.tmod ((more + (q25 a i 0)) + (q25 b i 0)) 10000]),Int.tdiv ((more + (q25 a i 0)) + (q25 b i 0)) 10000,i + 1)
      else none
      else none
      else none
      else none
      else none
     else
      bif w33 (out.length + [Int.tmod (more + (q25 a i 0)) 10000].length) 17592186044416 then
      bif q27 (Int.tdiv (more + (q25 a i 0)) 10000) then
      bif q27 (i + 1) then
      K0 ((out ++ [Int.tmod (more + (q25 a i 0)) 10000]),Int.tdiv (more + (q25 a i 0)) 10000,i + 1)
      else none
      else none
      else none
     else none
     else none
    else
     bif decide (i < (b.length:Int)) then
      bif inR i b.length then
      bif q27 (more + (q25 b i 0)) then
      bif w33 (out.length + [Int.tmod (more + (q25 b i 0)) 10000].length) 17592186044416 then
      bif q27 (Int.tdiv (more + (q25 b i 0)) 10000) then
      bif q27 (i + 1) then
      K0 ((out ++ [Int.tmod (more + (q25 b i 0)) 10000]),Int.tdiv (more + (q25 b i 0)) 10000,i + 1)
      else none
      else none
      else none
      else none
      else none
     else
      bif w33 (out.length + [Int.tmod more 10000].length) 17592186044416 then
      bif q27 (Int.tdiv more 10000) then
      bif q27 (i + 1) then
      K0 ((out ++ [Int.tmod more 10000]),Int.tdiv more 10000,i + 1)
      else none
      else none
      else none
   else
    bif decide (more > 0) then
     bif decide (i < (a.length:Int)) then
      bif inR i a.length then
      bif q27 (more + (q25 a i 0)) then
      bif decide (i < (b.length:Int)) then
       bif inR i b.length then
       bif q27 ((more + (q25 a i 0)) + (q25 b i 0)) then
       bif w33 (out.length + [Int.tmod ((more + (q25 a i 0)) + (q25 b i 0)) 10000].length) 17592186044416 then
       bif q27 (Int.tdiv ((more + (q25 a i 0)) + (q25 b i 0)) 10000) then
       bif q27 (i + 1) then
       K0 ((out ++ [Int.tmod ((more + (q25 a i 0)) + (q25 b i 0)) 10000]),Int.tdiv ((more + (q25 a i 0)) + (q25 b i 0)) 10000,i + 1)
       else none
       else none
       else none
       else none
       else none
      else
       bif w33 (out.length + [Int.tmod (more + (q25 a i 0)) 10000].length) 17592186044416 then
       bif q27 (Int.tdiv (more + (q25 a i 0)) 10000) then
       bif q27 (i + 1) then
       K0 ((out ++ [Int.tmod (more + (q25 a i 0)) 10000]),Int.tdiv (more + (q25 a i 0)) 10000,i + 1)
       else none
       else none
       else none
      else none
      else none
     else
      bif decide (i < (b.length:Int)) then
       bif inR i b.length then
       bif q27 (more + (q25 b i 0)) then
       bif w33 (out.length + [Int.tmod (more + (q25 b i 0)) 10000].length) 17592186044416 then
       bif q27 (Int.tdiv (more + (q25 b i 0)) 10000) then
       bif q27 (i + 1) then
       K0 ((out ++ [Int.tmod (more + (q25 b i 0)) 10000]),Int.tdiv (more + (q25 b i 0)) 10000,i + 1)
       else none
       else none
       else none
       else none
       else none
      else
       bif w33 (out.length + [Int.tmod more 10000].length) 17592186044416 then
       bif q27 (Int.tdiv more 10000) then
       bif q27 (i + 1) then
       K0 ((out ++ [Int.tmod more 10000]),Int.tdiv more 10000,i + 1)
       else none
       else none
       else none
    else
     some out
theorem r1_up_l1 (N:Nat)(a b:List Int)(n_:Nat)(e:List Int×Int×Int):q58 (ko6 N ) n_ ((ul6 a b) e) ((ud1 a b) e)=q87 (uj6 N a b ) n_ e :=
 q41 (ul6 a b) (ud1 a b) (by intro K e; obtain ⟨out,more,i⟩:=e; kernel_rfl) n_ e
def kc5 (N:Nat)(a b:List Int)(l1:(List Int)→(List Int)→(List Int×Int×Int)→Option (List Int)):Option (List Int) :=
 l1 a b ([],0,0)
def kd8 (N:Nat)(a b:List Int):Option (List Int):=kc5 N a b (fun a b e=>q87 (uj6 N a b) N e)
noncomputable def r1_up_C (N:Nat)(a b:List Int):Option (RT [(.list (.int .i64))]):=q24 DR Tryz.prog N (kh2 N) ug2 Tryz.f276 (q13 Tryz.f276) (RT [(.list (.int .i64))]) (qd4 [(.list (.int .i64)),(.list (.int .i64))] (a,b,())) [] (q42 [(.list (.int .i64))])
theorem r1_up_run (N:Nat)(a b:List Int):r1_up_C N a b=kd8 N a b:=by
 have h:r1_up_C N a b=kc5 N a b (fun a b e=>q58 (ko6 N ) N (ul6 a b e) (ud1 a b e)):=by kernel_rfl
 rw [h]
 simp only [kd8,r1_up_l1] <;> rfl
def ky0 (m:(List Int)→(List Int)→Option (List Int)):Ent:=q37 [(.list (.int .i64)),(.list (.int .i64))] [(.list (.int .i64))] fun (x:Els [(.list (.int .i64)),(.list (.int .i64))])=>m x.1 x.2.1
def vb9 (N:Nat):Ent:=ky0 (kd8 N)
theorem v78 (N:Nat):q17 Tryz.prog 276 (vb9 N):=q16 (r1_up_Ts N) Tryz.func276 rfl (by kernel_rfl) fun (x:Els [(.list (.int .i64)),(.list (.int .i64))])=>r1_up_run N x.1 x.2.1
def u16 :LH:=⟨[(0,.bool),(1,.lst (.int .i64)),(4,.asis)],[],[.cells [.bool,.lst (.int .i64)]]⟩
def x41 :FH:=⟨[u16],[],[],[],false,[],[]⟩
noncomputable def vk8 (N:Nat):q49:=tab []
theorem kx3 (N:Nat):q14 Tryz.prog (vk8 N):=q28 _
noncomputable def u00 :Sc:=wm4 Tryz.prog x41
noncomputable def u51 (N:Nat):Cfg:=⟨N,vk8 N,0⟩
noncomputable def k83 (N:Nat):Exit→List TV→List TOb→Option qa2:=fin Tryz.prog 0 Tryz.f268.results.toList (q42 [ql5])
def xh5 (neg q57:Bool)(ql6 e:List Int):List TV:=match e with
 | d1=>frm 30 [(0,.bool neg),(1,.tl (.int .i64) d1 .unk),(4,.ref 0 0)]
def x97 (neg q57:Bool)(ql6 e:List Int):List TOb:=match e with
 | d1=>[.cells [.bool q57,.tl (.int .i64) ql6 .unk] 265 true]
noncomputable def u07 (N:Nat):(List TV→List TOb→Option qa2)→List TV→List TOb→Option qa2:=w66 DR u00 (u51 N) (qm3 (qc6 (q88 (q08 (q13 Tryz.f268))))) u16 (x41.loops.drop 1) (qj9 0 (qc5 DR u00 (u51 N) (q08 (q08 (q13 Tryz.f268))) (x41.loops.drop 1) (k83 N)))
def xa6 (N:Nat)(neg q57:Bool)(ql6:List Int)(K0:(List Int)→Option qa2)(e:List Int):Option qa2 :=
 match e with
 | d1 =>
  bif decide ((d1.length:Int) > 0) then
   bif q27 ((d1.length:Int) - 1) then
   bif inR ((d1.length:Int) - 1) d1.length then
   bif ((q25 d1 ((d1.length:Int) - 1) 0) == 0) then
    bif q27 ((d1.length:Int) - 1) then
    bif upTo ((d1.length:Int) - 1) d1.length then
    K0 (d1.take ((d1.length:Int) - 1).toNat)
    else none
    else none
   else
    bif neg then
     some (decide ((d1.length:Int) > 0),d1,())
    else
     some (false,d1,())
   else none
   else none
  else
   bif neg then
    some (decide ((d1.length:Int) > 0),d1,())
   else
    some (false,d1,())
theorem ky9 (N:Nat)(neg q57:Bool)(ql6:List Int)(n_:Nat)(e:List Int):q58 (u07 N ) n_ ((xh5 neg q57 ql6) e) ((x97 neg q57 ql6) e)=q87 (xa6 N neg q57 ql6 ) n_ e :=
 q41 (xh5 neg q57 ql6) (x97 neg q57 ql6) (by intro K e; kernel_rfl) n_ e
def vh8 (N:Nat)(neg:Bool)(d:List Int)(l1:Bool→Bool→(List Int)→(List Int)→Option qa2):Option qa2 :=
 l1 neg false [] d
def wi0 (N:Nat)(neg:Bool)(d:List Int):Option qa2:=vh8 N neg d (fun neg q57 ql6 e=>q87 (xa6 N neg q57 ql6) N e)
noncomputable def ux9 (N:Nat)(neg:Bool)(d:List Int):Option (RT [ql5]):=q24 DR Tryz.prog N (vk8 N) x41 Tryz.f268 (q13 Tryz.f268) (RT [ql5]) (qd4 [.bool,(.list (.int .i64))] (neg,d,())) [] (q42 [ql5])
theorem k59 (N:Nat)(neg:Bool)(d:List Int):ux9 N neg d=wi0 N neg d:=by
 have h:ux9 N neg d=vh8 N neg d (fun neg q57 ql6 e=>q58 (u07 N ) N (xh5 neg q57 ql6 e) (x97 neg q57 ql6 e)):=by kernel_rfl
 rw [h]
 simp only [wi0,ky9] <;> rfl
def uw1 (m:Bool→(List Int)→Option qa2):Ent:=q37 [.bool,(.list (.int .i64))] [ql5] fun (x:Els [.bool,(.list (.int .i64))])=>m x.1 x.2.1
def zp5 (N:Nat):Ent:=uw1 (wi0 N)
theorem zf4 (N:Nat):q17 Tryz.prog 268 (zp5 N):=q16 (kx3 N) Tryz.func268 rfl (by kernel_rfl) fun (x:Els [.bool,(.list (.int .i64))])=>k59 N x.1 x.2.1
def vc1 :LH:=⟨[(2,.asis),(3,.asis),(4,.asis),(5,.asis),(6,.int .i64)],[],[.cells [.bool,.lst (.int .i64)],.cells [.bool,.lst (.int .i64)],.cells [.bool,.lst (.int .i64)],.cells [.bool,.lst (.int .i64)]]⟩
def uq8 :LH:=⟨[(2,.asis),(3,.asis),(4,.asis),(5,.asis),(6,.int .i64),(7,.own (.int .i64) 507 3 1),(8,.int .i64),(9,.int .i64)],[],[.cells [.bool,.lst (.int .i64)],.cells [.bool,.lst (.int .i64)],.cells [.bool,.lst (.int .i64)],.cells [.bool,.lst (.int .i64)]]⟩
def zt5 :FH:=⟨[vc1,uq8],[],[(11,⟨12,69,0,[],[]⟩)],[],false,[],[]⟩
noncomputable def ua0 (N:Nat):q49:=tab [(276,vb9 N),(268,zp5 N)]
theorem r1_Mul_Ts (N:Nat):q14 Tryz.prog (ua0 N):=q06 (v78 N) <| q06 (zf4 N) <| q28 _
noncomputable def j51 :Sc:=wm4 Tryz.prog zt5
noncomputable def zo4 (N:Nat):Cfg:=⟨N,ua0 N,0⟩
noncomputable def vz8 (N:Nat):Exit→List TV→List TOb→Option qa2:=fin Tryz.prog 0 Tryz.f247.results.toList (q42 [ql5])
def j33 (q32:Bool)(x_D:List Int)(qa1:Bool)(y_D:List Int)(q57:Bool)(ql6:List Int)(e:Int×Bool×List Int):List TV:=match e with
 | (i,qs3,zq2)=>frm 69 [(2,.ref 0 0),(3,.ref 1 0),(4,.ref 2 0),(5,.ref 3 0),(6,.int .i64 i)]
def j37 (q32:Bool)(x_D:List Int)(qa1:Bool)(y_D:List Int)(q57:Bool)(ql6:List Int)(e:Int×Bool×List Int):List TOb:=match e with
 | (i,qs3,zq2)=>[.cells [.bool q32,.tl (.int .i64) x_D .unk] 265 true,.cells [.bool qa1,.tl (.int .i64) y_D .unk] 265 true,.cells [.bool q57,.tl (.int .i64) ql6 .unk] 265 true,.cells [.bool qs3,.tl (.int .i64) zq2 .unk] 265 true]
def v93 (i:Int)(q32:Bool)(x_D:List Int)(qa1:Bool)(y_D:List Int)(q57:Bool)(ql6:List Int)(qs3:Bool)(zq2:List Int)(e:List Int×Int×Int):List TV:=match e with
 | (row,more,k)=>frm 69 [(2,.ref 0 0),(3,.ref 1 0),(4,.ref 2 0),(5,.ref 3 0),(6,.int .i64 i),(7,.tl (.int .i64) row (.own 507 3 1)),(8,.int .i64 more),(9,.int .i64 k)]
def vj0 (i:Int)(q32:Bool)(x_D:List Int)(qa1:Bool)(y_D:List Int)(q57:Bool)(ql6:List Int)(qs3:Bool)(zq2:List Int)(e:List Int×Int×Int):List TOb:=match e with
 | (row,more,k)=>[.cells [.bool q32,.tl (.int .i64) x_D .unk] 265 true,.cells [.bool qa1,.tl (.int .i64) y_D .unk] 265 true,.cells [.bool q57,.tl (.int .i64) ql6 .unk] 265 true,.cells [.bool qs3,.tl (.int .i64) zq2 .unk] 265 true]
noncomputable def k20 (N:Nat)(K0r:List TV→List TOb→Option qa2):(List TV→List TOb→Option qa2)→List TV→List TOb→Option qa2:=w66 DR j51 (zo4 N) (qm3 (qc6 (q08 (q88 (q08 (q08 (qc6 (q88 (q08 (qm3 (qc6 (q08 (q88 (q08 (q08 (q13 Tryz.f247)))))))))))))))) uq8 (zt5.loops.drop 2) (qj9 2 (qc5 DR j51 (zo4 N) (q08 (q08 (q08 (qc6 (q88 (q08 (qm3 (qc6 (q08 (q88 (q08 (q08 (q13 Tryz.f247))))))))))))) (zt5.loops.drop 2) (qj9 1 (qc5 DR j51 (zo4 N) (q08 (q08 (qm3 (qc6 (q08 (q88 (q08 (q08 (q13 Tryz.f247))))))))) (zt5.loops.drop 2) (ug3 (zo4 N) vc1 (qj9 0 (qc5 DR j51 (zo4 N) (q08 (q08 (q08 (q13 Tryz.f247)))) (zt5.loops.drop 2) (vz8 N))) K0r)))))
def v45 (N:Nat)(i:Int)(q32:Bool)(x_D:List Int)(qa1:Bool)(y_D:List Int)(q57:Bool)(ql6:List Int)(qs3:Bool)(zq2:List Int)(K0:(Int×Bool×List Int)→Option qa2)(K1:(List Int×Int×Int)→Option qa2)(e:List Int×Int×Int):Option qa2 :=
 match e with
 | (row,more,k) =>
  bif decide (k < (x_D.length:Int)) then
   bif decide (k < (x_D.length:Int)) then
    bif inR k x_D.length then
    bif inR i y_D.length then
    bif q27 ((q25 x_D k 0) * (q25 y_D i 0)) then
    bif q27 (more + ((q25 x_D k 0) * (q25 y_D i 0))) then
    bif w33 (row.length + [Int.tmod (more + ((q25 x_D k 0) * (q25 y_D i 0))) 10000].length) 17592186044416 then
    bif q27 (Int.tdiv (more + ((q25 x_D k 0) * (q25 y_D i 0))) 10000) then
    bif q27 (k + 1) then
    K1 ((row ++ [Int.tmod (more + ((q25 x_D k 0) * (q25 y_D i 0))) 10000]),Int.tdiv (more + ((q25 x_D k 0) * (q25 y_D i 0))) 10000,k + 1)
    else none
    else none
    else none
    else none
    else none
    else none
    else none
   else
    bif w33 (row.length + [Int.tmod more 10000].length) 17592186044416 then
    bif q27 (Int.tdiv more 10000) then
    bif q27 (k + 1) then
    K1 ((row ++ [Int.tmod more 10000]),Int.tdiv more 10000,k + 1)
    else none
    else none
    else none
  else
   bif decide (more > 0) then
    bif decide (k < (x_D.length:Int)) then
     bif inR k x_D.length then
     bif inR i y_D.length then
     bif q27 ((q25 x_D k 0) * (q25 y_D i 0)) then
     bif q27 (more + ((q25 x_D k 0) * (q25 y_D i 0))) then
     bif w33 (row.length + [Int.tmod (more + ((q25 x_D k 0) * (q25 y_D i 0))) 10000].length) 17592186044416 then
     bif q27 (Int.tdiv (more + ((q25 x_D k 0) * (q25 y_D i 0))) 10000) then
     bif q27 (k + 1) then
     K1 ((row ++ [Int.tmod (more + ((q25 x_D k 0) * (q25 y_D i 0))) 10000]),Int.tdiv (more + ((q25 x_D k 0) * (q25 y_D i 0))) 10000,k + 1)
     else none
     else none
     else none
     else none
     else none
     else none
     else none
    else
     bif w33 (row.length + [Int.tmod more 10000].length) 17592186044416 then
     bif q27 (Int.tdiv more 10000) then
     bif q27 (k + 1) then
     K1 ((row ++ [Int.tmod more 10000]),Int.tdiv more 10000,k + 1)
     else none
     else none
     else none
   else
    (kd8 N zq2 row).bind fun r =>
    (wi0 N false r).bind fun r1 =>
    bif q27 (i + 1) then
    K0 (i + 1,r1.1,r1.2.1)
    else none
theorem r1_Mul_l2 (N:Nat)(i:Int)(q32:Bool)(x_D:List Int)(qa1:Bool)(y_D:List Int)(q57:Bool)(ql6:List Int)(qs3:Bool)(zq2:List Int)(K0r:List TV→List TOb→Option qa2)(n_:Nat)(e:List Int×Int×Int):q58 (k20 N K0r) n_ ((v93 i q32 x_D qa1 y_D q57 ql6 qs3 zq2) e) ((vj0 i q32 x_D qa1 y_D q57 ql6 qs3 zq2) e)=q87 (v45 N i q32 x_D qa1 y_D q57 ql6 qs3 zq2 (fun a=>K0r (j33 q32 x_D qa1 y_D q57 ql6 a) (j37 q32 x_D qa1 y_D q57 ql6 a))) n_ e :=
 q41 (v93 i q32 x_D qa1 y_D q57 ql6 qs3 zq2) (vj0 i q32 x_D qa1 y_D q57 ql6 qs3 zq2) (by intro K e; obtain ⟨row,more,k⟩:=e; kernel_rfl) n_ e
noncomputable def v38 (N:Nat):(List TV→List TOb→Option qa2)→List TV→List TOb→Option qa2:=w66 DR j51 (zo4 N) (qm3 (qc6 (q08 (q88 (q08 (q08 (q13 Tryz.f247))))))) vc1 (zt5.loops.drop 1) (qj9 0 (qc5 DR j51 (zo4 N) (q08 (q08 (q08 (q13 Tryz.f247)))) (zt5.loops.drop 2) (vz8 N)))
def xk6 (N:Nat)(q32:Bool)(x_D:List Int)(qa1:Bool)(y_D:List Int)(q57:Bool)(ql6:List Int)(l2:Int→Bool→(List Int)→Bool→(List Int)→Bool→(List Int)→Bool→(List Int)→(List Int×Int×Int)→Option qa2)(K0:(Int×Bool×List Int)→Option qa2)(e:Int×Bool×List Int):Option qa2 :=
 match e with
 | (i,qs3,zq2) =>
  bif decide (i < (y_D.length:Int)) then
   bif js4 8 i i then
   l2 i q32 x_D qa1 y_D q57 ql6 qs3 zq2 ((List.replicate i.toNat 0),0,0)
   else none
  else
   (wi0 N (!(q32 == qa1)) zq2).bind fun r2 =>
   some r2
def x43 (N:Nat)(q32:Bool)(x_D:List Int)(qa1:Bool)(y_D:List Int)(q57:Bool)(ql6:List Int)(K0:(Int×Bool×List Int)→Option qa2)(e:Int×Bool×List Int):Option qa2:=xk6 N q32 x_D qa1 y_D q57 ql6 (fun i q32 x_D qa1 y_D q57 ql6 qs3 zq2 e=>q87 (v45 N i q32 x_D qa1 y_D q57 ql6 qs3 zq2 K0) N e) K0 e
theorem r1_Mul_l1 (N:Nat)(q32:Bool)(x_D:List Int)(qa1:Bool)(y_D:List Int)(q57:Bool)(ql6:List Int)(n_:Nat)(e:Int×Bool×List Int):q58 (v38 N ) n_ ((j33 q32 x_D qa1 y_D q57 ql6) e) ((j37 q32 x_D qa1 y_D q57 ql6) e)=q87 (x43 N q32 x_D qa1 y_D q57 ql6 ) n_ e :=
 q41 (j33 q32 x_D qa1 y_D q57 ql6) (j37 q32 x_D qa1 y_D q57 ql6) (by
  intro K e
  have h:(v38 N ) K ((j33 q32 x_D qa1 y_D q57 ql6) e) ((j37 q32 x_D qa1 y_D q57 ql6) e)=xk6 N q32 x_D qa1 y_D q57 ql6 (fun i q32 x_D qa1 y_D q57 ql6 qs3 zq2 e=>q58 (k20 N K) N (v93 i q32 x_D qa1 y_D q57 ql6 qs3 zq2 e) (vj0 i q32 x_D qa1 y_D q57 ql6 qs3 zq2 e)) (fun e=>K ((j33 q32 x_D qa1 y_D q57 ql6) e) ((j37 q32 x_D qa1 y_D q57 ql6) e)) e:=by obtain ⟨i,qs3,zq2⟩:=e; kernel_rfl
  rw [h]
  simp only [x43,r1_Mul_l2] <;> rfl) n_ e
def u73 (N:Nat)(x y:qa2)(l1:Bool→(List Int)→Bool→(List Int)→Bool→(List Int)→(Int×Bool×List Int)→Option qa2):Option qa2 :=
 l1 x.1 x.2.1 y.1 y.2.1 false [] (0,false,[])
def wg1 (N:Nat)(x y:qa2):Option qa2:=u73 N x y (fun q32 x_D qa1 y_D q57 ql6 e=>q87 (x43 N q32 x_D qa1 y_D q57 ql6) N e)
noncomputable def ko8 (N:Nat)(x y:qa2):Option (RT [ql5]):=q24 DR Tryz.prog N (ua0 N) zt5 Tryz.f247 (q13 Tryz.f247) (RT [ql5]) (qd4 [ql5,ql5] (x,y,())) [] (q42 [ql5])
theorem kr0 (N:Nat)(x y:qa2):ko8 N x y=wg1 N x y:=by
 have h:ko8 N x y=u73 N x y (fun q32 x_D qa1 y_D q57 ql6 e=>q58 (v38 N ) N (j33 q32 x_D qa1 y_D q57 ql6 e) (j37 q32 x_D qa1 y_D q57 ql6 e)):=by kernel_rfl
 rw [h]
 simp only [wg1,r1_Mul_l1] <;> rfl
def kh4 (m:qa2→qa2→Option qa2):Ent:=q37 [ql5,ql5] [ql5] fun (x:Els [ql5,ql5])=>m x.1 x.2.1
def xf0 (N:Nat):Ent:=kh4 (wg1 N)
theorem xn1 (N:Nat):q17 Tryz.prog 247 (xf0 N):=q16 (r1_Mul_Ts N) Tryz.func247 rfl (by kernel_rfl) fun (x:Els [ql5,ql5])=>kr0 N x.1 x.2.1
def kj6 :LH:=⟨[(0,.lst (.int .i64)),(1,.lst (.int .i64)),(5,.int .i64)],[],[]⟩
def ui4 :FH:=⟨[kj6],[],[(6,⟨8,41,0,[],[]⟩),(7,⟨8,41,0,[],[]⟩)],[],false,[],[]⟩
noncomputable def kd1 (N:Nat):q49:=tab []
theorem r1_by_Ts (N:Nat):q14 Tryz.prog (kd1 N):=q28 _
noncomputable def kl3 :Sc:=wm4 Tryz.prog ui4
noncomputable def kq1 (N:Nat):Cfg:=⟨N,kd1 N,0⟩
noncomputable def r1_by_fin (N:Nat):Exit→List TV→List TOb→Option Int:=fin Tryz.prog 0 Tryz.f277.results.toList (q42 [(.int .i64)])
def ue5 (a b:List Int)(e:Int):List TV:=match e with
 | i=>frm 41 [(0,.tl (.int .i64) a .unk),(1,.tl (.int .i64) b .unk),(5,.int .i64 i)]
def uk9 (a b:List Int)(e:Int):List TOb:=match e with
 | i=>[]
noncomputable def kj5 (N:Nat):(List TV→List TOb→Option Int)→List TV→List TOb→Option Int:=w66 DR kl3 (kq1 N) (qm3 (qc6 (q08 (q88 (q08 (q08 (q13 Tryz.f277))))))) kj6 (ui4.loops.drop 1) (qj9 0 (qc5 DR kl3 (kq1 N) (q08 (q08 (q08 (q13 Tryz.f277)))) (ui4.loops.drop 1) (r1_by_fin N)))
def uh4 (N:Nat)(a b:List Int)(K0:Int→Option Int)(e:Int):Option Int :=
 match e with
 | i =>
  bif decide (i ≥ 0) then
   bif inR i a.length then
   bif inR i b.length then
   bif ((q25 a i 0) != (q25 b i 0)) then
    bif inR i a.length then
    bif inR i b.length then
    bif q27 ((q25 a i 0) - (q25 b i 0)) then
    some ((q25 a i 0) - (q25 b i 0))
    else none
    else none
    else none
   else
    bif q27 (i - 1) then
    K0 (i - 1)
    else none
   else none
   else none
  else
   some 0
theorem r1_by_l1 (N:Nat)(a b:List Int)(n_:Nat)(e:Int):q58 (kj5 N ) n_ ((ue5 a b) e) ((uk9 a b) e)=q87 (uh4 N a b ) n_ e :=
 q41 (ue5 a b) (uk9 a b) (by intro K e; kernel_rfl) n_ e
def k86 (N:Nat)(a b:List Int)(l1:(List Int)→(List Int)→Int→Option Int):Option Int :=
 bif ((a.length:Int) != (b.length:Int)) then
  bif q27 ((a.length:Int) - (b.length:Int)) then
  some ((a.length:Int) - (b.length:Int))
  else none
 else
  bif q27 ((a.length:Int) - 1) then
  l1 a b ((a.length:Int) - 1)
  else none
def ky7 (N:Nat)(a b:List Int):Option Int:=k86 N a b (fun a b e=>q87 (uh4 N a b) N e)
noncomputable def r1_by_C (N:Nat)(a b:List Int):Option (RT [(.int .i64)]):=q24 DR Tryz.prog N (kd1 N) ui4 Tryz.f277 (q13 Tryz.f277) (RT [(.int .i64)]) (qd4 [(.list (.int .i64)),(.list (.int .i64))] (a,b,())) [] (q42 [(.int .i64)])
theorem r1_by_run (N:Nat)(a b:List Int):r1_by_C N a b=ky7 N a b:=by
 have h:r1_by_C N a b=k86 N a b (fun a b e=>q58 (kj5 N ) N (ue5 a b e) (uk9 a b e)):=by kernel_rfl
 rw [h]
 simp only [ky7,r1_by_l1] <;> rfl
def kv0 (m:(List Int)→(List Int)→Option Int):Ent:=q37 [(.list (.int .i64)),(.list (.int .i64))] [(.int .i64)] fun (x:Els [(.list (.int .i64)),(.list (.int .i64))])=>m x.1 x.2.1
def k49 (N:Nat):Ent:=kv0 (ky7 N)
theorem k68 (N:Nat):q17 Tryz.prog 277 (k49 N):=q16 (r1_by_Ts N) Tryz.func277 rfl (by kernel_rfl) fun (x:Els [(.list (.int .i64)),(.list (.int .i64))])=>r1_by_run N x.1 x.2.1
def u45 :LH:=⟨[(0,.lst (.int .i64)),(1,.lst (.int .i64)),(5,.own (.int .i64) 505 3 1),(6,.int .i64),(7,.int .i64)],[],[]⟩
def x29 :FH:=⟨[u45],[],[],[],false,[],[]⟩
noncomputable def va3 (N:Nat):q49:=tab []
theorem kw7 (N:Nat):q14 Tryz.prog (va3 N):=q28 _
noncomputable def u38 :Sc:=wm4 Tryz.prog x29
noncomputable def u17 (N:Nat):Cfg:=⟨N,va3 N,0⟩
noncomputable def kg1 (N:Nat):Exit→List TV→List TOb→Option (List Int):=fin Tryz.prog 0 Tryz.f278.results.toList (q42 [(.list (.int .i64))])
def xh9 (a b:List Int)(e:List Int×Int×Int):List TV:=match e with
 | (out,owed,i)=>frm 40 [(0,.tl (.int .i64) a .unk),(1,.tl (.int .i64) b .unk),(5,.tl (.int .i64) out (.own 505 3 1)),(6,.int .i64 owed),(7,.int .i64 i)]
def xf6 (a b:List Int)(e:List Int×Int×Int):List TOb:=match e with
 | (out,owed,i)=>[]
noncomputable def vy1 (N:Nat):(List TV→List TOb→Option (List Int))→List TV→List TOb→Option (List Int):=w66 DR u38 (u17 N) (qm3 (qc6 (q08 (q88 (q08 (q08 (q08 (q13 Tryz.f278)))))))) u45 (x29.loops.drop 1) (qj9 0 (qc5 DR u38 (u17 N) (q08 (q08 (q08 (q08 (q13 Tryz.f278))))) (x29.loops.drop 1) (kg1 N)))
def xf7 (N:Nat)(a b:List Int)(K0:(List Int×Int×Int)→Option (List Int))(e:List Int×Int×Int):Option (List Int) :=
 match e with
 | (out,owed,i) =>
  bif decide (i < (a.length:Int)) then
   bif inR i a.length then
   bif q27 ((q25 a i 0) - owed) then
   bif decide (i < (b.length:Int)) then
    bif inR i b.length then
    bif q27 (((q25 a i 0) - owed) - (q25 b i 0)) then
    bif decide ((((q25 a i 0) - owed) - (q25 b i 0)) < 0) then
     bif q27 ((((q25 a i 0) - owed) - (q25 b i 0)) + 10000) then
     bif w33 (out.length + [(((q25 a i 0) - owed) - (q25 b i 0)) + 10000].length) 17592186044416 then
     bif q27 (i + 1) then
     K0 ((out ++ [(((q25 a i 0) - owed) - (q25 b i 0)) + 10000]),1,i + 1)
     else none
     else none
     else none
    else
     bif w33 (out.length + [((q25 a i 0) - owed) - (q25 b i 0)].length) 17592186044416 then
     bif q27 (i + 1) then
     K0 ((out ++ [((q25 a i 0) - owed) - (q25 b i 0)]),0,i + 1)
     else none
     else none
    else none
    else none
   else
    bif decide (((q25 a i 0) - owed) < 0) then
     bif q27 (((q25 a i 0) - owed) + 10000) then
     bif w33 (out.length + [((q25 a i 0) - owed) + 10000].length) 17592186044416 then
     bif q27 (i + 1) then
     K0 ((out ++ [((q25 a i 0) - owed) + 10000]),1,i + 1)
     else none
     else none
     else none
    else
     bif w33 (out.length + [(q25 a i 0) - owed].length) 17592186044416 then
     bif q27 (i + 1) then
     K0 ((out ++ [(q25 a i 0) - owed]),0,i + 1)
     else none
     else none
   else none
   else none
  else
   some out
theorem kv1 (N:Nat)(a b:List Int)(n_:Nat)(e:List Int×Int×Int):q58 (vy1 N ) n_ ((xh9 a b) e) ((xf6 a b) e)=q87 (xf7 N a b ) n_ e :=
 q41 (xh9 a b) (xf6 a b) (by intro K e; obtain ⟨out,owed,i⟩:=e; kernel_rfl) n_ e
def vg4 (N:Nat)(a b:List Int)(l1:(List Int)→(List Int)→(List Int×Int×Int)→Option (List Int)):Option (List Int) :=
 l1 a b ([],0,0)
def yq8 (N:Nat)(a b:List Int):Option (List Int):=vg4 N a b (fun a b e=>q87 (xf7 N a b) N e)
noncomputable def us5 (N:Nat)(a b:List Int):Option (RT [(.list (.int .i64))]):=q24 DR Tryz.prog N (va3 N) x29 Tryz.f278 (q13 Tryz.f278) (RT [(.list (.int .i64))]) (qd4 [(.list (.int .i64)),(.list (.int .i64))] (a,b,())) [] (q42 [(.list (.int .i64))])
theorem k91 (N:Nat)(a b:List Int):us5 N a b=yq8 N a b:=by
 have h:us5 N a b=vg4 N a b (fun a b e=>q58 (vy1 N ) N (xh9 a b e) (xf6 a b e)):=by kernel_rfl
 rw [h]
 simp only [yq8,kv1] <;> rfl
def k39 (m:(List Int)→(List Int)→Option (List Int)):Ent:=q37 [(.list (.int .i64)),(.list (.int .i64))] [(.list (.int .i64))] fun (x:Els [(.list (.int .i64)),(.list (.int .i64))])=>m x.1 x.2.1
def vh7 (N:Nat):Ent:=k39 (yq8 N)
theorem u65 (N:Nat):q17 Tryz.prog 278 (vh7 N):=q16 (kw7 N) Tryz.func278 rfl (by kernel_rfl) fun (x:Els [(.list (.int .i64)),(.list (.int .i64))])=>k91 N x.1 x.2.1
def r1_Add_H :FH:=⟨[],[],[(2,⟨7,40,0,[],[]⟩),(4,⟨7,40,0,[],[]⟩),(5,⟨7,40,0,[],[]⟩)],[],false,[],[]⟩
noncomputable def kj8 (N:Nat):q49:=tab [(276,vb9 N),(268,zp5 N),(277,k49 N),(278,vh7 N)]
theorem r1_Add_Ts (N:Nat):q14 Tryz.prog (kj8 N):=q06 (v78 N) <| q06 (zf4 N) <| q06 (k68 N) <| q06 (u65 N) <| q28 _
def zl3 (N:Nat)(x y:qa2):Option qa2 :=
 bif (x.1 == y.1) then
  (kd8 N x.2.1 y.2.1).bind fun r =>
  (wi0 N x.1 r).bind fun r1 =>
  some r1
 else
  (ky7 N x.2.1 y.2.1).bind fun r2 =>
  bif decide (r2 ≥ 0) then
   (yq8 N x.2.1 y.2.1).bind fun r3 =>
   (wi0 N x.1 r3).bind fun r4 =>
   some r4
  else
   (yq8 N y.2.1 x.2.1).bind fun r5 =>
   (wi0 N y.1 r5).bind fun r6 =>
   some r6
noncomputable def r1_Add_C (N:Nat)(x y:qa2):Option (RT [ql5]):=q24 DR Tryz.prog N (kj8 N) r1_Add_H Tryz.f246 (q13 Tryz.f246) (RT [ql5]) (qd4 [ql5,ql5] (x,y,())) [] (q42 [ql5])
theorem ky2 (N:Nat)(x y:qa2):r1_Add_C N x y=zl3 N x y:=by kernel_rfl
def ki1 (m:qa2→qa2→Option qa2):Ent:=q37 [ql5,ql5] [ql5] fun (x:Els [ql5,ql5])=>m x.1 x.2.1
def xl1 (N:Nat):Ent:=ki1 (zl3 N)
theorem xv1 (N:Nat):q17 Tryz.prog 246 (xl1 N):=q16 (r1_Add_Ts N) Tryz.func246 rfl (by kernel_rfl) fun (x:Els [ql5,ql5])=>ky2 N x.1 x.2.1
def r1_Neg_H :FH:=⟨[],[],[],[],false,[],[]⟩
noncomputable def kj4 (N:Nat):q49:=tab [(268,zp5 N)]
theorem r1_Neg_Ts (N:Nat):q14 Tryz.prog (kj4 N):=q06 (zf4 N) <| q28 _
def wj8 (N:Nat)(x:qa2):Option qa2 :=
 (wi0 N (!x.1) x.2.1).bind fun r =>
 some r
noncomputable def r1_Neg_C (N:Nat)(x:qa2):Option (RT [ql5]):=q24 DR Tryz.prog N (kj4 N) r1_Neg_H Tryz.f248 (q13 Tryz.f248) (RT [ql5]) (qd4 [ql5] (x,())) [] (q42 [ql5])
theorem kx0 (N:Nat)(x:qa2):r1_Neg_C N x=wj8 N x:=by kernel_rfl
def ki3 (m:qa2→Option qa2):Ent:=q37 [ql5] [ql5] fun (x:Els [ql5])=>m x.1
def xi6 (N:Nat):Ent:=ki3 (wj8 N)
theorem xp5 (N:Nat):q17 Tryz.prog 248 (xi6 N):=q16 (r1_Neg_Ts N) Tryz.func248 rfl (by kernel_rfl) fun (x:Els [ql5])=>kx0 N x.1
def zs7 :LH:=⟨[(0,.str),(2,.asis),(5,.asis),(6,.int .i64),(7,.int .i64),(8,.bool),(9,.int .i64)],[],[.cells [.bool,.lst (.int .i64)],.cells [.bool,.lst (.int .i64)]]⟩
def zt7 :LH:=⟨[(0,.str),(2,.asis),(5,.asis),(7,.int .i64),(8,.bool),(9,.int .i64),(10,.int .i64),(11,.int .i64)],[],[.cells [.bool,.lst (.int .i64)],.cells [.bool,.lst (.int .i64)]]⟩
def qe0 :FH:=⟨[zs7,zt7],[],[(12,⟨8,110,0,[],[]⟩),(21,⟨2,110,0,[],[]⟩)],[],false,[],[]⟩
noncomputable def ys9 (N:Nat):q49:=tab [(209,zy4 N),(247,xf0 N),(246,xl1 N),(248,xi6 N)]
theorem k14 (N:Nat):q14 Tryz.prog (ys9 N):=q06 (zo5 N) <| q06 (xn1 N) <| q06 (xv1 N) <| q06 (xp5 N) <| q28 _
noncomputable def qf2 :Sc:=wm4 Tryz.prog qe0
noncomputable def qf0 (N:Nat):Cfg:=⟨N,ys9 N,0⟩
noncomputable def w46 (N:Nat):Exit→List TV→List TOb→Option OX4:=fin Tryz.prog 0 Tryz.f201.results.toList (q42 [ql5,.bool,.bool])
def wv7 (s:List UInt8)(neg2:Bool)(first2:Int)(qa8:Bool)(qy9:List Int)(e:Int×Int×Bool×List Int):List TV:=match e with
 | (at_2,point2,x_Neg4,x_D4)=>frm 110 [(0,.str s),(2,.ref 0 0),(5,.ref 1 0),(6,.int .i64 at_2),(7,.int .i64 point2),(8,.bool neg2),(9,.int .i64 first2)]
def wv3 (s:List UInt8)(neg2:Bool)(first2:Int)(qa8:Bool)(qy9:List Int)(e:Int×Int×Bool×List Int):List TOb:=match e with
 | (at_2,point2,x_Neg4,x_D4)=>[.cells [.bool qa8,.tl (.int .i64) qy9 .unk] 265 true,.cells [.bool x_Neg4,.tl (.int .i64) x_D4 .unk] 265 true]
def jt0 (s:List UInt8)(point2:Int)(neg2:Bool)(first2:Int)(qa8:Bool)(qy9:List Int)(e:Int×Bool×List Int):List TV:=match e with
 | (n2,x_Neg5,x_D5)=>frm 110 [(0,.str s),(2,.ref 0 0),(5,.ref 1 0),(7,.int .i64 point2),(8,.bool neg2),(9,.int .i64 first2),(10,.int .i64 point2),(11,.int .i64 n2)]
def jz0 (s:List UInt8)(point2:Int)(neg2:Bool)(first2:Int)(qa8:Bool)(qy9:List Int)(e:Int×Bool×List Int):List TOb:=match e with
 | (n2,x_Neg5,x_D5)=>[.cells [.bool qa8,.tl (.int .i64) qy9 .unk] 265 true,.cells [.bool x_Neg5,.tl (.int .i64) x_D5 .unk] 265 true]
def z14 (s:List UInt8)(neg1:Bool)(first1:Int)(qa9:Bool)(qy8:List Int)(e:Int×Int×Bool×List Int):List TV:=match e with
 | (at_1,point1,x_Neg2,x_D2)=>frm 110 [(0,.str s),(2,.ref 0 0),(5,.ref 1 0),(6,.int .i64 at_1),(7,.int .i64 point1),(8,.bool neg1),(9,.int .i64 first1)]
def wv0 (s:List UInt8)(neg1:Bool)(first1:Int)(qa9:Bool)(qy8:List Int)(e:Int×Int×Bool×List Int):List TOb:=match e with
 | (at_1,point1,x_Neg2,x_D2)=>[.cells [.bool qa9,.tl (.int .i64) qy8 .unk] 265 true,.cells [.bool x_Neg2,.tl (.int .i64) x_D2 .unk] 265 true]
def y55 (s:List UInt8)(point1:Int)(neg1:Bool)(first1:Int)(qa9:Bool)(qy8:List Int)(e:Int×Bool×List Int):List TV:=match e with
 | (n1,x_Neg3,x_D3)=>frm 110 [(0,.str s),(2,.ref 0 0),(5,.ref 1 0),(7,.int .i64 point1),(8,.bool neg1),(9,.int .i64 first1),(10,.int .i64 point1),(11,.int .i64 n1)]
def jw5 (s:List UInt8)(point1:Int)(neg1:Bool)(first1:Int)(qa9:Bool)(qy8:List Int)(e:Int×Bool×List Int):List TOb:=match e with
 | (n1,x_Neg3,x_D3)=>[.cells [.bool qa9,.tl (.int .i64) qy8 .unk] 265 true,.cells [.bool x_Neg3,.tl (.int .i64) x_D3 .unk] 265 true]
def wv9 (s:List UInt8)(neg:Bool)(first:Int)(qa5:Bool)(z40:List Int)(e:Int×Int×Bool×List Int):List TV:=match e with
 | (at_,point,q32,x_D)=>frm 110 [(0,.str s),(2,.ref 0 0),(5,.ref 1 0),(6,.int .i64 at_),(7,.int .i64 point),(8,.bool neg),(9,.int .i64 first)]
def z25 (s:List UInt8)(neg:Bool)(first:Int)(qa5:Bool)(z40:List Int)(e:Int×Int×Bool×List Int):List TOb:=match e with
 | (at_,point,q32,x_D)=>[.cells [.bool qa5,.tl (.int .i64) z40 .unk] 265 true,.cells [.bool q32,.tl (.int .i64) x_D .unk] 265 true]
def ju3 (s:List UInt8)(point:Int)(neg:Bool)(first:Int)(qa5:Bool)(z40:List Int)(e:Int×Bool×List Int):List TV:=match e with
 | (n,x_Neg1,x_D1)=>frm 110 [(0,.str s),(2,.ref 0 0),(5,.ref 1 0),(7,.int .i64 point),(8,.bool neg),(9,.int .i64 first),(10,.int .i64 point),(11,.int .i64 n)]
def y69 (s:List UInt8)(point:Int)(neg:Bool)(first:Int)(qa5:Bool)(z40:List Int)(e:Int×Bool×List Int):List TOb:=match e with
 | (n,x_Neg1,x_D1)=>[.cells [.bool qa5,.tl (.int .i64) z40 .unk] 265 true,.cells [.bool x_Neg1,.tl (.int .i64) x_D1 .unk] 265 true]
noncomputable def xn2 (N:Nat):(List TV→List TOb→Option OX4)→List TV→List TOb→Option OX4:=w66 DR qf2 (qf0 N) (qm3 (qc6 (q08 (q08 (q08 (yu6 (q08 (q88 (q08 (q08 (q08 (q08 (q08 (q08 (q08 (q13 Tryz.f201)))))))))))))))) zt7 (qe0.loops.drop 2) (qj9 2 (qc5 DR qf2 (qf0 N) (q08 (q08 (q08 (q08 (q08 (q08 (q08 (q08 (q13 Tryz.f201))))))))) (qe0.loops.drop 2) (w46 N)))
def zq4 (N:Nat)(s:List UInt8)(point:Int)(neg:Bool)(first:Int)(qa5:Bool)(z40:List Int)(K1:(Int×Bool×List Int)→Option OX4)(e:Int×Bool×List Int):Option OX4 :=
 match e with
 | (n,x_Neg1,x_D1) =>
  bif decide (n < 4) then
   (qz5 N 10).bind fun r12 =>
   (wg1 N (x_Neg1,x_D1,()) r12).bind fun r13 =>
   bif q27 (n + 1) then
   K1 (n + 1,r13.1,r13.2.1)
   else none
  else
   bif (point == first) then
    some ((x_Neg1,x_D1,()),false,false,())
   else
    bif inR first s.length then
    bif ((q38 s first) == 48) then
     bif q27 (first + 1) then
     bif decide (point > (first + 1)) then
      some ((x_Neg1,x_D1,()),false,false,())
     else
      bif neg then
       (wj8 N (x_Neg1,x_D1,())).bind fun r14 =>
       some (r14,decide (point ≥ 0),true,())
      else
       some ((x_Neg1,x_D1,()),decide (point ≥ 0),true,())
     else none
    else
     bif neg then
      (wj8 N (x_Neg1,x_D1,())).bind fun r15 =>
      some (r15,decide (point ≥ 0),true,())
     else
      some ((x_Neg1,x_D1,()),decide (point ≥ 0),true,())
    else none
theorem uz1 (N:Nat)(s:List UInt8)(point:Int)(neg:Bool)(first:Int)(qa5:Bool)(z40:List Int)(n_:Nat)(e:Int×Bool×List Int):q58 (xn2 N ) n_ ((ju3 s point neg first qa5 z40) e) ((y69 s point neg first qa5 z40) e)=q87 (zq4 N s point neg first qa5 z40 ) n_ e :=
 q41 (ju3 s point neg first qa5 z40) (y69 s point neg first qa5 z40) (by intro K e; obtain ⟨n,x_Neg1,x_D1⟩:=e; kernel_rfl) n_ e
noncomputable def y17 (N:Nat):(List TV→List TOb→Option OX4)→List TV→List TOb→Option OX4:=w66 DR qf2 (qf0 N) (qm3 (qc6 (q88 (q08 (q08 (q08 (q08 (q08 (q13 Tryz.f201))))))))) zs7 (qe0.loops.drop 1) (qj9 0 (qc5 DR qf2 (qf0 N) (q08 (q08 (q08 (q08 (q08 (q08 (q13 Tryz.f201))))))) (qe0.loops.drop 1) (w46 N)))
def jh3 (N:Nat)(s:List UInt8)(neg:Bool)(first:Int)(qa5:Bool)(z40:List Int)(l2:(List UInt8)→Int→Bool→Int→Bool→(List Int)→(Int×Bool×List Int)→Option OX4)(K0:(Int×Int×Bool×List Int)→Option OX4)(e:Int×Int×Bool×List Int):Option OX4 :=
 match e with
 | (at_,point,q32,x_D) =>
  bif decide (at_ < (s.length:Int)) then
   bif inR at_ s.length then
   bif ((q38 s at_) == 46) then
    bif decide (point < 0) then
     bif decide (at_ > first) then
      bif q27 (at_ + 1) then
      K0 (at_ + 1,at_,q32,x_D)
      else none
     else
      bif inR at_ s.length then
      bif decide ((q38 s at_) < 48) then
       some ((q32,x_D,()),false,false,())
      else
       bif inR at_ s.length then
       bif decide ((q38 s at_) > 57) then
        some ((q32,x_D,()),false,false,())
       else
        (qz5 N 10).bind fun r =>
        (wg1 N (q32,x_D,()) r).bind fun r1 =>
        bif inR at_ s.length then
        bif q27 (IntKind.u8.wrap ((q38 s at_) - 48)) then
        (qz5 N (IntKind.u8.wrap ((q38 s at_) - 48))).bind fun r2 =>
        (zl3 N r1 r2).bind fun r3 =>
        bif q27 (at_ + 1) then
        K0 (at_ + 1,point,r3.1,r3.2.1)
        else none
        else none
        else none
       else none
      else none
    else
     bif inR at_ s.length then
     bif decide ((q38 s at_) < 48) then
      some ((q32,x_D,()),false,false,())
     else
      bif inR at_ s.length then
      bif decide ((q38 s at_) > 57) then
       some ((q32,x_D,()),false,false,())
      else
       (qz5 N 10).bind fun r4 =>
       (wg1 N (q32,x_D,()) r4).bind fun r5 =>
       bif inR at_ s.length then
       bif q27 (IntKind.u8.wrap ((q38 s at_) - 48)) then
       (qz5 N (IntKind.u8.wrap ((q38 s at_) - 48))).bind fun r6 =>
       (zl3 N r5 r6).bind fun r7 =>
       bif q27 (at_ + 1) then
       K0 (at_ + 1,point,r7.1,r7.2.1)
       else none
       else none
       else none
      else none
     else none
   else
    bif inR at_ s.length then
    bif decide ((q38 s at_) < 48) then
     some ((q32,x_D,()),false,false,())
    else
     bif inR at_ s.length then
     bif decide ((q38 s at_) > 57) then
      some ((q32,x_D,()),false,false,())
     else
      (qz5 N 10).bind fun r8 =>
      (wg1 N (q32,x_D,()) r8).bind fun r9 =>
      bif inR at_ s.length then
      bif q27 (IntKind.u8.wrap ((q38 s at_) - 48)) then
      (qz5 N (IntKind.u8.wrap ((q38 s at_) - 48))).bind fun r10 =>
      (zl3 N r9 r10).bind fun r11 =>
      bif q27 (at_ + 1) then
      K0 (at_ + 1,point,r11.1,r11.2.1)
      else none
      else none
      else none
     else none
    else none
   else none
  else
   bif decide (point ≥ 0) then
    bif q27 ((s.length:Int) - point) then
    bif q27 (((s.length:Int) - point) - 1) then
    bif decide ((((s.length:Int) - point) - 1) < 1) then
     some ((q32,x_D,()),false,false,())
    else
     bif decide ((((s.length:Int) - point) - 1) > 4) then
      some ((q32,x_D,()),false,false,())
     else
      l2 s point neg first qa5 z40 (((s.length:Int) - point) - 1,q32,x_D)
    else none
    else none
   else
    bif ((s.length:Int) == first) then
     some ((q32,x_D,()),false,false,())
    else
     bif inR first s.length then
     bif ((q38 s first) == 48) then
      bif q27 (first + 1) then
      bif decide ((s.length:Int) > (first + 1)) then
       some ((q32,x_D,()),false,false,())
      else
       bif neg then
        (wj8 N (q32,x_D,())).bind fun r16 =>
        some (r16,decide (point ≥ 0),true,())
       else
        some ((q32,x_D,()),decide (point ≥ 0),true,())
      else none
     else
      bif neg then
       (wj8 N (q32,x_D,())).bind fun r17 =>
       some (r17,decide (point ≥ 0),true,())
      else
       some ((q32,x_D,()),decide (point ≥ 0),true,())
     else none
def w24 (N:Nat)(s:List UInt8)(neg:Bool)(first:Int)(qa5:Bool)(z40:List Int)(K0:(Int×Int×Bool×List Int)→Option OX4)(e:Int×Int×Bool×List Int):Option OX4:=jh3 N s neg first qa5 z40 (fun s point neg first qa5 z40 e=>q87 (zq4 N s point neg first qa5 z40) N e) K0 e
theorem k53 (N:Nat)(s:List UInt8)(neg:Bool)(first:Int)(qa5:Bool)(z40:List Int)(n_:Nat)(e:Int×Int×Bool×List Int):q58 (y17 N ) n_ ((wv9 s neg first qa5 z40) e) ((z25 s neg first qa5 z40) e)=q87 (w24 N s neg first qa5 z40 ) n_ e :=
 q41 (wv9 s neg first qa5 z40) (z25 s neg first qa5 z40) (by
  intro K e
  have h:(y17 N ) K ((wv9 s neg first qa5 z40) e) ((z25 s neg first qa5 z40) e)=jh3 N s neg first qa5 z40 (fun s point neg first qa5 z40 e=>q58 (xn2 N ) N (ju3 s point neg first qa5 z40 e) (y69 s point neg first qa5 z40 e)) (fun e=>K ((wv9 s neg first qa5 z40) e) ((z25 s neg first qa5 z40) e)) e:=by obtain ⟨at_,point,q32,x_D⟩:=e; kernel_rfl
  rw [h]
  simp only [w24,uz1] <;> rfl) n_ e
noncomputable def xu3 (N:Nat):(List TV→List TOb→Option OX4)→List TV→List TOb→Option OX4:=w66 DR qf2 (qf0 N) (qm3 (qc6 (q08 (q08 (q08 (yu6 (q08 (q88 (q08 (q08 (q08 (q08 (q08 (q08 (q08 (q13 Tryz.f201)))))))))))))))) zt7 (qe0.loops.drop 2) (qj9 2 (qc5 DR qf2 (qf0 N) (q08 (q08 (q08 (q08 (q08 (q08 (q08 (q08 (q13 Tryz.f201))))))))) (qe0.loops.drop 2) (w46 N)))
def xt1 (N:Nat)(s:List UInt8)(point1:Int)(neg1:Bool)(first1:Int)(qa9:Bool)(qy8:List Int)(K1:(Int×Bool×List Int)→Option OX4)(e:Int×Bool×List Int):Option OX4 :=
 match e with
 | (n1,x_Neg3,x_D3) =>
  bif decide (n1 < 4) then
   (qz5 N 10).bind fun r30 =>
   (wg1 N (x_Neg3,x_D3,()) r30).bind fun r31 =>
   bif q27 (n1 + 1) then
   K1 (n1 + 1,r31.1,r31.2.1)
   else none
  else
   bif (point1 == first1) then
    some ((x_Neg3,x_D3,()),false,false,())
   else
    bif inR first1 s.length then
    bif ((q38 s first1) == 48) then
     bif q27 (first1 + 1) then
     bif decide (point1 > (first1 + 1)) then
      some ((x_Neg3,x_D3,()),false,false,())
     else
      bif neg1 then
       (wj8 N (x_Neg3,x_D3,())).bind fun r32 =>
       some (r32,decide (point1 ≥ 0),true,())
      else
       some ((x_Neg3,x_D3,()),decide (point1 ≥ 0),true,())
     else none
    else
     bif neg1 then
      (wj8 N (x_Neg3,x_D3,())).bind fun r33 =>
      some (r33,decide (point1 ≥ 0),true,())
     else
      some ((x_Neg3,x_D3,()),decide (point1 ≥ 0),true,())
    else none
theorem uq9 (N:Nat)(s:List UInt8)(point1:Int)(neg1:Bool)(first1:Int)(qa9:Bool)(qy8:List Int)(n_:Nat)(e:Int×Bool×List Int):q58 (xu3 N ) n_ ((y55 s point1 neg1 first1 qa9 qy8) e) ((jw5 s point1 neg1 first1 qa9 qy8) e)=q87 (xt1 N s point1 neg1 first1 qa9 qy8 ) n_ e :=
 q41 (y55 s point1 neg1 first1 qa9 qy8) (jw5 s point1 neg1 first1 qa9 qy8) (by intro K e; obtain ⟨n1,x_Neg3,x_D3⟩:=e; kernel_rfl) n_ e
noncomputable def jy1 (N:Nat):(List TV→List TOb→Option OX4)→List TV→List TOb→Option OX4:=w66 DR qf2 (qf0 N) (qm3 (qc6 (q88 (q08 (q08 (q08 (q08 (q08 (q13 Tryz.f201))))))))) zs7 (qe0.loops.drop 1) (qj9 0 (qc5 DR qf2 (qf0 N) (q08 (q08 (q08 (q08 (q08 (q08 (q13 Tryz.f201))))))) (qe0.loops.drop 1) (w46 N)))
def yx5 (N:Nat)(s:List UInt8)(neg1:Bool)(first1:Int)(qa9:Bool)(qy8:List Int)(l4:(List UInt8)→Int→Bool→Int→Bool→(List Int)→(Int×Bool×List Int)→Option OX4)(K0:(Int×Int×Bool×List Int)→Option OX4)(e:Int×Int×Bool×List Int):Option OX4 :=
 match e with
 | (at_1,point1,x_Neg2,x_D2) =>
  bif decide (at_1 < (s.length:Int)) then
   bif inR at_1 s.length then
   bif ((q38 s at_1) == 46) then
    bif decide (point1 < 0) then
     bif decide (at_1 > first1) then
      bif q27 (at_1 + 1) then
      K0 (at_1 + 1,at_1,x_Neg2,x_D2)
      else none
     else
      bif inR at_1 s.length then
      bif decide ((q38 s at_1) < 48) then
       some ((x_Neg2,x_D2,()),false,false,())
      else
       bif inR at_1 s.length then
       bif decide ((q38 s at_1) > 57) then
        some ((x_Neg2,x_D2,()),false,false,())
       else
        (qz5 N 10).bind fun r18 =>
        (wg1 N (x_Neg2,x_D2,()) r18).bind fun r19 =>
        bif inR at_1 s.length then
        bif q27 (IntKind.u8.wrap ((q38 s at_1) - 48)) then
        (qz5 N (IntKind.u8.wrap ((q38 s at_1) - 48))).bind fun r20 =>
        (zl3 N r19 r20).bind fun r21 =>
        bif q27 (at_1 + 1) then
        K0 (at_1 + 1,point1,r21.1,r21.2.1)
        else none
        else none
        else none
       else none
      else none
    else
     bif inR at_1 s.length then
     bif decide ((q38 s at_1) < 48) then
      some ((x_Neg2,x_D2,()),false,false,())
     else
      bif inR at_1 s.length then
      bif decide ((q38 s at_1) > 57) then
       some ((x_Neg2,x_D2,()),false,false,())
      else
       (qz5 N 10).bind fun r22 =>
       (wg1 N (x_Neg2,x_D2,()) r22).bind fun r23 =>
       bif inR at_1 s.length then
       bif q27 (IntKind.u8.wrap ((q38 s at_1) - 48)) then
       (qz5 N (IntKind.u8.wrap ((q38 s at_1) - 48))).bind fun r24 =>
       (zl3 N r23 r24).bind fun r25 =>
       bif q27 (at_1 + 1) then
       K0 (at_1 + 1,point1,r25.1,r25.2.1)
       else none
       else none
       else none
      else none
     else none
   else
    bif inR at_1 s.length then
    bif decide ((q38 s at_1) < 48) then
     some ((x_Neg2,x_D2,()),false,false,())
    else
     bif inR at_1 s.length then
     bif decide ((q38 s at_1) > 57) then
      some ((x_Neg2,x_D2,()),false,false,())
     else
      (qz5 N 10).bind fun r26 =>
      (wg1 N (x_Neg2,x_D2,()) r26).bind fun r27 =>
      bif inR at_1 s.length then
      bif q27 (IntKind.u8.wrap ((q38 s at_1) - 48)) then
      (qz5 N (IntKind.u8.wrap ((q38 s at_1) - 48))).bind fun r28 =>
      (zl3 N r27 r28).bind fun r29 =>
      bif q27 (at_1 + 1) then
      K0 (at_1 + 1,point1,r29.1,r29.2.1)
      else none
      else none
      else none
     else none
    else none
   else none
  else
   bif decide (point1 ≥ 0) then
    bif q27 ((s.length:Int) - point1) then
    bif q27 (((s.length:Int) - point1) - 1) then
    bif decide ((((s.length:Int) - point1) - 1) < 1) then
     some ((x_Neg2,x_D2,()),false,false,())
    else
     bif decide ((((s.length:Int) - point1) - 1) > 4) then
      some ((x_Neg2,x_D2,()),false,false,())
     else
      l4 s point1 neg1 first1 qa9 qy8 (((s.length:Int) - point1) - 1,x_Neg2,x_D2)
    else none
    else none
   else
    bif ((s.length:Int) == first1) then
     some ((x_Neg2,x_D2,()),false,false,())
    else
     bif inR first1 s.length then
     bif ((q38 s first1) == 48) then
      bif q27 (first1 + 1) then
      bif decide ((s.length:Int) > (first1 + 1)) then
       some ((x_Neg2,x_D2,()),false,false,())
      else
       bif neg1 then
        (wj8 N (x_Neg2,x_D2,())).bind fun r34 =>
        some (r34,decide (point1 ≥ 0),true,())
       else
        some ((x_Neg2,x_D2,()),decide (point1 ≥ 0),true,())
      else none
     else
      bif neg1 then
       (wj8 N (x_Neg2,x_D2,())).bind fun r35 =>
       some (r35,decide (point1 ≥ 0),true,())
      else
       some ((x_Neg2,x_D2,()),decide (point1 ≥ 0),true,())
     else none
def zr9 (N:Nat)(s:List UInt8)(neg1:Bool)(first1:Int)(qa9:Bool)(qy8:List Int)(K0:(Int×Int×Bool×List Int)→Option OX4)(e:Int×Int×Bool×List Int):Option OX4:=yx5 N s neg1 first1 qa9 qy8 (fun s point1 neg1 first1 qa9 qy8 e=>q87 (xt1 N s point1 neg1 first1 qa9 qy8) N e) K0 e
theorem uv5 (N:Nat)(s:List UInt8)(neg1:Bool)(first1:Int)(qa9:Bool)(qy8:List Int)(n_:Nat)(e:Int×Int×Bool×List Int):q58 (jy1 N ) n_ ((z14 s neg1 first1 qa9 qy8) e) ((wv0 s neg1 first1 qa9 qy8) e)=q87 (zr9 N s neg1 first1 qa9 qy8 ) n_ e :=
 q41 (z14 s neg1 first1 qa9 qy8) (wv0 s neg1 first1 qa9 qy8) (by
  intro K e
  have h:(jy1 N ) K ((z14 s neg1 first1 qa9 qy8) e) ((wv0 s neg1 first1 qa9 qy8) e)=yx5 N s neg1 first1 qa9 qy8 (fun s point1 neg1 first1 qa9 qy8 e=>q58 (xu3 N ) N (y55 s point1 neg1 first1 qa9 qy8 e) (jw5 s point1 neg1 first1 qa9 qy8 e)) (fun e=>K ((z14 s neg1 first1 qa9 qy8) e) ((wv0 s neg1 first1 qa9 qy8) e)) e:=by obtain ⟨at_1,point1,x_Neg2,x_D2⟩:=e; kernel_rfl
  rw [h]
  simp only [zr9,uq9] <;> rfl) n_ e
noncomputable def xn9 (N:Nat):(List TV→List TOb→Option OX4)→List TV→List TOb→Option OX4:=w66 DR qf2 (qf0 N) (qm3 (qc6 (q08 (q08 (q08 (yu6 (q08 (q88 (q08 (q08 (q08 (q08 (q08 (q08 (q08 (q13 Tryz.f201)))))))))))))))) zt7 (qe0.loops.drop 2) (qj9 2 (qc5 DR qf2 (qf0 N) (q08 (q08 (q08 (q08 (q08 (q08 (q08 (q08 (q13 Tryz.f201))))))))) (qe0.loops.drop 2) (w46 N)))
def xs4 (N:Nat)(s:List UInt8)(point2:Int)(neg2:Bool)(first2:Int)(qa8:Bool)(qy9:List Int)(K1:(Int×Bool×List Int)→Option OX4)(e:Int×Bool×List Int):Option OX4 :=
 match e with
 | (n2,x_Neg5,x_D5) =>
  bif decide (n2 < 4) then
   (qz5 N 10).bind fun r48 =>
   (wg1 N (x_Neg5,x_D5,()) r48).bind fun r49 =>
   bif q27 (n2 + 1) then
   K1 (n2 + 1,r49.1,r49.2.1)
   else none
  else
   bif (point2 == first2) then
    some ((x_Neg5,x_D5,()),false,false,())
   else
    bif inR first2 s.length then
    bif ((q38 s first2) == 48) then
     bif q27 (first2 + 1) then
     bif decide (point2 > (first2 + 1)) then
      some ((x_Neg5,x_D5,()),false,false,())
     else
      bif neg2 then
       (wj8 N (x_Neg5,x_D5,())).bind fun r50 =>
       some (r50,decide (point2 ≥ 0),true,())
      else
       some ((x_Neg5,x_D5,()),decide (point2 ≥ 0),true,())
     else none
    else
     bif neg2 then
      (wj8 N (x_Neg5,x_D5,())).bind fun r51 =>
      some (r51,decide (point2 ≥ 0),true,())
     else
      some ((x_Neg5,x_D5,()),decide (point2 ≥ 0),true,())
    else none
theorem k40 (N:Nat)(s:List UInt8)(point2:Int)(neg2:Bool)(first2:Int)(qa8:Bool)(qy9:List Int)(n_:Nat)(e:Int×Bool×List Int):q58 (xn9 N ) n_ ((jt0 s point2 neg2 first2 qa8 qy9) e) ((jz0 s point2 neg2 first2 qa8 qy9) e)=q87 (xs4 N s point2 neg2 first2 qa8 qy9 ) n_ e :=
 q41 (jt0 s point2 neg2 first2 qa8 qy9) (jz0 s point2 neg2 first2 qa8 qy9) (by intro K e; obtain ⟨n2,x_Neg5,x_D5⟩:=e; kernel_rfl) n_ e
noncomputable def jv4 (N:Nat):(List TV→List TOb→Option OX4)→List TV→List TOb→Option OX4:=w66 DR qf2 (qf0 N) (qm3 (qc6 (q88 (q08 (q08 (q08 (q08 (q08 (q13 Tryz.f201))))))))) zs7 (qe0.loops.drop 1) (qj9 0 (qc5 DR qf2 (qf0 N) (q08 (q08 (q08 (q08 (q08 (q08 (q13 Tryz.f201))))))) (qe0.loops.drop 1) (w46 N)))
def x23 (N:Nat)(s:List UInt8)(neg2:Bool)(first2:Int)(qa8:Bool)(qy9:List Int)(l6:(List UInt8)→Int→Bool→Int→Bool→(List Int)→(Int×Bool×List Int)→Option OX4)(K0:(Int×Int×Bool×List Int)→Option OX4)(e:Int×Int×Bool×List Int):Option OX4 :=
 match e with
 | (at_2,point2,x_Neg4,x_D4) =>
  bif decide (at_2 < (s.length:Int)) then
   bif inR at_2 s.length then
   bif ((q38 s at_2) == 46) then
    bif decide (point2 < 0) then
     bif decide (at_2 > first2) then
      bif q27 (at_2 + 1) then
      K0 (at_2 + 1,at_2,x_Neg4,x_D4)
      else none
     else
      bif inR at_2 s.length then
      bif decide ((q38 s at_2) < 48) then
       some ((x_Neg4,x_D4,()),false,false,())
      else
       bif inR at_2 s.length then
       bif decide ((q38 s at_2) > 57) then
        some ((x_Neg4,x_D4,()),false,false,())
       else
        (qz5 N 10).bind fun r36 =>
        (wg1 N (x_Neg4,x_D4,()) r36).bind fun r37 =>
        bif inR at_2 s.length then
        bif q27 (IntKind.u8.wrap ((q38 s at_2) - 48)) then
        (qz5 N (IntKind.u8.wrap ((q38 s at_2) - 48))).bind fun r38 =>
        (zl3 N r37 r38).bind fun r39 =>
        bif q27 (at_2 + 1) then
        K0 (at_2 + 1,point2,r39.1,r39.2.1)
        else none
        else none
        else none
       else none
      else none
    else
     bif inR at_2 s.length then
     bif decide ((q38 s at_2) < 48) then
      some ((x_Neg4,x_D4,()),false,false,())
     else
      bif inR at_2 s.length then
      bif decide ((q38 s at_2) > 57) then
       some ((x_Neg4,x_D4,()),false,false,())
      else
       (qz5 N 10).bind fun r40 =>
       (wg1 N (x_Neg4,x_D4,()) r40).bind fun r41 =>
       bif inR at_2 s.length then
       bif q27 (IntKind.u8.wrap ((q38 s at_2) - 48)) then
       (qz5 N (IntKind.u8.wrap ((q38 s at_2) - 48))).bind fun r42 =>
       (zl3 N r41 r42).bind fun r43 =>
       bif q27 (at_2 + 1) then
       K0 (at_2 + 1,point2,r43.1,r43.2.1)
       else none
       else none
       else none
      else none
     else none
   else
    bif inR at_2 s.length then
    bif decide ((q38 s at_2) < 48) then
     some ((x_Neg4,x_D4,()),false,false,())
    else
     bif inR at_2 s.length then
     bif decide ((q38 s at_2) > 57) then
      some ((x_Neg4,x_D4,()),false,false,())
     else
      (qz5 N 10).bind fun r44 =>
      (wg1 N (x_Neg4,x_D4,()) r44).bind fun r45 =>
      bif inR at_2 s.length then
      bif q27 (IntKind.u8.wrap ((q38 s at_2) - 48)) then
      (qz5 N (IntKind.u8.wrap ((q38 s at_2) - 48))).bind fun r46 =>
      (zl3 N r45 r46).bind fun r47 =>
      bif q27 (at_2 + 1) then
      K0 (at_2 + 1,point2,r47.1,r47.2.1)
      else none
      else none
      else none
     else none
    else none
   else none
  else
   bif decide (point2 ≥ 0) then
    bif q27 ((s.length:Int) - point2) then
    bif q27 (((s.length:Int) - point2) - 1) then
    bif decide ((((s.length:Int) - point2) - 1) < 1) then
     some ((x_Neg4,x_D4,()),false,false,())
    else
     bif decide ((((s.length:Int) - point2) - 1) > 4) then
      some ((x_Neg4,x_D4,()),false,false,())
     else
      l6 s point2 neg2 first2 qa8 qy9 (((s.length:Int) - point2) - 1,x_Neg4,x_D4)
    else none
    else none
   else
    bif ((s.length:Int) == first2) then
     some ((x_Neg4,x_D4,()),false,false,())
    else
     bif inR first2 s.length then
     bif ((q38 s first2) == 48) then
      bif q27 (first2 + 1) then
      bif decide ((s.length:Int) > (first2 + 1)) then
       some ((x_Neg4,x_D4,()),false,false,())
      else
       bif neg2 then
        (wj8 N (x_Neg4,x_D4,())).bind fun r52 =>
        some (r52,decide (point2 ≥ 0),true,())
       else
        some ((x_Neg4,x_D4,()),decide (point2 ≥ 0),true,())
      else none
     else
      bif neg2 then
       (wj8 N (x_Neg4,x_D4,())).bind fun r53 =>
       some (r53,decide (point2 ≥ 0),true,())
      else
       some ((x_Neg4,x_D4,()),decide (point2 ≥ 0),true,())
     else none
def zr1 (N:Nat)(s:List UInt8)(neg2:Bool)(first2:Int)(qa8:Bool)(qy9:List Int)(K0:(Int×Int×Bool×List Int)→Option OX4)(e:Int×Int×Bool×List Int):Option OX4:=x23 N s neg2 first2 qa8 qy9 (fun s point2 neg2 first2 qa8 qy9 e=>q87 (xs4 N s point2 neg2 first2 qa8 qy9) N e) K0 e
theorem uo8 (N:Nat)(s:List UInt8)(neg2:Bool)(first2:Int)(qa8:Bool)(qy9:List Int)(n_:Nat)(e:Int×Int×Bool×List Int):q58 (jv4 N ) n_ ((wv7 s neg2 first2 qa8 qy9) e) ((wv3 s neg2 first2 qa8 qy9) e)=q87 (zr1 N s neg2 first2 qa8 qy9 ) n_ e :=
 q41 (wv7 s neg2 first2 qa8 qy9) (wv3 s neg2 first2 qa8 qy9) (by
  intro K e
  have h:(jv4 N ) K ((wv7 s neg2 first2 qa8 qy9) e) ((wv3 s neg2 first2 qa8 qy9) e)=x23 N s neg2 first2 qa8 qy9 (fun s point2 neg2 first2 qa8 qy9 e=>q58 (xn9 N ) N (jt0 s point2 neg2 first2 qa8 qy9 e) (jz0 s point2 neg2 first2 qa8 qy9 e)) (fun e=>K ((wv7 s neg2 first2 qa8 qy9) e) ((wv3 s neg2 first2 qa8 qy9) e)) e:=by obtain ⟨at_2,point2,x_Neg4,x_D4⟩:=e; kernel_rfl
  rw [h]
  simp only [zr1,k40] <;> rfl) n_ e
def ym5 (N:Nat)(s:List UInt8)(l1 l3 l5:(List UInt8)→Bool→Int→Bool→(List Int)→(Int×Int×Bool×List Int)→Option OX4):Option OX4 :=
 bif decide ((s.length:Int) > 0) then
  bif inR 0 s.length then
  bif ((q38 s 0) == 45) then
   l1 s ((q38 s 0) == 45) 1 false [] (1,(-1),false,[])
  else
   l3 s ((q38 s 0) == 45) 0 false [] (0,(-1),false,[])
  else none
 else
  l5 s false 0 false [] (0,(-1),false,[])
def j14 (N:Nat)(s:List UInt8):Option OX4:=ym5 N s (fun s neg first qa5 z40 e=>q87 (w24 N s neg first qa5 z40) N e) (fun s neg1 first1 qa9 qy8 e=>q87 (zr9 N s neg1 first1 qa9 qy8) N e) (fun s neg2 first2 qa8 qy9 e=>q87 (zr1 N s neg2 first2 qa8 qy9) N e)
noncomputable def vg2 (N:Nat)(s:List UInt8):Option (RT [ql5,.bool,.bool]):=q24 DR Tryz.prog N (ys9 N) qe0 Tryz.f201 (q13 Tryz.f201) (RT [ql5,.bool,.bool]) (qd4 [.str] (s,())) [] (q42 [ql5,.bool,.bool])
theorem u77 (N:Nat)(s:List UInt8):vg2 N s=j14 N s:=by
 have h:vg2 N s=ym5 N s (fun s neg first qa5 z40 e=>q58 (y17 N ) N (wv9 s neg first qa5 z40 e) (z25 s neg first qa5 z40 e)) (fun s neg1 first1 qa9 qy8 e=>q58 (jy1 N ) N (z14 s neg1 first1 qa9 qy8 e) (wv0 s neg1 first1 qa9 qy8 e)) (fun s neg2 first2 qa8 qy9 e=>q58 (jv4 N ) N (wv7 s neg2 first2 qa8 qy9 e) (wv3 s neg2 first2 qa8 qy9 e)):=by kernel_rfl
 rw [h]
 simp only [j14,k53,uv5,uo8] <;> rfl
def vx0 (m:(List UInt8)→Option OX4):Ent:=q37 [.str] [ql5,.bool,.bool] fun (x:Els [.str])=>m x.1
def yw3 (N:Nat):Ent:=vx0 (j14 N)
theorem vb3 (N:Nat):q17 Tryz.prog 201 (yw3 N):=q16 (k14 N) Tryz.func201 rfl (by kernel_rfl) fun (x:Els [.str])=>u77 N x.1
def kq9 :FH:=⟨[],[],[],[],false,[],[]⟩
noncomputable def vy6 (N:Nat):q49:=tab []
theorem ke7 (N:Nat):q14 Tryz.prog (vy6 N):=q28 _
def v33 (N:Nat)(is_:Bool):Option q00 :=
 bif is_ then
  some (4,1,[],())
 else
  some (4,0,[],())
noncomputable def kv5 (N:Nat)(is_:Bool):Option (RT [q05]):=q24 DR Tryz.prog N (vy6 N) kq9 Tryz.f202 (q13 Tryz.f202) (RT [q05]) (qd4 [.bool] (is_,())) [] (q42 [q05])
theorem un9 (N:Nat)(is_:Bool):kv5 N is_=v33 N is_:=by kernel_rfl
def ua7 (m:Bool→Option q00):Ent:=q37 [.bool] [q05] fun (x:Els [.bool])=>m x.1
def xs3 (N:Nat):Ent:=ua7 (v33 N)
theorem vx8 (N:Nat):q17 Tryz.prog 202 (xs3 N):=q16 (ke7 N) Tryz.func202 rfl (by kernel_rfl) fun (x:Els [.bool])=>un9 N x.1
def u22 :LH:=⟨[(0,.str),(3,.int .i64)],[],[]⟩
def x22 :FH:=⟨[u22],[],[],[],false,[],[]⟩
noncomputable def vi7 (N:Nat):q49:=tab []
theorem kt5 (N:Nat):q14 Tryz.prog (vi7 N):=q28 _
noncomputable def u02 :Sc:=wm4 Tryz.prog x22
noncomputable def vz2 (N:Nat):Cfg:=⟨N,vi7 N,0⟩
noncomputable def k89 (N:Nat):Exit→List TV→List TOb→Option Bool:=fin Tryz.prog 0 Tryz.f35.results.toList (q42 [.bool])
def xj1 (s:List UInt8)(e:Int):List TV:=match e with
 | i=>frm 47 [(0,.str s),(3,.int .i64 i)]
def xm6 (s:List UInt8)(e:Int):List TOb:=match e with
 | i=>[]
noncomputable def vz7 (N:Nat):(List TV→List TOb→Option Bool)→List TV→List TOb→Option Bool:=w66 DR u02 (vz2 N) (qm3 (qc6 (q08 (q88 (q08 (q08 (q13 Tryz.f35))))))) u22 (x22.loops.drop 1) (qj9 0 (qc5 DR u02 (vz2 N) (q08 (q08 (q08 (q13 Tryz.f35)))) (x22.loops.drop 1) (k89 N)))
def xd6 (N:Nat)(s:List UInt8)(K0:Int→Option Bool)(e:Int):Option Bool :=
 match e with
 | i =>
  bif decide (i < (s.length:Int)) then
   bif inR i s.length then
   bif decide ((q38 s i) ≥ 97) then
    bif inR i s.length then
    bif (!(decide ((q38 s i)≤122))) then
     bif (i == 0) then
      some false
     else
      bif inR i s.length then
      bif decide ((q38 s i) < 48) then
       some false
      else
       bif inR i s.length then
       bif decide ((q38 s i) > 57) then
        some false
       else
        bif q27 (i + 1) then
        K0 (i + 1)
        else none
       else none
      else none
    else
     bif q27 (i + 1) then
     K0 (i + 1)
     else none
    else none
   else
    bif (i == 0) then
     some false
    else
     bif inR i s.length then
     bif decide ((q38 s i) < 48) then
      some false
     else
      bif inR i s.length then
      bif decide ((q38 s i) > 57) then
       some false
      else
       bif q27 (i + 1) then
       K0 (i + 1)
       else none
      else none
     else none
   else none
  else
   some true
theorem ky8 (N:Nat)(s:List UInt8)(n_:Nat)(e:Int):q58 (vz7 N ) n_ ((xj1 s) e) ((xm6 s) e)=q87 (xd6 N s ) n_ e :=
 q41 (xj1 s) (xm6 s) (by intro K e; kernel_rfl) n_ e
def vc4 (N:Nat)(s:List UInt8)(l1:(List UInt8)→Int→Option Bool):Option Bool :=
 bif decide ((s.length:Int) < 1) then
  some false
 else
  bif decide ((s.length:Int) > 12) then
   some false
  else
   l1 s 0
def xb8 (N:Nat)(s:List UInt8):Option Bool:=vc4 N s (fun s e=>q87 (xd6 N s) N e)
noncomputable def k29 (N:Nat)(s:List UInt8):Option (RT [.bool]):=q24 DR Tryz.prog N (vi7 N) x22 Tryz.f35 (q13 Tryz.f35) (RT [.bool]) (qd4 [.str] (s,())) [] (q42 [.bool])
theorem k71 (N:Nat)(s:List UInt8):k29 N s=xb8 N s:=by
 have h:k29 N s=vc4 N s (fun s e=>q58 (vz7 N ) N (xj1 s e) (xm6 s e)):=by kernel_rfl
 rw [h]
 simp only [xb8,ky8] <;> rfl
def k38 (m:(List UInt8)→Option Bool):Ent:=q37 [.str] [.bool] fun (x:Els [.str])=>m x.1
def v73 (N:Nat):Ent:=k38 (xb8 N)
theorem uf8 (N:Nat):q17 Tryz.prog 35 (v73 N):=q16 (kt5 N) Tryz.func35 rfl (by kernel_rfl) fun (x:Els [.str])=>k71 N x.1
def k17 :LH:=⟨[(1,.asis),(3,.int .i64)],[],[.cells [.int .u8,.int .i64,.str]]⟩
def yv6 :FH:=⟨[k17],[],[],[],false,[],[]⟩
noncomputable def u82 (N:Nat):q49:=tab [(35,v73 N)]
theorem r2_May_Ts (N:Nat):q14 Tryz.prog (u82 N):=q06 (uf8 N) <| q28 _
noncomputable def vg0 :Sc:=wm4 Tryz.prog yv6
noncomputable def vf6 (N:Nat):Cfg:=⟨N,u82 N,0⟩
noncomputable def kx4 (N:Nat):Exit→List TV→List TOb→Option Bool:=fin Tryz.prog 0 Tryz.f14.results.toList (q42 [.bool])
def v71 (q44 v_N:Int)(v_S:List UInt8)(e:Int):List TV:=match e with
 | i=>frm 77 [(1,.ref 0 0),(3,.int .i64 i)]
def vi9 (q44 v_N:Int)(v_S:List UInt8)(e:Int):List TOb:=match e with
 | i=>[.cells [.int .u8 q44,.int .i64 v_N,.str v_S] 26 true]
noncomputable def k51 (N:Nat):(List TV→List TOb→Option Bool)→List TV→List TOb→Option Bool:=w66 DR vg0 (vf6 N) (qm3 (qc6 (q08 (q88 (yu6 (q08 (zh9 (q08 (zh9 (q08 (qc6 (q08 (q88 (q08 (q13 Tryz.f14))))))))))))))) k17 (yv6.loops.drop 1) (qj9 1 (qc5 DR vg0 (vf6 N) (q08 (yu6 (q08 (zh9 (q08 (zh9 (q08 (qc6 (q08 (q88 (q08 (q13 Tryz.f14)))))))))))) (yv6.loops.drop 1) (qj9 0 (qc5 DR vg0 (vf6 N) (q08 (q08 (q13 Tryz.f14))) (yv6.loops.drop 1) (kx4 N)))))
def yx7 (N:Nat)(q44 v_N:Int)(v_S:List UInt8)(K0:Int→Option Bool)(e:Int):Option Bool :=
 match e with
 | i =>
  bif decide (i < (v_S.length:Int)) then
   bif inR i v_S.length then
   bif decide ((q38 v_S i) < 32) then
    some false
   else
    bif inR i v_S.length then
    bif decide ((q38 v_S i) > 126) then
     some false
    else
     bif q27 (i + 1) then
     K0 (i + 1)
     else none
    else none
   else none
  else
   bif (v_N == 0) then
    some (decide ((v_S.length:Int)≤200))
   else
    some false
theorem r2_May_l1 (N:Nat)(q44 v_N:Int)(v_S:List UInt8)(n_:Nat)(e:Int):q58 (k51 N ) n_ ((v71 q44 v_N v_S) e) ((vi9 q44 v_N v_S) e)=q87 (yx7 N q44 v_N v_S ) n_ e :=
 q41 (v71 q44 v_N v_S) (vi9 q44 v_N v_S) (by intro K e; kernel_rfl) n_ e
def uk2 (N:Nat)(v:q00)(l1:Int→Int→(List UInt8)→Int→Option Bool):Option Bool :=
 bif (v.1 == 0) then
  bif (v.2.1 == 0) then
   some (v.2.2.1 == ([]:List UInt8))
  else
   some false
 else
  bif (v.1 == 1) then
   some (v.2.2.1 == ([]:List UInt8))
  else
   bif (v.1 == 2) then
    some (v.2.2.1 == ([]:List UInt8))
   else
    bif (v.1 == 3) then
     l1 v.1 v.2.1 v.2.2.1 0
    else
     bif (v.1 == 4) then
      bif (v.2.2.1 == ([]:List UInt8)) then
       bif (v.2.1 == 0) then
        some true
       else
        some (v.2.1 == 1)
      else
       some false
     else
      bif (v.1 == 5) then
       bif (v.2.1 == 0) then
        (xb8 N v.2.2.1).bind fun r =>
        some r
       else
        some false
      else
       some false
def xs8 (N:Nat)(v:q00):Option Bool:=uk2 N v (fun q44 v_N v_S e=>q87 (yx7 N q44 v_N v_S) N e)
noncomputable def kp4 (N:Nat)(v:q00):Option (RT [.bool]):=q24 DR Tryz.prog N (u82 N) yv6 Tryz.f14 (q13 Tryz.f14) (RT [.bool]) (qd4 [q05] (v,())) [] (q42 [.bool])
theorem q0e (N:Nat)(v:q00):kp4 N v=xs8 N v:=by
 have h:kp4 N v=uk2 N v (fun q44 v_N v_S e=>q58 (k51 N ) N (v71 q44 v_N v_S e) (vi9 q44 v_N v_S e)):=by kernel_rfl
 rw [h]
 simp only [xs8,r2_May_l1] <;> rfl
def kc9 (m:q00→Option Bool):Ent:=q37 [q05] [.bool] fun (x:Els [q05])=>m x.1
def xm7 (N:Nat):Ent:=kc9 (xs8 N)
theorem xv3 (N:Nat):q17 Tryz.prog 14 (xm7 N):=q16 (r2_May_Ts N) Tryz.func14 rfl (by kernel_rfl) fun (x:Els [q05])=>q0e N x.1
def r1_Sub_H :FH:=⟨[],[],[(1,⟨3,9,0,[],[]⟩)],[],false,[],[]⟩
noncomputable def kn0 (N:Nat):q49:=tab [(248,xi6 N),(246,xl1 N)]
theorem r1_Sub_Ts (N:Nat):q14 Tryz.prog (kn0 N):=q06 (xp5 N) <| q06 (xv1 N) <| q28 _
def u39 (N:Nat)(x y:qa2):Option qa2 :=
 (wj8 N y).bind fun r =>
 (zl3 N x r).bind fun r1 =>
 some r1
noncomputable def r1_Sub_C (N:Nat)(x y:qa2):Option (RT [ql5]):=q24 DR Tryz.prog N (kn0 N) r1_Sub_H Tryz.f266 (q13 Tryz.f266) (RT [ql5]) (qd4 [ql5,ql5] (x,y,())) [] (q42 [ql5])
theorem kt4 (N:Nat)(x y:qa2):r1_Sub_C N x y=u39 N x y:=by kernel_rfl
def k81 (m:qa2→qa2→Option qa2):Ent:=q37 [ql5,ql5] [ql5] fun (x:Els [ql5,ql5])=>m x.1 x.2.1
def xe5 (N:Nat):Ent:=k81 (u39 N)
theorem xs9 (N:Nat):q17 Tryz.prog 266 (xe5 N):=q16 (r1_Sub_Ts N) Tryz.func266 rfl (by kernel_rfl) fun (x:Els [ql5,ql5])=>kt4 N x.1 x.2.1
def r1_Cmp_H :FH:=⟨[],[],[],[],false,[],[]⟩
noncomputable def kl0 (N:Nat):q49:=tab [(266,xe5 N)]
theorem r1_Cmp_Ts (N:Nat):q14 Tryz.prog (kl0 N):=q06 (xs9 N) <| q28 _
def vh2 (N:Nat)(x y:qa2):Option Int :=
 (u39 N x y).bind fun r =>
 bif r.1 then
  some (-1)
 else
  bif decide ((r.2.1.length:Int) > 0) then
   some 1
  else
   some 0
noncomputable def r1_Cmp_C (N:Nat)(x y:qa2):Option (RT [(.int .i64)]):=q24 DR Tryz.prog N (kl0 N) r1_Cmp_H Tryz.f249 (q13 Tryz.f249) (RT [(.int .i64)]) (qd4 [ql5,ql5] (x,y,())) [] (q42 [(.int .i64)])
theorem kv8 (N:Nat)(x y:qa2):r1_Cmp_C N x y=vh2 N x y:=by kernel_rfl
def k79 (m:qa2→qa2→Option Int):Ent:=q37 [ql5,ql5] [(.int .i64)] fun (x:Els [ql5,ql5])=>m x.1 x.2.1
def xa7 (N:Nat):Ent:=k79 (vh2 N)
theorem xn7 (N:Nat):q17 Tryz.prog 249 (xa7 N):=q16 (r1_Cmp_Ts N) Tryz.func249 rfl (by kernel_rfl) fun (x:Els [ql5,ql5])=>kv8 N x.1 x.2.1
def v64 :LH:=⟨[(2,.asis),(3,.asis),(4,.asis),(5,.asis),(6,.asis),(7,.asis),(8,.asis),(9,.asis),(10,.int .i64)],[],[.cells [.bool,.lst (.int .i64)],.cells [.bool,.lst (.int .i64)],.cells [.bool,.lst (.int .i64)],.cells [.bool,.lst (.int .i64)],.cells [.bool,.lst (.int .i64)],.cells [.bool,.lst (.int .i64)],.same,.cells [.bool,.lst (.int .i64)]]⟩
def uy5 :LH:=⟨[(2,.asis),(3,.asis),(4,.asis),(5,.asis),(6,.asis),(7,.asis),(8,.asis),(9,.asis),(10,.int .i64),(11,.int .i64),(12,.int .i64)],[],[.cells [.bool,.lst (.int .i64)],.cells [.bool,.lst (.int .i64)],.cells [.bool,.lst (.int .i64)],.cells [.bool,.lst (.int .i64)],.cells [.bool,.lst (.int .i64)],.cells [.bool,.lst (.int .i64)],.same,.cells [.bool,.lst (.int .i64)]]⟩
def zt9 :FH:=⟨[v64,uy5],[23],[(1,⟨9,83,2,[(6,.alloc 0),(7,.alloc 1),(8,.store true 4)],[]⟩),(7,⟨8,83,0,[],[]⟩),(11,⟨5,83,0,[],[]⟩),(15,⟨5,83,0,[],[]⟩),(16,⟨11,83,0,[],[]⟩)],[(16,8)],false,[],[]⟩
noncomputable def uk1 (N:Nat):q49:=tab [(268,zp5 N),(209,zy4 N),(247,xf0 N),(249,xa7 N),(266,xe5 N)]
theorem r1_Quo_Ts (N:Nat):q14 Tryz.prog (uk1 N):=q06 (zf4 N) <| q06 (zo5 N) <| q06 (xn1 N) <| q06 (xn7 N) <| q06 (xs9 N) <| q28 _
noncomputable def zy3 :Sc:=wm4 Tryz.prog zt9
noncomputable def zj0 (N:Nat):Cfg:=⟨N,uk1 N,0⟩
noncomputable def u10 (N:Nat):Exit→List TV→List TOb→Option (qa2×qa2×Unit):=fin Tryz.prog 0 Tryz.f239.results.toList (q42 [ql5,ql5])
def j63 (q32:Bool)(x_D:List Int)(qa1:Bool)(y_D:List Int)(q57:Bool)(ql6:List Int)(qe2:Bool)(jc4:List Int)(qw3:Bool)(a_D:List Int)(qt3:Bool)(b_D:List Int)(x:qa2)(e:Int×List Int×Bool×List Int):List TV:=match e with
 | (i,q,r_Neg,r_D)=>frm 83 [(2,.ref 0 0),(3,.ref 1 0),(4,.ref 2 0),(5,.ref 3 0),(6,.ref 4 0),(7,.ref 5 0),(8,.arr 6 ((x.2.1.length:Int).toNat)),(9,.ref 7 0),(10,.int .i64 i)]
def j20 (q32:Bool)(x_D:List Int)(qa1:Bool)(y_D:List Int)(q57:Bool)(ql6:List Int)(qe2:Bool)(jc4:List Int)(qw3:Bool)(a_D:List Int)(qt3:Bool)(b_D:List Int)(x:qa2)(e:Int×List Int×Bool×List Int):List TOb:=match e with
 | (i,q,r_Neg,r_D)=>[.cells [.bool q32,.tl (.int .i64) x_D .unk] 265 true,.cells [.bool qa1,.tl (.int .i64) y_D .unk] 265 true,.cells [.bool q57,.tl (.int .i64) ql6 .unk] 265 true,.cells [.bool qe2,.tl (.int .i64) jc4 .unk] 265 true,.cells [.bool qw3,.tl (.int .i64) a_D .unk] 265 true,.cells [.bool qt3,.tl (.int .i64) b_D .unk] 265 true,.tarr (.int .i64) q 3 true,.cells [.bool r_Neg,.tl (.int .i64) r_D .unk] 265 true]
def vf0 (i:Int)(q32:Bool)(x_D:List Int)(qa1:Bool)(y_D:List Int)(q57:Bool)(ql6:List Int)(qe2:Bool)(jc4:List Int)(qw3:Bool)(a_D:List Int)(qt3:Bool)(b_D q:List Int)(z72:Bool)(k54:List Int)(x:qa2)(e:Int×Int):List TV:=match e with
 | (low,high)=>frm 83 [(2,.ref 0 0),(3,.ref 1 0),(4,.ref 2 0),(5,.ref 3 0),(6,.ref 4 0),(7,.ref 5 0),(8,.arr 6 ((x.2.1.length:Int).toNat)),(9,.ref 7 0),(10,.int .i64 i),(11,.int .i64 low),(12,.int .i64 high)]
def v41 (i:Int)(q32:Bool)(x_D:List Int)(qa1:Bool)(y_D:List Int)(q57:Bool)(ql6:List Int)(qe2:Bool)(jc4:List Int)(qw3:Bool)(a_D:List Int)(qt3:Bool)(b_D q:List Int)(z72:Bool)(k54:List Int)(x:qa2)(e:Int×Int):List TOb:=match e with
 | (low,high)=>[.cells [.bool q32,.tl (.int .i64) x_D .unk] 265 true,.cells [.bool qa1,.tl (.int .i64) y_D .unk] 265 true,.cells [.bool q57,.tl (.int .i64) ql6 .unk] 265 true,.cells [.bool qe2,.tl (.int .i64) jc4 .unk] 265 true,.cells [.bool qw3,.tl (.int .i64) a_D .unk] 265 true,.cells [.bool qt3,.tl (.int .i64) b_D .unk] 265 true,.tarr (.int .i64) q 3 true,.cells [.bool z72,.tl (.int .i64) k54 .unk] 265 true]
noncomputable def k09 (N:Nat)(K0r:List TV→List TOb→Option (qa2×qa2×Unit)):(List TV→List TOb→Option (qa2×qa2×Unit))→List TV→List TOb→Option (qa2×qa2×Unit):=w66 DR zy3 (zj0 N) (qm3 (qc6 (q88 (q08 (q08 (qc6 (q88 (q08 (qm3 (qc6 (q08 (q88 (q08 (q08 (q08 (q08 (q13 Tryz.f239))))))))))))))))) uy5 (zt9.loops.drop 2) (qj9 2 (qc5 DR zy3 (zj0 N) (q08 (q08 (q08 (qc6 (q88 (q08 (qm3 (qc6 (q08 (q88 (q08 (q08 (q08 (q08 (q13 Tryz.f239))))))))))))))) (zt9.loops.drop 2) (qj9 1 (qc5 DR zy3 (zj0 N) (q08 (q08 (qm3 (qc6 (q08 (q88 (q08 (q08 (q08 (q08 (q13 Tryz.f239))))))))))) (zt9.loops.drop 2) (ug3 (zj0 N) v64 (qj9 0 (qc5 DR zy3 (zj0 N) (q08 (q08 (q08 (q08 (q08 (q13 Tryz.f239)))))) (zt9.loops.drop 2) (u10 N))) K0r)))))
def v69 (N:Nat)(i:Int)(q32:Bool)(x_D:List Int)(qa1:Bool)(y_D:List Int)(q57:Bool)(ql6:List Int)(qe2:Bool)(jc4:List Int)(qw3:Bool)(a_D:List Int)(qt3:Bool)(b_D q:List Int)(z72:Bool)(k54:List Int)(x:qa2)(K0:(Int×List Int×Bool×List Int)→Option (qa2×qa2×Unit))(K1:(Int×Int)→Option (qa2×qa2×Unit))(e:Int×Int):Option (qa2×qa2×Unit) :=
 match e with
 | (low,high) =>
  bif decide (low < high) then
   bif q27 (low + high) then
   bif q27 ((low + high) + 1) then
   bif q27 (Int.tdiv ((low + high) + 1) 2) then
   (qz5 N (Int.tdiv ((low + high) + 1) 2)).bind fun r1 =>
   (wg1 N r1 (qt3,b_D,())).bind fun r2 =>
   (vh2 N r2 (z72,k54,())).bind fun r3 =>
   bif decide (r3≤0) then
    K1 (Int.tdiv ((low + high) + 1) 2,high)
   else
    bif q27 ((Int.tdiv ((low + high) + 1) 2) - 1) then
    K1 (low,(Int.tdiv ((low + high) + 1) 2) - 1)
    else none
   else none
   else none
   else none
  else
   bif inR i ((x.2.1.length:Int).toNat) then
   bif inR i q.length then
   (qz5 N low).bind fun r4 =>
   (wg1 N r4 (qt3,b_D,())).bind fun r5 =>
   (u39 N (z72,k54,()) r5).bind fun r6 =>
   bif q27 (i - 1) then
   K0 (i - 1,(setD q i low),r6.1,r6.2.1)
   else none
   else none
   else none
theorem r1_Quo_l2 (N:Nat)(i:Int)(q32:Bool)(x_D:List Int)(qa1:Bool)(y_D:List Int)(q57:Bool)(ql6:List Int)(qe2:Bool)(jc4:List Int)(qw3:Bool)(a_D:List Int)(qt3:Bool)(b_D q:List Int)(z72:Bool)(k54:List Int)(x:qa2)(K0r:List TV→List TOb→Option (qa2×qa2×Unit))(n_:Nat)(e:Int×Int):q58 (k09 N K0r) n_ ((vf0 i q32 x_D qa1 y_D q57 ql6 qe2 jc4 qw3 a_D qt3 b_D q z72 k54 x) e) ((v41 i q32 x_D qa1 y_D q57 ql6 qe2 jc4 qw3 a_D qt3 b_D q z72 k54 x) e)=q87 (v69 N i q32 x_D qa1 y_D q57 ql6 qe2 jc4 qw3 a_D qt3 b_D q z72 k54 x (fun a=>K0r (j63 q32 x_D qa1 y_D q57 ql6 qe2 jc4 qw3 a_D qt3 b_D x a) (j20 q32 x_D qa1 y_D q57 ql6 qe2 jc4 qw3 a_D qt3 b_D x a))) n_ e :=
 q41 (vf0 i q32 x_D qa1 y_D q57 ql6 qe2 jc4 qw3 a_D qt3 b_D q z72 k54 x) (v41 i q32 x_D qa1 y_D q57 ql6 qe2 jc4 qw3 a_D qt3 b_D q z72 k54 x) (by intro K e; obtain ⟨low,high⟩:=e; kernel_rfl) n_ e
noncomputable def vi3 (N:Nat):(List TV→List TOb→Option (qa2×qa2×Unit))→List TV→List TOb→Option (qa2×qa2×Unit):=w66 DR zy3 (zj0 N) (qm3 (qc6 (q08 (q88 (q08 (q08 (q08 (q08 (q13 Tryz.f239))))))))) v64 (zt9.loops.drop 1) (qj9 0 (qc5 DR zy3 (zj0 N) (q08 (q08 (q08 (q08 (q08 (q13 Tryz.f239)))))) (zt9.loops.drop 2) (u10 N)))
def xc2 (N:Nat)(q32:Bool)(x_D:List Int)(qa1:Bool)(y_D:List Int)(q57:Bool)(ql6:List Int)(qe2:Bool)(jc4:List Int)(qw3:Bool)(a_D:List Int)(qt3:Bool)(b_D:List Int)(x:qa2)(l2:Int→Bool→(List Int)→Bool→(List Int)→Bool→(List Int)→Bool→(List Int)→Bool→(List Int)→Bool→(List Int)→(List Int)→Bool→(List Int)→qa2→(Int×Int)→Option (qa2×qa2×Unit))(K0:(Int×List Int×Bool×List Int)→Option (qa2×qa2×Unit))(e:Int×List Int×Bool×List Int):Option (qa2×qa2×Unit) :=
 match e with
 | (i,q,r_Neg,r_D) =>
  bif decide (i ≥ 0) then
   bif inR i a_D.length then
   bif w33 ([(q25 a_D i 0)].length + r_D.length) 17592186044416 then
   (wi0 N false ([(q25 a_D i 0)] ++ r_D)).bind fun r =>
   l2 i q32 x_D qa1 y_D q57 ql6 qe2 jc4 qw3 a_D qt3 b_D q r.1 r.2.1 x (0,9999)
   else none
   else none
  else
   bif Nat.beq ((x.2.1.length:Int).toNat) q.length then
   (wi0 N (!(q32 == qa1)) q).bind fun r7 =>
   (wi0 N q32 r_D).bind fun r8 =>
   some (r7,r8,())
   else none
def x06 (N:Nat)(q32:Bool)(x_D:List Int)(qa1:Bool)(y_D:List Int)(q57:Bool)(ql6:List Int)(qe2:Bool)(jc4:List Int)(qw3:Bool)(a_D:List Int)(qt3:Bool)(b_D:List Int)(x:qa2)(K0:(Int×List Int×Bool×List Int)→Option (qa2×qa2×Unit))(e:Int×List Int×Bool×List Int):Option (qa2×qa2×Unit):=xc2 N q32 x_D qa1 y_D q57 ql6 qe2 jc4 qw3 a_D qt3 b_D x (fun i q32 x_D qa1 y_D q57 ql6 qe2 jc4 qw3 a_D qt3 b_D q z72 k54 x e=>q87 (v69 N i q32 x_D qa1 y_D q57 ql6 qe2 jc4 qw3 a_D qt3 b_D q z72 k54 x K0) N e) K0 e
theorem r1_Quo_l1 (N:Nat)(q32:Bool)(x_D:List Int)(qa1:Bool)(y_D:List Int)(q57:Bool)(ql6:List Int)(qe2:Bool)(jc4:List Int)(qw3:Bool)(a_D:List Int)(qt3:Bool)(b_D:List Int)(x:qa2)(n_:Nat)(e:Int×List Int×Bool×List Int):q58 (vi3 N ) n_ ((j63 q32 x_D qa1 y_D q57 ql6 qe2 jc4 qw3 a_D qt3 b_D x) e) ((j20 q32 x_D qa1 y_D q57 ql6 qe2 jc4 qw3 a_D qt3 b_D x) e)=q87 (x06 N q32 x_D qa1 y_D q57 ql6 qe2 jc4 qw3 a_D qt3 b_D x ) n_ e :=
 q41 (j63 q32 x_D qa1 y_D q57 ql6 qe2 jc4 qw3 a_D qt3 b_D x) (j20 q32 x_D qa1 y_D q57 ql6 qe2 jc4 qw3 a_D qt3 b_D x) (by
  intro K e
  have h:(vi3 N ) K ((j63 q32 x_D qa1 y_D q57 ql6 qe2 jc4 qw3 a_D qt3 b_D x) e) ((j20 q32 x_D qa1 y_D q57 ql6 qe2 jc4 qw3 a_D qt3 b_D x) e)=xc2 N q32 x_D qa1 y_D q57 ql6 qe2 jc4 qw3 a_D qt3 b_D x (fun i q32 x_D qa1 y_D q57 ql6 qe2 jc4 qw3 a_D qt3 b_D q z72 k54 x e=>q58 (k09 N K) N (vf0 i q32 x_D qa1 y_D q57 ql6 qe2 jc4 qw3 a_D qt3 b_D q z72 k54 x e) (v41 i q32 x_D qa1 y_D q57 ql6 qe2 jc4 qw3 a_D qt3 b_D q z72 k54 x e)) (fun e=>K ((j63 q32 x_D qa1 y_D q57 ql6 qe2 jc4 qw3 a_D qt3 b_D x) e) ((j20 q32 x_D qa1 y_D q57 ql6 qe2 jc4 qw3 a_D qt3 b_D x) e)) e:=by obtain ⟨i,q,r_Neg,r_D⟩:=e; kernel_rfl
  rw [h]
  simp only [x06,r1_Quo_l2] <;> rfl) n_ e
def u70 (N:Nat)(x y:qa2)(l1:Bool→(List Int)→Bool→(List Int)→Bool→(List Int)→Bool→(List Int)→Bool→(List Int)→Bool→(List Int)→qa2→(Int×List Int×Bool×List Int)→Option (qa2×qa2×Unit)):Option (qa2×qa2×Unit) :=
 bif js4 8 (x.2.1.length:Int) (x.2.1.length:Int) then
 bif q27 ((x.2.1.length:Int) - 1) then
 l1 x.1 x.2.1 y.1 y.2.1 false [] false [] false x.2.1 false y.2.1 x ((x.2.1.length:Int) - 1,(List.replicate (x.2.1.length:Int).toNat 0),false,[])
 else none
 else none
def xp8 (N:Nat)(x y:qa2):Option (qa2×qa2×Unit):=u70 N x y (fun q32 x_D qa1 y_D q57 ql6 qe2 jc4 qw3 a_D qt3 b_D x e=>q87 (x06 N q32 x_D qa1 y_D q57 ql6 qe2 jc4 qw3 a_D qt3 b_D x) N e)
noncomputable def km6 (N:Nat)(x y:qa2):Option (RT [ql5,ql5]):=q24 DR Tryz.prog N (uk1 N) zt9 Tryz.f239 (q13 Tryz.f239) (RT [ql5,ql5]) (qd4 [ql5,ql5] (x,y,())) [] (q42 [ql5,ql5])
theorem q0d (N:Nat)(x y:qa2):km6 N x y=xp8 N x y:=by
 have h:km6 N x y=u70 N x y (fun q32 x_D qa1 y_D q57 ql6 qe2 jc4 qw3 a_D qt3 b_D x e=>q58 (vi3 N ) N (j63 q32 x_D qa1 y_D q57 ql6 qe2 jc4 qw3 a_D qt3 b_D x e) (j20 q32 x_D qa1 y_D q57 ql6 qe2 jc4 qw3 a_D qt3 b_D x e)):=by kernel_rfl
 rw [h]
 simp only [xp8,r1_Quo_l1] <;> rfl
def k94 (m:qa2→qa2→Option (qa2×qa2×Unit)):Ent:=q37 [ql5,ql5] [ql5,ql5] fun (x:Els [ql5,ql5])=>m x.1 x.2.1
def u60 (N:Nat):Ent:=k94 (xp8 N)
theorem uv1 (N:Nat):q17 Tryz.prog 239 (u60 N):=q16 (r1_Quo_Ts N) Tryz.func239 rfl (by kernel_rfl) fun (x:Els [ql5,ql5])=>q0d N x.1 x.2.1
end Go.Proofs.YtgicljncknbgcaaGreat.Abs
