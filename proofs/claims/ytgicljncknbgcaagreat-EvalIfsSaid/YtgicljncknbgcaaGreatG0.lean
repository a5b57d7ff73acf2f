/- The functions of the program, told on typed values, printed by a program: each tells what the reckoning of its body tells. -/
import Derived.Test.YtgicljncknbgcaaGreatL7
import Derived.Test.YtgicljncknbgcaaGreatLA
import Derived.Test.YtgicljncknbgcaaGreatProg
set_option linter.unusedVariables false
set_option linter.unusedSimpArgs false
set_option linter.unusedSectionVars false
namespace Go.Proofs.YtgicljncknbgcaaGreat.Abs
set_option maxRecDepth 100000
open Go Go.Proofs
def q05 :Ty:=.st [(.int .u8),(.int .i64),.str]
abbrev q00 :Type:=Int×Int×(List UInt8)×Unit
def q29 :q00:=(0,0,[],())
def qa4 :Ty:=.st [.str,q05]
abbrev q43 :Type:=(List UInt8)×q00×Unit
def v17 :q43:=([],q29,())
def w74 :Ty:=.st [(.int .i64),(.int .i64)]
abbrev qi7 :Type:=Int×Int×Unit
def d_Place :qi7:=(0,0,())
def q79 :Ty:=.st [(.int .u8),q05,.str,(.list (.int .i64)),w74]
abbrev q23 :Type:=Int×q00×(List UInt8)×(List Int)×qi7×Unit
def qd6 :q23:=(0,q29,[],[],d_Place,())
def qc9 :Ty:=.st [(.int .u8),.str,q05,w74]
abbrev q36 :Type:=Int×(List UInt8)×q00×qi7×Unit
def q30 :q36:=(0,[],q29,d_Place,())
def ql5 :Ty:=.st [.bool,(.list (.int .i64))]
abbrev qa0 :Type:=Bool×(List Int)×Unit
def q07 :Ty:=.st [q05,(.int .i64)]
abbrev q03 :Type:=q00×Int×Unit
def ws5 :q03:=(q29,0,())
def q65 :Ty:=.st [(.list q07),(.list .bool)]
abbrev q34 :Type:=(List q03)×(List Bool)×Unit
abbrev OX0 :Type:=((((List q36)×Int×Int×(List q23)×Int×Int×Unit)×Unit)×(Int×Unit))
abbrev OX1 :Type:=(((List q36)×Int×Int×(List q23)×Int×Int×Unit)×Unit)
abbrev OX2 :Type:=((List q36)×Int×Int×(List q23)×Int×Int×Unit)
abbrev OX3 :Type:=(q00×Int×Unit)
abbrev OX4 :Type:=(qa0×Bool×Bool×Unit)
abbrev OX5 :Type:=(List q36×Int×Int×List q23×Int×Int×List Int)
abbrev OX6 :Type:=((List q36)×qi7×Int×Unit)
abbrev OX7 :Type:=((List q00)×Bool×Int×Unit)
abbrev OX8 :Type:=(Int×List q36×Int×Int×List q23×Int×Int)
def q72 :List UInt8:=0 :: 1 :: 2 :: 2 :: 3 :: 3 :: 3 :: 3 :: 4 :: 4 :: 4 :: 4 :: 4 :: 4 :: 4 :: 4 :: 5 :: 5 :: 5 :: 5 :: 5 :: 5 :: 5 :: 5 :: 5 :: 5 :: 5 :: 5 :: 5 :: 5 :: 5 :: 5 :: 6 :: 6 :: 6 :: 6 :: 6 :: 6 :: 6 :: 6 :: 6 :: 6 :: 6 :: 6 :: 6 :: 6 :: 6 :: 6 :: 6 :: 6 :: 6 :: 6 :: 6 :: 6 :: 6 :: 6 :: 6 :: 6 :: 6 :: 6 :: 6 :: 6 :: 6 :: 6 :: 7 :: 7 :: 7 :: 7 :: 7 :: 7 :: 7 :: 7 :: 7 :: 7 :: 7 :: 7 :: 7 :: 7 :: 7 :: 7 :: 7 :: 7 :: 7 :: 7 :: 7 :: 7 :: 7 :: 7 :: 7 :: 7 :: 7 :: 7 :: 7 :: 7 :: 7 :: 7 :: 7 :: 7 :: 7 :: 7 :: 7 :: 7 :: 7 :: 7 :: 7 :: 7 :: 7 :: 7 :: 7 :: 7 :: 7 :: 7 :: 7 :: 7 :: 7 :: 7 :: 7 :: 7 :: 7 :: 7 :: 7 :: 7 :: 7 :: 7 :: 7 :: 7 :: 7 :: 7 :: 8 :: 8 :: 8 :: 8 :: 8 :: 8 :: 8 :: 8 :: 8 :: 8 :: 8 :: 8 :: 8 :: 8 :: 8 :: 8 :: 8 :: 8 :: 8 :: 8 :: 8 :: 8 :: 8 :: 8 :: 8 :: 8 :: 8 :: 8 :: 8 :: 8 :: 8 :: 8 :: 8 :: 8 :: 8 :: 8 :: 8 :: 8 :: 8 :: 8 :: 8 :: 8 :: 8 :: 8 :: 8 :: 8 :: 8 :: 8 :: 8 :: 8 :: 8 :: 8 :: 8 :: 8 :: 8 :: 8 :: 8 :: 8 :: 8 :: 8 :: 8 :: 8 :: 8 :: 8 :: 8 :: 8 :: 8 :: 8 :: 8 :: 8 :: 8 :: 8 :: 8 :: 8 :: 8 :: 8 :: 8 :: 8 :: 8 :: 8 :: 8 :: 8 :: 8 :: 8 :: 8 :: 8 :: 8 :: 8 :: 8 :: 8 :: 8 :: 8 :: 8 :: 8 :: 8 :: 8 :: 8 :: 8 :: 8 :: 8 :: 8 :: 8 :: 8 :: 8 :: 8 :: 8 :: 8 :: 8 :: 8 :: 8 :: 8 :: 8 :: 8 :: 8 :: 8 :: 8 :: 8 :: 8 :: 8 :: 8 :: 8 :: 8 :: 8 :: 8 :: 8 :: 8 :: 8 :: 8 :: []
def kq9 :FH:=⟨[],[],[],[],false,[],[]⟩
noncomputable def vz6 (N:Nat):q48:=tab []
theorem k30 (N:Nat):q13 Tryz.prog (vz6 N):=q27 _
def y78 (N:Nat)(c:Int):Option Bool :=
 bif decide (c ≥ 97) then
  some (decide (c≤122))
 else
  some false
noncomputable def kp6 (N:Nat)(c:Int):Option (RT [.bool]):=q22 DR Tryz.prog N (vz6 N) kq9 Tryz.f200 (q10 Tryz.f200) (RT [.bool]) (qd2 [(.int .u8)] (c,())) [] (q40 [.bool])
theorem ux1 (N:Nat)(c:Int):kp6 N c=y78 N c:=by kernel_rfl
def u82 (m:Int→Option Bool):Ent:=q35 [(.int .u8)] [.bool] fun (x:Els [(.int .u8)])=>m x.1
def xq5 (N:Nat):Ent:=u82 (y78 N)
theorem vp1 (N:Nat):q16 Tryz.prog 200 (xq5 N):=q15 (k30 N) Tryz.func200 rfl (by kernel_rfl) fun (x:Els [(.int .u8)])=>ux1 N x.1
def kq7 :FH:=⟨[],[],[],[],false,[],[]⟩
noncomputable def u15 (N:Nat):q48:=tab []
theorem k43 (N:Nat):q13 Tryz.prog (u15 N):=q27 _
def wb7 (N:Nat)(c:Int):Option Bool :=
 bif decide (c ≥ 48) then
  some (decide (c≤57))
 else
  some false
noncomputable def kr2 (N:Nat)(c:Int):Option (RT [.bool]):=q22 DR Tryz.prog N (u15 N) kq7 Tryz.f136 (q10 Tryz.f136) (RT [.bool]) (qd2 [(.int .u8)] (c,())) [] (q40 [.bool])
theorem ur1 (N:Nat)(c:Int):kr2 N c=wb7 N c:=by kernel_rfl
def u77 (m:Int→Option Bool):Ent:=q35 [(.int .u8)] [.bool] fun (x:Els [(.int .u8)])=>m x.1
def zr3 (N:Nat):Ent:=u77 (wb7 N)
theorem zt9 (N:Nat):q16 Tryz.prog 136 (zr3 N):=q15 (k43 N) Tryz.func136 rfl (by kernel_rfl) fun (x:Els [(.int .u8)])=>ur1 N x.1
def ur4 :LH:=⟨[(0,.str),(1,.int .i64)],[],[]⟩
def v00 :FH:=⟨[ur4],[],[],[],false,[],[]⟩
noncomputable def ug7 (N:Nat):q48:=tab [(200,xq5 N),(136,zr3 N)]
theorem r6_run_Ts (N:Nat):q13 Tryz.prog (ug7 N):=q06 (vp1 N) <| q06 (zt9 N) <| q27 _
noncomputable def uu4 :Sc:=wl6 Tryz.prog v00
noncomputable def ux2 (N:Nat):Cfg:=⟨N,ug7 N,0⟩
noncomputable def kw1 (N:Nat):Exit→List TV→List TOb→Option Int:=fin Tryz.prog 0 Tryz.f135.results.toList (q40 [(.int .i64)])
def va0 (s:List UInt8)(e:Int):List TV:=match e with
 | at_1=>frm 36 [(0,.str s),(1,.int .i64 at_1)]
def vc2 (s:List UInt8)(e:Int):List TOb:=match e with
 | at_1=>[]
noncomputable def ux0 (N:Nat):(List TV→List TOb→Option Int)→List TV→List TOb→Option Int:=w54 DR uu4 (ux2 N) (ql6 (qc4 (q87 (q08 (q08 (q10 Tryz.f135)))))) ur4 (v00.loops.drop 1) (qk0 0 (qc3 DR uu4 (ux2 N) (q08 (q08 (q08 (q10 Tryz.f135)))) (v00.loops.drop 1) (kw1 N)))
def zy0 (N:Nat)(s:List UInt8)(K0:Int→Option Int)(e:Int):Option Int :=
 match e with
 | at_1 =>
  bif decide (at_1 < (s.length:Int)) then
   bif inR at_1 s.length then
   (y78 N (q37 s at_1)).bind fun r1 =>
   bif r1 then
    bif q26 (at_1 + 1) then
    K0 (at_1 + 1)
    else none
   else
    bif inR at_1 s.length then
    (wb7 N (q37 s at_1)).bind fun r2 =>
    bif r2 then
     bif q26 (at_1 + 1) then
     K0 (at_1 + 1)
     else none
    else
     some at_1
    else none
   else none
  else
   some at_1
theorem r6_run_l1 (N:Nat)(s:List UInt8)(n_:Nat)(e:Int):q57 (ux0 N ) n_ ((va0 s) e) ((vc2 s) e)=q86 (zy0 N s ) n_ e :=
 q39 (va0 s) (vc2 s) (by intro K e; kernel_rfl) n_ e
def xy2 (N:Nat)(s:List UInt8)(at_:Int)(l1:(List UInt8)→Int→Option Int):Option Int :=
 bif decide (at_ ≥ (s.length:Int)) then
  some at_
 else
  bif inR at_ s.length then
  (y78 N (q37 s at_)).bind fun r =>
  bif (!r) then
   some at_
  else
   l1 s at_
  else none
def yz2 (N:Nat)(s:List UInt8)(at_:Int):Option Int:=xy2 N s at_ (fun s e=>q86 (zy0 N s) N e)
noncomputable def km1 (N:Nat)(s:List UInt8)(at_:Int):Option (RT [(.int .i64)]):=q22 DR Tryz.prog N (ug7 N) v00 Tryz.f135 (q10 Tryz.f135) (RT [(.int .i64)]) (qd2 [.str,(.int .i64)] (s,at_,())) [] (q40 [(.int .i64)])
theorem ku7 (N:Nat)(s:List UInt8)(at_:Int):km1 N s at_=yz2 N s at_:=by
 have h:km1 N s at_=xy2 N s at_ (fun s e=>q57 (ux0 N ) N (va0 s e) (vc2 s e)):=by kernel_rfl
 rw [h]
 simp only [yz2,r6_run_l1] <;> rfl
def k99 (m:(List UInt8)→Int→Option Int):Ent:=q35 [.str,(.int .i64)] [(.int .i64)] fun (x:Els [.str,(.int .i64)])=>m x.1 x.2.1
def u03 (N:Nat):Ent:=k99 (yz2 N)
theorem ul5 (N:Nat):q16 Tryz.prog 135 (u03 N):=q15 (r6_run_Ts N) Tryz.func135 rfl (by kernel_rfl) fun (x:Els [.str,(.int .i64)])=>ku7 N x.1 x.2.1
def xm4 :LH:=⟨[(0,.str),(1,.int .i64)],[],[]⟩
def jy3 :LH:=⟨[(0,.str),(1,.int .i64)],[],[]⟩
def qy8 :FH:=⟨[xm4,jy3],[],[],[],false,[],[]⟩
noncomputable def yk6 (N:Nat):q48:=tab [(136,zr3 N)]
theorem ut9 (N:Nat):q13 Tryz.prog (yk6 N):=q06 (zt9 N) <| q27 _
noncomputable def wf5 :Sc:=wl6 Tryz.prog qy8
noncomputable def wf9 (N:Nat):Cfg:=⟨N,yk6 N,0⟩
noncomputable def j89 (N:Nat):Exit→List TV→List TOb→Option Int:=fin Tryz.prog 0 Tryz.f137.results.toList (q40 [(.int .i64)])
def wx6 (s:List UInt8)(e:Int):List TV:=match e with
 | at_1=>frm 52 [(0,.str s),(1,.int .i64 at_1)]
def z21 (s:List UInt8)(e:Int):List TOb:=match e with
 | at_1=>[]
def jv2 (s:List UInt8)(e:Int):List TV:=match e with
 | at_3=>frm 52 [(0,.str s),(1,.int .i64 at_3)]
def y03 (s:List UInt8)(e:Int):List TOb:=match e with
 | at_3=>[]
def y20 (s:List UInt8)(e:Int):List TV:=match e with
 | at_2=>frm 52 [(0,.str s),(1,.int .i64 at_2)]
def jr9 (s:List UInt8)(e:Int):List TOb:=match e with
 | at_2=>[]
noncomputable def xm8 (N:Nat):(List TV→List TOb→Option Int)→List TV→List TOb→Option Int:=w54 DR wf5 (wf9 N) (ql6 (qc4 (q87 (q08 (q08 (q08 (q08 (q10 Tryz.f137)))))))) jy3 (qy8.loops.drop 2) (qk0 2 (qc3 DR wf5 (wf9 N) (q08 (q08 (q08 (q08 (q08 (q10 Tryz.f137)))))) (qy8.loops.drop 2) (j89 N)))
def w19 (N:Nat)(s:List UInt8)(K1:Int→Option Int)(e:Int):Option Int :=
 match e with
 | at_2 =>
  bif decide (at_2 < (s.length:Int)) then
   bif inR at_2 s.length then
   (wb7 N (q37 s at_2)).bind fun r2 =>
   bif r2 then
    bif q26 (at_2 + 1) then
    K1 (at_2 + 1)
    else none
   else
    some at_2
   else none
  else
   some at_2
theorem k05 (N:Nat)(s:List UInt8)(n_:Nat)(e:Int):q57 (xm8 N ) n_ ((y20 s) e) ((jr9 s) e)=q86 (w19 N s ) n_ e :=
 q39 (y20 s) (jr9 s) (by intro K e; kernel_rfl) n_ e
noncomputable def xm6 (N:Nat):(List TV→List TOb→Option Int)→List TV→List TOb→Option Int:=w54 DR wf5 (wf9 N) (ql6 (qc4 (q87 (q08 (q08 (q08 (q08 (q10 Tryz.f137)))))))) jy3 (qy8.loops.drop 2) (qk0 2 (qc3 DR wf5 (wf9 N) (q08 (q08 (q08 (q08 (q08 (q10 Tryz.f137)))))) (qy8.loops.drop 2) (j89 N)))
def wt8 (N:Nat)(s:List UInt8)(K1:Int→Option Int)(e:Int):Option Int :=
 match e with
 | at_3 =>
  bif decide (at_3 < (s.length:Int)) then
   bif inR at_3 s.length then
   (wb7 N (q37 s at_3)).bind fun r4 =>
   bif r4 then
    bif q26 (at_3 + 1) then
    K1 (at_3 + 1)
    else none
   else
    some at_3
   else none
  else
   some at_3
theorem um6 (N:Nat)(s:List UInt8)(n_:Nat)(e:Int):q57 (xm6 N ) n_ ((jv2 s) e) ((y03 s) e)=q86 (wt8 N s ) n_ e :=
 q39 (jv2 s) (y03 s) (by intro K e; kernel_rfl) n_ e
noncomputable def jp7 (N:Nat):(List TV→List TOb→Option Int)→List TV→List TOb→Option Int:=w54 DR wf5 (wf9 N) (ql6 (qc4 (q87 (q08 (q10 Tryz.f137))))) xm4 (qy8.loops.drop 1) (qk0 0 (qc3 DR wf5 (wf9 N) (q08 (q08 (q10 Tryz.f137))) (qy8.loops.drop 1) (j89 N)))
def ze1 (N:Nat)(s:List UInt8)(l2 l3:(List UInt8)→Int→Option Int)(K0:Int→Option Int)(e:Int):Option Int :=
 match e with
 | at_1 =>
  bif decide (at_1 < (s.length:Int)) then
   bif inR at_1 s.length then
   (wb7 N (q37 s at_1)).bind fun r =>
   bif r then
    bif q26 (at_1 + 1) then
    K0 (at_1 + 1)
    else none
   else
    bif q26 (at_1 + 1) then
    bif decide ((at_1 + 1) ≥ (s.length:Int)) then
     some at_1
    else
     bif inR at_1 s.length then
     bif ((q37 s at_1) != 46) then
      some at_1
     else
      bif q26 (at_1 + 1) then
      bif inR (at_1 + 1) s.length then
      (wb7 N (q37 s (at_1 + 1))).bind fun r1 =>
      bif (!r1) then
       some at_1
      else
       bif q26 (at_1 + 1) then
       l2 s (at_1 + 1)
       else none
      else none
      else none
     else none
    else none
   else none
  else
   bif q26 (at_1 + 1) then
   bif decide ((at_1 + 1) ≥ (s.length:Int)) then
    some at_1
   else
    bif inR at_1 s.length then
    bif ((q37 s at_1) != 46) then
     some at_1
    else
     bif q26 (at_1 + 1) then
     bif inR (at_1 + 1) s.length then
     (wb7 N (q37 s (at_1 + 1))).bind fun r3 =>
     bif (!r3) then
      some at_1
     else
      bif q26 (at_1 + 1) then
      l3 s (at_1 + 1)
      else none
     else none
     else none
    else none
   else none
def z26 (N:Nat)(s:List UInt8)(K0:Int→Option Int)(e:Int):Option Int:=ze1 N s (fun s e=>q86 (w19 N s) N e) (fun s e=>q86 (wt8 N s) N e) K0 e
theorem k21 (N:Nat)(s:List UInt8)(n_:Nat)(e:Int):q57 (jp7 N ) n_ ((wx6 s) e) ((z21 s) e)=q86 (z26 N s ) n_ e :=
 q39 (wx6 s) (z21 s) (by
  intro K e
  have h:(jp7 N ) K ((wx6 s) e) ((z21 s) e)=ze1 N s (fun s e=>q57 (xm8 N ) N (y20 s e) (jr9 s e)) (fun s e=>q57 (xm6 N ) N (jv2 s e) (y03 s e)) (fun e=>K ((wx6 s) e) ((z21 s) e)) e:=by kernel_rfl
  rw [h]
  simp only [z26,k05,um6] <;> rfl) n_ e
def j90 (N:Nat)(s:List UInt8)(at_:Int)(l1:(List UInt8)→Int→Option Int):Option Int :=
 l1 s at_
def z28 (N:Nat)(s:List UInt8)(at_:Int):Option Int:=j90 N s at_ (fun s e=>q86 (z26 N s) N e)
noncomputable def v71 (N:Nat)(s:List UInt8)(at_:Int):Option (RT [(.int .i64)]):=q22 DR Tryz.prog N (yk6 N) qy8 Tryz.f137 (q10 Tryz.f137) (RT [(.int .i64)]) (qd2 [.str,(.int .i64)] (s,at_,())) [] (q40 [(.int .i64)])
theorem ug6 (N:Nat)(s:List UInt8)(at_:Int):v71 N s at_=z28 N s at_:=by
 have h:v71 N s at_=j90 N s at_ (fun s e=>q57 (jp7 N ) N (wx6 s e) (z21 s e)):=by kernel_rfl
 rw [h]
 simp only [z28,k21] <;> rfl
def vv3 (m:(List UInt8)→Int→Option Int):Ent:=q35 [.str,(.int .i64)] [(.int .i64)] fun (x:Els [.str,(.int .i64)])=>m x.1 x.2.1
def yt7 (N:Nat):Ent:=vv3 (z28 N)
theorem v90 (N:Nat):q16 Tryz.prog 137 (yt7 N):=q15 (ut9 N) Tryz.func137 rfl (by kernel_rfl) fun (x:Els [.str,(.int .i64)])=>ug6 N x.1 x.2.1
def kh6 :LH:=⟨[(0,.int .i64),(2,.asis),(3,.bool),(4,.own (.int .i64) 504 3 1)],[],[.cells [.bool,.lst (.int .i64)]]⟩
def u52 :FH:=⟨[kh6],[],[],[],false,[],[]⟩
noncomputable def ke6 (N:Nat):q48:=tab []
theorem r1_Of_Ts (N:Nat):q13 Tryz.prog (ke6 N):=q27 _
noncomputable def kk7 :Sc:=wl6 Tryz.prog u52
noncomputable def kf7 (N:Nat):Cfg:=⟨N,ke6 N,0⟩
noncomputable def r1_Of_fin (N:Nat):Exit→List TV→List TOb→Option qa0:=fin Tryz.prog 0 Tryz.f209.results.toList (q40 [ql5])
def ub5 (neg qa3:Bool)(z29:List Int)(e:Int×List Int):List TV:=match e with
 | (n1,d)=>frm 25 [(0,.int .i64 n1),(2,.ref 0 0),(3,.bool neg),(4,.tl (.int .i64) d (.own 504 3 1))]
def ue8 (neg qa3:Bool)(z29:List Int)(e:Int×List Int):List TOb:=match e with
 | (n1,d)=>[.cells [.bool qa3,.tl (.int .i64) z29 .unk] 265 true]
noncomputable def kg1 (N:Nat):(List TV→List TOb→Option qa0)→List TV→List TOb→Option qa0:=w54 DR kk7 (kf7 N) (ql6 (qc4 (q87 (q08 (q08 (q08 (q10 Tryz.f209))))))) kh6 (u52.loops.drop 1) (qk0 0 (qc3 DR kk7 (kf7 N) (q08 (q08 (q08 (q08 (q10 Tryz.f209))))) (u52.loops.drop 1) (r1_Of_fin N)))
def uf5 (N:Nat)(neg qa3:Bool)(z29:List Int)(K0:(Int×List Int)→Option qa0)(e:Int×List Int):Option qa0 :=
 match e with
 | (n1,d) =>
  bif (n1 != 0) then
   bif decide ((Int.tmod n1 10000) < 0) then
    bif q26 (0 - (Int.tmod n1 10000)) then
    bif w23 (d.length + [0 - (Int.tmod n1 10000)].length) 17592186044416 then
    bif q26 (Int.tdiv n1 10000) then
    K0 (Int.tdiv n1 10000,(d ++ [0 - (Int.tmod n1 10000)]))
    else none
    else none
    else none
   else
    bif w23 (d.length + [Int.tmod n1 10000].length) 17592186044416 then
    bif q26 (Int.tdiv n1 10000) then
    K0 (Int.tdiv n1 10000,(d ++ [Int.tmod n1 10000]))
    else none
    else none
  else
   some (neg,d,())
theorem r1_Of_l1 (N:Nat)(neg qa3:Bool)(z29:List Int)(n_:Nat)(e:Int×List Int):q57 (kg1 N ) n_ ((ub5 neg qa3 z29) e) ((ue8 neg qa3 z29) e)=q86 (uf5 N neg qa3 z29 ) n_ e :=
 q39 (ub5 neg qa3 z29) (ue8 neg qa3 z29) (by intro K e; obtain ⟨n1,d⟩:=e; kernel_rfl) n_ e
def k40 (N:Nat)(n:Int)(l1:Bool→Bool→(List Int)→(Int×List Int)→Option qa0):Option qa0 :=
 l1 (decide (n < 0)) false [] (n,[])
def qy4 (N:Nat)(n:Int):Option qa0:=k40 N n (fun neg qa3 z29 e=>q86 (uf5 N neg qa3 z29) N e)
noncomputable def r1_Of_C (N:Nat)(n:Int):Option (RT [ql5]):=q22 DR Tryz.prog N (ke6 N) u52 Tryz.f209 (q10 Tryz.f209) (RT [ql5]) (qd2 [(.int .i64)] (n,())) [] (q40 [ql5])
theorem r1_Of_run (N:Nat)(n:Int):r1_Of_C N n=qy4 N n:=by
 have h:r1_Of_C N n=k40 N n (fun neg qa3 z29 e=>q57 (kg1 N ) N (ub5 neg qa3 z29 e) (ue8 neg qa3 z29 e)):=by kernel_rfl
 rw [h]
 simp only [qy4,r1_Of_l1] <;> rfl
def kv9 (m:Int→Option qa0):Ent:=q35 [(.int .i64)] [ql5] fun (x:Els [(.int .i64)])=>m x.1
def j17 (N:Nat):Ent:=kv9 (qy4 N)
theorem zn9 (N:Nat):q16 Tryz.prog 209 (j17 N):=q15 (r1_Of_Ts N) Tryz.func209 rfl (by kernel_rfl) fun (x:Els [(.int .i64)])=>r1_Of_run N x.1
def kj2 :LH:=⟨[(0,.lst (.int .i64)),(1,.lst (.int .i64)),(5,.own (.int .i64) 505 3 1),(6,.int .i64),(7,.int .i64)],[],[]⟩
def ud3 :FH:=⟨[kj2],[],[],[],false,[],[]⟩
noncomputable def kd4 (N:Nat):q48:=tab []
theorem r1_up_Ts (N:Nat):q13 Tryz.prog (kd4 N):=q27 _
noncomputable def ki3 :Sc:=wl6 Tryz.prog ud3
noncomputable def kk2 (N:Nat):Cfg:=⟨N,kd4 N,0⟩
noncomputable def r1_up_fin (N:Nat):Exit→List TV→List TOb→Option (List Int):=fin Tryz.prog 0 Tryz.f276.results.toList (q40 [(.list (.int .i64))])
def uf6 (a b:List Int)(e:List Int×Int×Int):List TV:=match e with
 | (out,more,i)=>frm 52 [(0,.tl (.int .i64) a .unk),(1,.tl (.int .i64) b .unk),(5,.tl (.int .i64) out (.own 505 3 1)),(6,.int .i64 more),(7,.int .i64 i)]
def uh4 (a b:List Int)(e:List Int×Int×Int):List TOb:=match e with
 | (out,more,i)=>[]
noncomputable def km2 (N:Nat):(List TV→List TOb→Option (List Int))→List TV→List TOb→Option (List Int):=w54 DR ki3 (kk2 N) (ql6 (qc4 (q08 (q87 (q08 (q08 (q08 (q10 Tryz.f276)))))))) kj2 (ud3.loops.drop 1) (qk0 0 (qc3 DR ki3 (kk2 N) (q08 (q08 (q08 (q08 (q10 Tryz.f276))))) (ud3.loops.drop 1) (r1_up_fin N)))
def uh7 (N:Nat)(a b:List Int)(K0:(List Int×Int×Int)→Option (List Int))(e:List Int×Int×Int):Option (List Int) :=
 match e with
 | (out,more,i) =>
  bif decide (i < (a.length:Int)) then
   bif decide (i < (a.length:Int)) then
    bif inR i a.length then
    bif q26 (more + (q24 a i 0)) then
    bif decide (i < (b.length:Int)) then
     bif inR i b.length then
     bif q26 ((more + (q24 a i 0)) + (q24 b i 0)) then
     bif w23 (out.length + [Int.tmod ((more + (q24 a i 0)) + (q24 b i 0)) 10000].length) 17592186044416 then
     bif q26 (Int.tdiv ((more + (q24 a i 0)) + (q24 b i 0)) 10000) then
     bif q26 (i + 1) then
     K0 ((out ++ [Int.tmod ((more + (q24 a i 0)) + (q24 b i 0)) 10000]),Int.tdiv ((more + (q24 a i 0)) + (q24 b i 0)) 10000,i + 1)
     else none
     else none
     else none
     else none
     else none
    else
     bif w23 (out.length + [Int.tmod (more + (q24 a i 0)) 10000].length) 17592186044416 then
     bif q26 (Int.tdiv (more + (q24 a i 0)) 10000) then
     bif q26 (i + 1) then
     K0 ((out ++ [Int.tmod (more + (q24 a i 0)) 10000]),Int.tdiv (more + (q24 a i 0)) 10000,i + 1)
     else none
     else none
     else none
    else none
    else none
   else
    bif decide (i < (b.length:Int)) then
     bif inR i b.length then
     bif q26 (more + (q24 b i 0)) then
     bif w23 (out.length + [Int.tmod (more + (q24 b i 0)) 10000].length) 17592186044416 then
     bif q26 (Int.tdiv (more + (q24 b i 0)) 10000) then
     bif q26 (i + 1) then
     K0 ((out ++ [Int.tmod (more + (q24 b i 0)) 10000]),Int.tdiv (more + (q24 b i 0)) 10000,i + 1)
     else none
     else none
     else none
     else none
     else none
    else
     bif w23 (out.length + [Int.tmod more 10000].length) 17592186044416 then
     bif q26 (Int.tdiv more 10000) then
     bif q26 (i + 1) then
     K0 ((out ++ [Int.tmod more 10000]),Int.tdiv more 10000,i + 1)
     else none
     else none
     else none
  else
   bif decide (i < (b.length:Int)) then
    bif decide (i < (a.length:Int)) then
     bif inR i a.length then
     bif q26 (more + (q24 a i 0)) then
     bif decide (i < (b.length:Int)) then
      bif inR i b.length then
      bif q26 ((more + (q24 a i 0)) + (q24 b i 0)) then
      bif w23 (out.length + [Int.tmod ((more + (q24 a i 0)) + (q24 b i 0)) 10000].length) 17592186044416 then
      bif q26 (Int.tdiv ((more + (q24 a i 0)) + (q24 b i 0)) 10000) then
      bif q26 (i + 1) then
      K0 ((out ++ [Int.tmod ((more + (q24 a i 0)) + (q24 b i 0)) 10000]),Int.tdiv ((more + (q24 a i 0)) + (q24 b i 0)) 10000,i + 1)
      else none
      else none
      else none
      else none
      else none
     else
      bif w23 (out.length + [Int.tmod (more + (q24 a i 0)) 10000].length) 17592186044416 then
      bif q26 (Int.tdiv (more + (q24 a i 0)) 10000) then
      bif q26 (i + 1) then
      K0 ((out ++ [Int.tmod (more + (q24 a i 0)) 10000]),Int.tdiv (more + (q24 a i 0)) 10000,i + 1)
      else none
      else none
      else none
     else none
     else none
    else
     bif decide (i < (b.length:Int)) then
      bif inR i b.length then
      bif q26 (more + (q24 b i 0)) then
      bif w23 (out.length + [Int.tmod (more + (q24 b i 0)) 10000].length) 17592186044416 then
      bif q26 (Int.tdiv (more + (q24 b i 0)) 10000) then
      bif q26 (i + 1) then
      K0 ((out ++ [Int.tmod (more + (q24 b i 0)) 10000]),Int.tdiv (more + (q24 b i 0)) 10000,i + 1)
      else none
      else none
      else none
      else none
      else none
     else
      bif w23 (out.length + [Int.tmod more 10000].length) 17592186044416 then
      bif q26 (Int.tdiv more 10000) then
      bif q26 (i + 1) then
      K0 ((out ++ [Int.tmod more 10000]),Int.tdiv more 10000,i + 1)
      else none
      else none
      else none
   else
    bif decide (more > 0) then
     bif decide (i < (a.length:Int)) then
      bif inR i a.length then
      bif q26 (more + (q24 a i 0)) then
      bif decide (i < (b.length:Int)) then
       bif inR i b.length then
       bif q26 ((more + (q24 a i 0)) + (q24 b i 0)) then
       bif w23 (out.length + [Int.tmod ((more + (q24 a i 0)) + (q24 b i 0)) 10000].length) 17592186044416 then
       bif q26 (Int.tdiv ((more + (q24 a i 0)) + (q24 b i 0)) 10000) then
       bif q26 (i + 1) then
       K0 ((out ++ [Int.tmod ((more + (q24 a i 0)) + (q24 b i 0)) 10000]),Int.tdiv ((more + (q24 a i 0)) + (q24 b i 0)) 10000,i + 1)
       else none
       else none
       else none
       else none
       else none
      else
       bif w23 (out.length + [Int.tmod (more + (q24 a i 0)) 10000].length) 17592186044416 then
       bif q26 (Int.tdiv (more + (q24 a i 0)) 10000) then
       bif q26 (i + 1) then
       K0 ((out ++ [Int.tmod (more + (q24 a i 0)) 10000]),Int.tdiv (more + (q24 a i 0)) 10000,i + 1)
       else none
       else none
       else none
      else none
      else none
     else
      bif decide (i < (b.length:Int)) then
       bif inR i b.length then
       bif q26 (more + (q24 b i 0)) then
       bif w23 (out.length + [Int.tmod (more + (q24 b i 0)) 10000].length) 17592186044416 then
       bif q26 (Int.tdiv (more + (q24 b i 0)) 10000) then
       bif q26 (i + 1) then
       K0 ((out ++ [Int.tmod (more + (q24 b i 0)) 10000]),Int.tdiv (more + (q24 b i 0)) 10000,i + 1)
       else none
       else none
       else none
       else none
       else none
      else
       bif w23 (out.length + [Int.tmod more 10000].length) 17592186044416 then
       bif q26 (Int.tdiv more 10000) then
       bif q26 (i + 1) then
       K0 ((out ++ [Int.tmod more 10000]),Int.tdiv more 10000,i + 1)
       else none
       else none
       else none
    else
     some out
theorem r1_up_l1 (N:Nat)(a b:List Int)(n_:Nat)(e:List Int×Int×Int):q57 (km2 N ) n_ ((uf6 a b) e) ((uh4 a b) e)=q86 (uh7 N a b ) n_ e :=
 q39 (uf6 a b) (uh4 a b) (by intro K e; obtain ⟨out,more,i⟩:=e; kernel_rfl) n_ e
def k94 (N:Nat)(a b:List Int)(l1:(List Int)→(List Int)→(List Int×Int×Int)→Option (List Int)):Option (List Int) :=
 l1 a b ([],0,0)
def k35 (N:Nat)(a b:List Int):Option (List Int):=k94 N a b (fun a b e=>q86 (uh7 N a b) N e)
noncomputable def r1_up_C (N:Nat)(a b:List Int):Option (RT [(.list (.int .i64))]):=q22 DR Tryz.prog N (kd4 N) ud3 Tryz.f276 (q10 Tryz.f276) (RT [(.list (.int .i64))]) (qd2 [(.list (.int .i64)),(.list (.int .i64))] (a,b,())) [] (q40 [(.list (.int .i64))])
theorem r1_up_run (N:Nat)(a b:List Int):r1_up_C N a b=k35 N a b:=by
 have h:r1_up_C N a b=k94 N a b (fun a b e=>q57 (km2 N ) N (uf6 a b e) (uh4 a b e)):=by kernel_rfl
 rw [h]
 simp only [k35,r1_up_l1] <;> rfl
def ky3 (m:(List Int)→(List Int)→Option (List Int)):Ent:=q35 [(.list (.int .i64)),(.list (.int .i64))] [(.list (.int .i64))] fun (x:Els [(.list (.int .i64)),(.list (.int .i64))])=>m x.1 x.2.1
def v70 (N:Nat):Ent:=ky3 (k35 N)
theorem v79 (N:Nat):q16 Tryz.prog 276 (v70 N):=q15 (r1_up_Ts N) Tryz.func276 rfl (by kernel_rfl) fun (x:Els [(.list (.int .i64)),(.list (.int .i64))])=>r1_up_run N x.1 x.2.1
def vy6 :LH:=⟨[(0,.bool),(1,.lst (.int .i64)),(4,.asis)],[],[.cells [.bool,.lst (.int .i64)]]⟩
def x27 :FH:=⟨[vy6],[],[],[],false,[],[]⟩
noncomputable def ve5 (N:Nat):q48:=tab []
theorem kp7 (N:Nat):q13 Tryz.prog (ve5 N):=q27 _
noncomputable def vw2 :Sc:=wl6 Tryz.prog x27
noncomputable def vx0 (N:Nat):Cfg:=⟨N,ve5 N,0⟩
noncomputable def ka1 (N:Nat):Exit→List TV→List TOb→Option qa0:=fin Tryz.prog 0 Tryz.f268.results.toList (q40 [ql5])
def xe8 (neg q56:Bool)(ql2 e:List Int):List TV:=match e with
 | d1=>frm 30 [(0,.bool neg),(1,.tl (.int .i64) d1 .unk),(4,.ref 0 0)]
def xd5 (neg q56:Bool)(ql2 e:List Int):List TOb:=match e with
 | d1=>[.cells [.bool q56,.tl (.int .i64) ql2 .unk] 265 true]
noncomputable def vw5 (N:Nat):(List TV→List TOb→Option qa0)→List TV→List TOb→Option qa0:=w54 DR vw2 (vx0 N) (ql6 (qc4 (q87 (q08 (q10 Tryz.f268))))) vy6 (x27.loops.drop 1) (qk0 0 (qc3 DR vw2 (vx0 N) (q08 (q08 (q10 Tryz.f268))) (x27.loops.drop 1) (ka1 N)))
def xd3 (N:Nat)(neg q56:Bool)(ql2:List Int)(K0:(List Int)→Option qa0)(e:List Int):Option qa0 :=
 match e with
 | d1 =>
  bif decide ((d1.length:Int) > 0) then
   bif q26 ((d1.length:Int) - 1) then
   bif inR ((d1.length:Int) - 1) d1.length then
   bif ((q24 d1 ((d1.length:Int) - 1) 0) == 0) then
    bif q26 ((d1.length:Int) - 1) then
    bif upTo ((d1.length:Int) - 1) d1.length then
    K0 (d1.take ((d1.length:Int) - 1).toNat)
    else none
    else none
   else
    bif neg then
     some (decide ((d1.length:Int) > 0),d1,())
    else
     some (false,d1,())
   else none
   else none
  else
   bif neg then
    some (decide ((d1.length:Int) > 0),d1,())
   else
    some (false,d1,())
theorem ku5 (N:Nat)(neg q56:Bool)(ql2:List Int)(n_:Nat)(e:List Int):q57 (vw5 N ) n_ ((xe8 neg q56 ql2) e) ((xd5 neg q56 ql2) e)=q86 (xd3 N neg q56 ql2 ) n_ e :=
 q39 (xe8 neg q56 ql2) (xd5 neg q56 ql2) (by intro K e; kernel_rfl) n_ e
def v34 (N:Nat)(neg:Bool)(d:List Int)(l1:Bool→Bool→(List Int)→(List Int)→Option qa0):Option qa0 :=
 l1 neg false [] d
def wj6 (N:Nat)(neg:Bool)(d:List Int):Option qa0:=v34 N neg d (fun neg q56 ql2 e=>q86 (xd3 N neg q56 ql2) N e)
noncomputable def uu1 (N:Nat)(neg:Bool)(d:List Int):Option (RT [ql5]):=q22 DR Tryz.prog N (ve5 N) x27 Tryz.f268 (q10 Tryz.f268) (RT [ql5]) (qd2 [.bool,(.list (.int .i64))] (neg,d,())) [] (q40 [ql5])
theorem ke0 (N:Nat)(neg:Bool)(d:List Int):uu1 N neg d=wj6 N neg d:=by
 have h:uu1 N neg d=v34 N neg d (fun neg q56 ql2 e=>q57 (vw5 N ) N (xe8 neg q56 ql2 e) (xd5 neg q56 ql2 e)):=by kernel_rfl
 rw [h]
 simp only [wj6,ku5] <;> rfl
def k22 (m:Bool→(List Int)→Option qa0):Ent:=q35 [.bool,(.list (.int .i64))] [ql5] fun (x:Els [.bool,(.list (.int .i64))])=>m x.1 x.2.1
def zk8 (N:Nat):Ent:=k22 (wj6 N)
theorem ze7 (N:Nat):q16 Tryz.prog 268 (zk8 N):=q15 (kp7 N) Tryz.func268 rfl (by kernel_rfl) fun (x:Els [.bool,(.list (.int .i64))])=>ke0 N x.1 x.2.1
def vg2 :LH:=⟨[(2,.asis),(3,.asis),(4,.asis),(5,.asis),(6,.int .i64)],[],[.cells [.bool,.lst (.int .i64)],.cells [.bool,.lst (.int .i64)],.cells [.bool,.lst (.int .i64)],.cells [.bool,.lst (.int .i64)]]⟩
def ut6 :LH:=⟨[(2,.asis),(3,.asis),(4,.asis),(5,.asis),(6,.int .i64),(7,.own (.int .i64) 507 3 1),(8,.int .i64),(9,.int .i64)],[],[.cells [.bool,.lst (.int .i64)],.cells [.bool,.lst (.int .i64)],.cells [.bool,.lst (.int .i64)],.cells [.bool,.lst (.int .i64)]]⟩
def zq4 :FH:=⟨[vg2,ut6],[],[(11,⟨12,69,0,[],[]⟩)],[],false,[],[]⟩
noncomputable def ue7 (N:Nat):q48:=tab [(276,v70 N),(268,zk8 N)]
theorem r1_Mul_Ts (N:Nat):q13 Tryz.prog (ue7 N):=q06 (v79 N) <| q06 (ze7 N) <| q27 _
noncomputable def j19 :Sc:=wl6 Tryz.prog zq4
noncomputable def zm2 (N:Nat):Cfg:=⟨N,ue7 N,0⟩
noncomputable def vx6 (N:Nat):Exit→List TV→List TOb→Option qa0:=fin Tryz.prog 0 Tryz.f247.results.toList (q40 [ql5])
def zw1 (q31:Bool)(x_D:List Int)(q99:Bool)(y_D:List Int)(q56:Bool)(ql2:List Int)(e:Int×Bool×List Int):List TV:=match e with
 | (i,qt0,zo5)=>frm 69 [(2,.ref 0 0),(3,.ref 1 0),(4,.ref 2 0),(5,.ref 3 0),(6,.int .i64 i)]
def j12 (q31:Bool)(x_D:List Int)(q99:Bool)(y_D:List Int)(q56:Bool)(ql2:List Int)(e:Int×Bool×List Int):List TOb:=match e with
 | (i,qt0,zo5)=>[.cells [.bool q31,.tl (.int .i64) x_D .unk] 265 true,.cells [.bool q99,.tl (.int .i64) y_D .unk] 265 true,.cells [.bool q56,.tl (.int .i64) ql2 .unk] 265 true,.cells [.bool qt0,.tl (.int .i64) zo5 .unk] 265 true]
def v15 (i:Int)(q31:Bool)(x_D:List Int)(q99:Bool)(y_D:List Int)(q56:Bool)(ql2:List Int)(qt0:Bool)(zo5:List Int)(e:List Int×Int×Int):List TV:=match e with
 | (row,more,k)=>frm 69 [(2,.ref 0 0),(3,.ref 1 0),(4,.ref 2 0),(5,.ref 3 0),(6,.int .i64 i),(7,.tl (.int .i64) row (.own 507 3 1)),(8,.int .i64 more),(9,.int .i64 k)]
def vf8 (i:Int)(q31:Bool)(x_D:List Int)(q99:Bool)(y_D:List Int)(q56:Bool)(ql2:List Int)(qt0:Bool)(zo5:List Int)(e:List Int×Int×Int):List TOb:=match e with
 | (row,more,k)=>[.cells [.bool q31,.tl (.int .i64) x_D .unk] 265 true,.cells [.bool q99,.tl (.int .i64) y_D .unk] 265 true,.cells [.bool q56,.tl (.int .i64) ql2 .unk] 265 true,.cells [.bool qt0,.tl (.int .i64) zo5 .unk] 265 true]
noncomputable def ul3 (N:Nat)(K0r:List TV→List TOb→Option qa0):(List TV→List TOb→Option qa0)→List TV→List TOb→Option qa0:=w54 DR j19 (zm2 N) (ql6 (qc4 (q08 (q87 (q08 (q08 (qc4 (q87 (q08 (ql6 (qc4 (q08 (q87 (q08 (q08 (q10 Tryz.f247)))))))))))))))) ut6 (zq4.loops.drop 2) (qk0 2 (qc3 DR j19 (zm2 N) (q08 (q08 (q08 (qc4 (q87 (q08 (ql6 (qc4 (q08 (q87 (q08 (q08 (q10 Tryz.f247))))))))))))) (zq4.loops.drop 2) (qk0 1 (qc3 DR j19 (zm2 N) (q08 (q08 (ql6 (qc4 (q08 (q87 (q08 (q08 (q10 Tryz.f247))))))))) (zq4.loops.drop 2) (ud6 (zm2 N) vg2 (qk0 0 (qc3 DR j19 (zm2 N) (q08 (q08 (q08 (q10 Tryz.f247)))) (zq4.loops.drop 2) (vx6 N))) K0r)))))
def vb7 (N:Nat)(i:Int)(q31:Bool)(x_D:List Int)(q99:Bool)(y_D:List Int)(q56:Bool)(ql2:List Int)(qt0:Bool)(zo5:List Int)(K0:(Int×Bool×List Int)→Option qa0)(K1:(List Int×Int×Int)→Option qa0)(e:List Int×Int×Int):Option qa0 :=
 match e with
 | (row,more,k) =>
  bif decide (k < (x_D.length:Int)) then
   bif decide (k < (x_D.length:Int)) then
    bif inR k x_D.length then
    bif inR i y_D.length then
    bif q26 ((q24 x_D k 0) * (q24 y_D i 0)) then
    bif q26 (more + ((q24 x_D k 0) * (q24 y_D i 0))) then
    bif w23 (row.length + [Int.tmod (more + ((q24 x_D k 0) * (q24 y_D i 0))) 10000].length) 17592186044416 then
    bif q26 (Int.tdiv (more + ((q24 x_D k 0) * (q24 y_D i 0))) 10000) then
    bif q26 (k + 1) then
    K1 ((row ++ [Int.tmod (more + ((q24 x_D k 0) * (q24 y_D i 0))) 10000]),Int.tdiv (more + ((q24 x_D k 0) * (q24 y_D i 0))) 10000,k + 1)
    else none
    else none
    else none
    else none
    else none
    else none
    else none
   else
    bif w23 (row.length + [Int.tmod more 10000].length) 17592186044416 then
    bif q26 (Int.tdiv more 10000) then
    bif q26 (k + 1) then
    K1 ((row ++ [Int.tmod more 10000]),Int.tdiv more 10000,k + 1)
    else none
    else none
    else none
  else
   bif decide (more > 0) then
    bif decide (k < (x_D.length:Int)) then
     bif inR k x_D.length then
     bif inR i y_D.length then
     bif q26 ((q24 x_D k 0) * (q24 y_D i 0)) then
     bif q26 (more + ((q24 x_D k 0) * (q24 y_D i 0))) then
     bif w23 (row.length + [Int.tmod (more + ((q24 x_D k 0) * (q24 y_D i 0))) 10000].length) 17592186044416 then
     bif q26 (Int.tdiv (more + ((q24 x_D k 0) * (q24 y_D i 0))) 10000) then
     bif q26 (k + 1) then
     K1 ((row ++ [Int.tmod (more + ((q24 x_D k 0) * (q24 y_D i 0))) 10000]),Int.tdiv (more + ((q24 x_D k 0) * (q24 y_D i 0))) 10000,k + 1)
     else none
     else none
     else none
     else none
     else none
     else none
     else none
    else
     bif w23 (row.length + [Int.tmod more 10000].length) 17592186044416 then
     bif q26 (Int.tdiv more 10000) then
     bif q26 (k + 1) then
     K1 ((row ++ [Int.tmod more 10000]),Int.tdiv more 10000,k + 1)
     else none
     else none
     else none
   else
    (k35 N zo5 row).bind fun r =>
    (wj6 N false r).bind fun r1 =>
    bif q26 (i + 1) then
    K0 (i + 1,r1.1,r1.2.1)
    else none
theorem r1_Mul_l2 (N:Nat)(i:Int)(q31:Bool)(x_D:List Int)(q99:Bool)(y_D:List Int)(q56:Bool)(ql2:List Int)(qt0:Bool)(zo5:List Int)(K0r:List TV→List TOb→Option qa0)(n_:Nat)(e:List Int×Int×Int):q57 (ul3 N K0r) n_ ((v15 i q31 x_D q99 y_D q56 ql2 qt0 zo5) e) ((vf8 i q31 x_D q99 y_D q56 ql2 qt0 zo5) e)=q86 (vb7 N i q31 x_D q99 y_D q56 ql2 qt0 zo5 (fun a=>K0r (zw1 q31 x_D q99 y_D q56 ql2 a) (j12 q31 x_D q99 y_D q56 ql2 a))) n_ e :=
 q39 (v15 i q31 x_D q99 y_D q56 ql2 qt0 zo5) (vf8 i q31 x_D q99 y_D q56 ql2 qt0 zo5) (by intro K e; obtain ⟨row,more,k⟩:=e; kernel_rfl) n_ e
noncomputable def vb6 (N:Nat):(List TV→List TOb→Option qa0)→List TV→List TOb→Option qa0:=w54 DR j19 (zm2 N) (ql6 (qc4 (q08 (q87 (q08 (q08 (q10 Tryz.f247))))))) vg2 (zq4.loops.drop 1) (qk0 0 (qc3 DR j19 (zm2 N) (q08 (q08 (q08 (q10 Tryz.f247)))) (zq4.loops.drop 2) (vx6 N)))
def x79 (N:Nat)(q31:Bool)(x_D:List Int)(q99:Bool)(y_D:List Int)(q56:Bool)(ql2:List Int)(l2:Int→Bool→(List Int)→Bool→(List Int)→Bool→(List Int)→Bool→(List Int)→(List Int×Int×Int)→Option qa0)(K0:(Int×Bool×List Int)→Option qa0)(e:Int×Bool×List Int):Option qa0 :=
 match e with
 | (i,qt0,zo5) =>
  bif decide (i < (y_D.length:Int)) then
   bif jw4 8 i i then
   l2 i q31 x_D q99 y_D q56 ql2 qt0 zo5 ((List.replicate i.toNat 0),0,0)
   else none
  else
   (wj6 N (!(q31 == q99)) zo5).bind fun r2 =>
   some r2
def x62 (N:Nat)(q31:Bool)(x_D:List Int)(q99:Bool)(y_D:List Int)(q56:Bool)(ql2:List Int)(K0:(Int×Bool×List Int)→Option qa0)(e:Int×Bool×List Int):Option qa0:=x79 N q31 x_D q99 y_D q56 ql2 (fun i q31 x_D q99 y_D q56 ql2 qt0 zo5 e=>q86 (vb7 N i q31 x_D q99 y_D q56 ql2 qt0 zo5 K0) N e) K0 e
theorem r1_Mul_l1 (N:Nat)(q31:Bool)(x_D:List Int)(q99:Bool)(y_D:List Int)(q56:Bool)(ql2:List Int)(n_:Nat)(e:Int×Bool×List Int):q57 (vb6 N ) n_ ((zw1 q31 x_D q99 y_D q56 ql2) e) ((j12 q31 x_D q99 y_D q56 ql2) e)=q86 (x62 N q31 x_D q99 y_D q56 ql2 ) n_ e :=
 q39 (zw1 q31 x_D q99 y_D q56 ql2) (j12 q31 x_D q99 y_D q56 ql2) (by
  intro K e
  have h:(vb6 N ) K ((zw1 q31 x_D q99 y_D q56 ql2) e) ((j12 q31 x_D q99 y_D q56 ql2) e)=x79 N q31 x_D q99 y_D q56 ql2 (fun i q31 x_D q99 y_D q56 ql2 qt0 zo5 e=>q57 (ul3 N K) N (v15 i q31 x_D q99 y_D q56 ql2 qt0 zo5 e) (vf8 i q31 x_D q99 y_D q56 ql2 qt0 zo5 e)) (fun e=>K ((zw1 q31 x_D q99 y_D q56 ql2) e) ((j12 q31 x_D q99 y_D q56 ql2) e)) e:=by obtain ⟨i,qt0,zo5⟩:=e; kernel_rfl
  rw [h]
  simp only [x62,r1_Mul_l2] <;> rfl) n_ e
def ug9 (N:Nat)(x y:qa0)(l1:Bool→(List Int)→Bool→(List Int)→Bool→(List Int)→(Int×Bool×List Int)→Option qa0):Option qa0 :=
 l1 x.1 x.2.1 y.1 y.2.1 false [] (0,false,[])
def wf2 (N:Nat)(x y:qa0):Option qa0:=ug9 N x y (fun q31 x_D q99 y_D q56 ql2 e=>q86 (x62 N q31 x_D q99 y_D q56 ql2) N e)
noncomputable def kh3 (N:Nat)(x y:qa0):Option (RT [ql5]):=q22 DR Tryz.prog N (ue7 N) zq4 Tryz.f247 (q10 Tryz.f247) (RT [ql5]) (qd2 [ql5,ql5] (x,y,())) [] (q40 [ql5])
theorem kq4 (N:Nat)(x y:qa0):kh3 N x y=wf2 N x y:=by
 have h:kh3 N x y=ug9 N x y (fun q31 x_D q99 y_D q56 ql2 e=>q57 (vb6 N ) N (zw1 q31 x_D q99 y_D q56 ql2 e) (j12 q31 x_D q99 y_D q56 ql2 e)):=by kernel_rfl
 rw [h]
 simp only [wf2,r1_Mul_l1] <;> rfl
def k92 (m:qa0→qa0→Option qa0):Ent:=q35 [ql5,ql5] [ql5] fun (x:Els [ql5,ql5])=>m x.1 x.2.1
def xa9 (N:Nat):Ent:=k92 (wf2 N)
theorem xr5 (N:Nat):q16 Tryz.prog 247 (xa9 N):=q15 (r1_Mul_Ts N) Tryz.func247 rfl (by kernel_rfl) fun (x:Els [ql5,ql5])=>kq4 N x.1 x.2.1
def kk1 :LH:=⟨[(0,.lst (.int .i64)),(1,.lst (.int .i64)),(5,.int .i64)],[],[]⟩
def uh8 :FH:=⟨[kk1],[],[(6,⟨8,41,0,[],[]⟩),(7,⟨8,41,0,[],[]⟩)],[],false,[],[]⟩
noncomputable def kb6 (N:Nat):q48:=tab []
theorem r1_by_Ts (N:Nat):q13 Tryz.prog (kb6 N):=q27 _
noncomputable def kj4 :Sc:=wl6 Tryz.prog uh8
noncomputable def km7 (N:Nat):Cfg:=⟨N,kb6 N,0⟩
noncomputable def r1_by_fin (N:Nat):Exit→List TV→List TOb→Option Int:=fin Tryz.prog 0 Tryz.f277.results.toList (q40 [(.int .i64)])
def u97 (a b:List Int)(e:Int):List TV:=match e with
 | i=>frm 41 [(0,.tl (.int .i64) a .unk),(1,.tl (.int .i64) b .unk),(5,.int .i64 i)]
def uc8 (a b:List Int)(e:Int):List TOb:=match e with
 | i=>[]
noncomputable def kh8 (N:Nat):(List TV→List TOb→Option Int)→List TV→List TOb→Option Int:=w54 DR kj4 (km7 N) (ql6 (qc4 (q08 (q87 (q08 (q08 (q10 Tryz.f277))))))) kk1 (uh8.loops.drop 1) (qk0 0 (qc3 DR kj4 (km7 N) (q08 (q08 (q08 (q10 Tryz.f277)))) (uh8.loops.drop 1) (r1_by_fin N)))
def ue1 (N:Nat)(a b:List Int)(K0:Int→Option Int)(e:Int):Option Int :=
 match e with
 | i =>
  bif decide (i ≥ 0) then
   bif inR i a.length then
   bif inR i b.length then
   bif ((q24 a i 0) != (q24 b i 0)) then
    bif inR i a.length then
    bif inR i b.length then
    bif q26 ((q24 a i 0) - (q24 b i 0)) then
    some ((q24 a i 0) - (q24 b i 0))
    else none
    else none
    else none
   else
    bif q26 (i - 1) then
    K0 (i - 1)
    else none
   else none
   else none
  else
   some 0
theorem r1_by_l1 (N:Nat)(a b:List Int)(n_:Nat)(e:Int):q57 (kh8 N ) n_ ((u97 a b) e) ((uc8 a b) e)=q86 (ue1 N a b ) n_ e :=
 q39 (u97 a b) (uc8 a b) (by intro K e; kernel_rfl) n_ e
def kd8 (N:Nat)(a b:List Int)(l1:(List Int)→(List Int)→Int→Option Int):Option Int :=
 bif ((a.length:Int) != (b.length:Int)) then
  bif q26 ((a.length:Int) - (b.length:Int)) then
  some ((a.length:Int) - (b.length:Int))
  else none
 else
  bif q26 ((a.length:Int) - 1) then
  l1 a b ((a.length:Int) - 1)
  else none
def kq0 (N:Nat)(a b:List Int):Option Int:=kd8 N a b (fun a b e=>q86 (ue1 N a b) N e)
noncomputable def r1_by_C (N:Nat)(a b:List Int):Option (RT [(.int .i64)]):=q22 DR Tryz.prog N (kb6 N) uh8 Tryz.f277 (q10 Tryz.f277) (RT [(.int .i64)]) (qd2 [(.list (.int .i64)),(.list (.int .i64))] (a,b,())) [] (q40 [(.int .i64)])
theorem r1_by_run (N:Nat)(a b:List Int):r1_by_C N a b=kq0 N a b:=by
 have h:r1_by_C N a b=kd8 N a b (fun a b e=>q57 (kh8 N ) N (u97 a b e) (uc8 a b e)):=by kernel_rfl
 rw [h]
 simp only [kq0,r1_by_l1] <;> rfl
def ku9 (m:(List Int)→(List Int)→Option Int):Ent:=q35 [(.list (.int .i64)),(.list (.int .i64))] [(.int .i64)] fun (x:Els [(.list (.int .i64)),(.list (.int .i64))])=>m x.1 x.2.1
def uo9 (N:Nat):Ent:=ku9 (kq0 N)
theorem ka8 (N:Nat):q16 Tryz.prog 277 (uo9 N):=q15 (r1_by_Ts N) Tryz.func277 rfl (by kernel_rfl) fun (x:Els [(.list (.int .i64)),(.list (.int .i64))])=>r1_by_run N x.1 x.2.1
def u23 :LH:=⟨[(0,.lst (.int .i64)),(1,.lst (.int .i64)),(5,.own (.int .i64) 505 3 1),(6,.int .i64),(7,.int .i64)],[],[]⟩
def x32 :FH:=⟨[u23],[],[],[],false,[],[]⟩
noncomputable def v63 (N:Nat):q48:=tab []
theorem kt2 (N:Nat):q13 Tryz.prog (v63 N):=q27 _
noncomputable def vy8 :Sc:=wl6 Tryz.prog x32
noncomputable def vw7 (N:Nat):Cfg:=⟨N,v63 N,0⟩
noncomputable def k38 (N:Nat):Exit→List TV→List TOb→Option (List Int):=fin Tryz.prog 0 Tryz.f278.results.toList (q40 [(.list (.int .i64))])
def xg2 (a b:List Int)(e:List Int×Int×Int):List TV:=match e with
 | (out,owed,i)=>frm 40 [(0,.tl (.int .i64) a .unk),(1,.tl (.int .i64) b .unk),(5,.tl (.int .i64) out (.own 505 3 1)),(6,.int .i64 owed),(7,.int .i64 i)]
def x98 (a b:List Int)(e:List Int×Int×Int):List TOb:=match e with
 | (out,owed,i)=>[]
noncomputable def vy0 (N:Nat):(List TV→List TOb→Option (List Int))→List TV→List TOb→Option (List Int):=w54 DR vy8 (vw7 N) (ql6 (qc4 (q08 (q87 (q08 (q08 (q08 (q10 Tryz.f278)))))))) u23 (x32.loops.drop 1) (qk0 0 (qc3 DR vy8 (vw7 N) (q08 (q08 (q08 (q08 (q10 Tryz.f278))))) (x32.loops.drop 1) (k38 N)))
def xf4 (N:Nat)(a b:List Int)(K0:(List Int×Int×Int)→Option (List Int))(e:List Int×Int×Int):Option (List Int) :=
 match e with
 | (out,owed,i) =>
  bif decide (i < (a.length:Int)) then
   bif inR i a.length then
   bif q26 ((q24 a i 0) - owed) then
   bif decide (i < (b.length:Int)) then
    bif inR i b.length then
    bif q26 (((q24 a i 0) - owed) - (q24 b i 0)) then
    bif decide ((((q24 a i 0) - owed) - (q24 b i 0)) < 0) then
     bif q26 ((((q24 a i 0) - owed) - (q24 b i 0)) + 10000) then
     bif w23 (out.length + [(((q24 a i 0) - owed) - (q24 b i 0)) + 10000].length) 17592186044416 then
     bif q26 (i + 1) then
     K0 ((out ++ [(((q24 a i 0) - owed) - (q24 b i 0)) + 10000]),1,i + 1)
     else none
     else none
     else none
    else
     bif w23 (out.length + [((q24 a i 0) - owed) - (q24 b i 0)].length) 17592186044416 then
     bif q26 (i + 1) then
     K0 ((out ++ [((q24 a i 0) - owed) - (q24 b i 0)]),0,i + 1)
     else none
     else none
    else none
    else none
   else
    bif decide (((q24 a i 0) - owed) < 0) then
     bif q26 (((q24 a i 0) - owed) + 10000) then
     bif w23 (out.length + [((q24 a i 0) - owed) + 10000].length) 17592186044416 then
     bif q26 (i + 1) then
     K0 ((out ++ [((q24 a i 0) - owed) + 10000]),1,i + 1)
     else none
     else none
     else none
    else
     bif w23 (out.length + [(q24 a i 0) - owed].length) 17592186044416 then
     bif q26 (i + 1) then
     K0 ((out ++ [(q24 a i 0) - owed]),0,i + 1)
     else none
     else none
   else none
   else none
  else
   some out
theorem kr7 (N:Nat)(a b:List Int)(n_:Nat)(e:List Int×Int×Int):q57 (vy0 N ) n_ ((xg2 a b) e) ((x98 a b) e)=q86 (xf4 N a b ) n_ e :=
 q39 (xg2 a b) (x98 a b) (by intro K e; obtain ⟨out,owed,i⟩:=e; kernel_rfl) n_ e
def v38 (N:Nat)(a b:List Int)(l1:(List Int)→(List Int)→(List Int×Int×Int)→Option (List Int)):Option (List Int) :=
 l1 a b ([],0,0)
def yi2 (N:Nat)(a b:List Int):Option (List Int):=v38 N a b (fun a b e=>q86 (xf4 N a b) N e)
noncomputable def uq5 (N:Nat)(a b:List Int):Option (RT [(.list (.int .i64))]):=q22 DR Tryz.prog N (v63 N) x32 Tryz.f278 (q10 Tryz.f278) (RT [(.list (.int .i64))]) (qd2 [(.list (.int .i64)),(.list (.int .i64))] (a,b,())) [] (q40 [(.list (.int .i64))])
theorem k48 (N:Nat)(a b:List Int):uq5 N a b=yi2 N a b:=by
 have h:uq5 N a b=v38 N a b (fun a b e=>q57 (vy0 N ) N (xg2 a b e) (x98 a b e)):=by kernel_rfl
 rw [h]
 simp only [yi2,kr7] <;> rfl
def uk5 (m:(List Int)→(List Int)→Option (List Int)):Ent:=q35 [(.list (.int .i64)),(.list (.int .i64))] [(.list (.int .i64))] fun (x:Els [(.list (.int .i64)),(.list (.int .i64))])=>m x.1 x.2.1
def v39 (N:Nat):Ent:=uk5 (yi2 N)
theorem u65 (N:Nat):q16 Tryz.prog 278 (v39 N):=q15 (kt2 N) Tryz.func278 rfl (by kernel_rfl) fun (x:Els [(.list (.int .i64)),(.list (.int .i64))])=>k48 N x.1 x.2.1
def r1_Add_H :FH:=⟨[],[],[(2,⟨7,40,0,[],[]⟩),(4,⟨7,40,0,[],[]⟩),(5,⟨7,40,0,[],[]⟩)],[],false,[],[]⟩
noncomputable def kf9 (N:Nat):q48:=tab [(276,v70 N),(268,zk8 N),(277,uo9 N),(278,v39 N)]
theorem r1_Add_Ts (N:Nat):q13 Tryz.prog (kf9 N):=q06 (v79 N) <| q06 (ze7 N) <| q06 (ka8 N) <| q06 (u65 N) <| q27 _
def zj8 (N:Nat)(x y:qa0):Option qa0 :=
 bif (x.1 == y.1) then
  (k35 N x.2.1 y.2.1).bind fun r =>
  (wj6 N x.1 r).bind fun r1 =>
  some r1
 else
  (kq0 N x.2.1 y.2.1).bind fun r2 =>
  bif decide (r2 ≥ 0) then
   (yi2 N x.2.1 y.2.1).bind fun r3 =>
   (wj6 N x.1 r3).bind fun r4 =>
   some r4
  else
   (yi2 N y.2.1 x.2.1).bind fun r5 =>
   (wj6 N y.1 r5).bind fun r6 =>
   some r6
noncomputable def r1_Add_C (N:Nat)(x y:qa0):Option (RT [ql5]):=q22 DR Tryz.prog N (kf9 N) r1_Add_H Tryz.f246 (q10 Tryz.f246) (RT [ql5]) (qd2 [ql5,ql5] (x,y,())) [] (q40 [ql5])
theorem ky1 (N:Nat)(x y:qa0):r1_Add_C N x y=zj8 N x y:=by kernel_rfl
def k71 (m:qa0→qa0→Option qa0):Ent:=q35 [ql5,ql5] [ql5] fun (x:Els [ql5,ql5])=>m x.1 x.2.1
def x94 (N:Nat):Ent:=k71 (zj8 N)
theorem xn6 (N:Nat):q16 Tryz.prog 246 (x94 N):=q15 (r1_Add_Ts N) Tryz.func246 rfl (by kernel_rfl) fun (x:Els [ql5,ql5])=>ky1 N x.1 x.2.1
def r1_Neg_H :FH:=⟨[],[],[],[],false,[],[]⟩
noncomputable def ko3 (N:Nat):q48:=tab [(268,zk8 N)]
theorem r1_Neg_Ts (N:Nat):q13 Tryz.prog (ko3 N):=q06 (ze7 N) <| q27 _
def wh9 (N:Nat)(x:qa0):Option qa0 :=
 (wj6 N (!x.1) x.2.1).bind fun r =>
 some r
noncomputable def r1_Neg_C (N:Nat)(x:qa0):Option (RT [ql5]):=q22 DR Tryz.prog N (ko3 N) r1_Neg_H Tryz.f248 (q10 Tryz.f248) (RT [ql5]) (qd2 [ql5] (x,())) [] (q40 [ql5])
theorem kw2 (N:Nat)(x:qa0):r1_Neg_C N x=wh9 N x:=by kernel_rfl
def kc2 (m:qa0→Option qa0):Ent:=q35 [ql5] [ql5] fun (x:Els [ql5])=>m x.1
def xe9 (N:Nat):Ent:=kc2 (wh9 N)
theorem xj9 (N:Nat):q16 Tryz.prog 248 (xe9 N):=q15 (r1_Neg_Ts N) Tryz.func248 rfl (by kernel_rfl) fun (x:Els [ql5])=>kw2 N x.1
def zr7 :LH:=⟨[(0,.str),(2,.asis),(5,.asis),(6,.int .i64),(7,.int .i64),(8,.bool),(9,.int .i64)],[],[.cells [.bool,.lst (.int .i64)],.cells [.bool,.lst (.int .i64)]]⟩
def zp8 :LH:=⟨[(0,.str),(2,.asis),(5,.asis),(7,.int .i64),(8,.bool),(9,.int .i64),(10,.int .i64),(11,.int .i64)],[],[.cells [.bool,.lst (.int .i64)],.cells [.bool,.lst (.int .i64)]]⟩
def qd4 :FH:=⟨[zr7,zp8],[],[(12,⟨8,110,0,[],[]⟩),(21,⟨2,110,0,[],[]⟩)],[],false,[],[]⟩
noncomputable def yr9 (N:Nat):q48:=tab [(209,j17 N),(247,xa9 N),(246,x94 N),(248,xe9 N)]
theorem uu8 (N:Nat):q13 Tryz.prog (yr9 N):=q06 (zn9 N) <| q06 (xr5 N) <| q06 (xn6 N) <| q06 (xj9 N) <| q27 _
noncomputable def qe8 :Sc:=wl6 Tryz.prog qd4
noncomputable def qe6 (N:Nat):Cfg:=⟨N,yr9 N,0⟩
noncomputable def w43 (N:Nat):Exit→List TV→List TOb→Option OX4:=fin Tryz.prog 0 Tryz.f201.results.toList (q40 [ql5,.bool,.bool])
def z15 (s:List UInt8)(neg2:Bool)(first2:Int)(qa7:Bool)(qx6:List Int)(e:Int×Int×Bool×List Int):List TV:=match e with
 | (at_2,point2,x_Neg4,x_D4)=>frm 110 [(0,.str s),(2,.ref 0 0),(5,.ref 1 0),(6,.int .i64 at_2),(7,.int .i64 point2),(8,.bool neg2),(9,.int .i64 first2)]
def wx7 (s:List UInt8)(neg2:Bool)(first2:Int)(qa7:Bool)(qx6:List Int)(e:Int×Int×Bool×List Int):List TOb:=match e with
 | (at_2,point2,x_Neg4,x_D4)=>[.cells [.bool qa7,.tl (.int .i64) qx6 .unk] 265 true,.cells [.bool x_Neg4,.tl (.int .i64) x_D4 .unk] 265 true]
def jp3 (s:List UInt8)(point2:Int)(neg2:Bool)(first2:Int)(qa7:Bool)(qx6:List Int)(e:Int×Bool×List Int):List TV:=match e with
 | (n2,x_Neg5,x_D5)=>frm 110 [(0,.str s),(2,.ref 0 0),(5,.ref 1 0),(7,.int .i64 point2),(8,.bool neg2),(9,.int .i64 first2),(10,.int .i64 point2),(11,.int .i64 n2)]
def y44 (s:List UInt8)(point2:Int)(neg2:Bool)(first2:Int)(qa7:Bool)(qx6:List Int)(e:Int×Bool×List Int):List TOb:=match e with
 | (n2,x_Neg5,x_D5)=>[.cells [.bool qa7,.tl (.int .i64) qx6 .unk] 265 true,.cells [.bool x_Neg5,.tl (.int .i64) x_D5 .unk] 265 true]
def wx9 (s:List UInt8)(neg1:Bool)(first1:Int)(qa6:Bool)(qx7:List Int)(e:Int×Int×Bool×List Int):List TV:=match e with
 | (at_1,point1,x_Neg2,x_D2)=>frm 110 [(0,.str s),(2,.ref 0 0),(5,.ref 1 0),(6,.int .i64 at_1),(7,.int .i64 point1),(8,.bool neg1),(9,.int .i64 first1)]
def ww8 (s:List UInt8)(neg1:Bool)(first1:Int)(qa6:Bool)(qx7:List Int)(e:Int×Int×Bool×List Int):List TOb:=match e with
 | (at_1,point1,x_Neg2,x_D2)=>[.cells [.bool qa6,.tl (.int .i64) qx7 .unk] 265 true,.cells [.bool x_Neg2,.tl (.int .i64) x_D2 .unk] 265 true]
def jw9 (s:List UInt8)(point1:Int)(neg1:Bool)(first1:Int)(qa6:Bool)(qx7:List Int)(e:Int×Bool×List Int):List TV:=match e with
 | (n1,x_Neg3,x_D3)=>frm 110 [(0,.str s),(2,.ref 0 0),(5,.ref 1 0),(7,.int .i64 point1),(8,.bool neg1),(9,.int .i64 first1),(10,.int .i64 point1),(11,.int .i64 n1)]
def jz6 (s:List UInt8)(point1:Int)(neg1:Bool)(first1:Int)(qa6:Bool)(qx7:List Int)(e:Int×Bool×List Int):List TOb:=match e with
 | (n1,x_Neg3,x_D3)=>[.cells [.bool qa6,.tl (.int .i64) qx7 .unk] 265 true,.cells [.bool x_Neg3,.tl (.int .i64) x_D3 .unk] 265 true]
def wx0 (s:List UInt8)(neg:Bool)(first:Int)(qa3:Bool)(z29:List Int)(e:Int×Int×Bool×List Int):List TV:=match e with
 | (at_,point,q31,x_D)=>frm 110 [(0,.str s),(2,.ref 0 0),(5,.ref 1 0),(6,.int .i64 at_),(7,.int .i64 point),(8,.bool neg),(9,.int .i64 first)]
def wv4 (s:List UInt8)(neg:Bool)(first:Int)(qa3:Bool)(z29:List Int)(e:Int×Int×Bool×List Int):List TOb:=match e with
 | (at_,point,q31,x_D)=>[.cells [.bool qa3,.tl (.int .i64) z29 .unk] 265 true,.cells [.bool q31,.tl (.int .i64) x_D .unk] 265 true]
def js6 (s:List UInt8)(point:Int)(neg:Bool)(first:Int)(qa3:Bool)(z29:List Int)(e:Int×Bool×List Int):List TV:=match e with
 | (n,x_Neg1,x_D1)=>frm 110 [(0,.str s),(2,.ref 0 0),(5,.ref 1 0),(7,.int .i64 point),(8,.bool neg),(9,.int .i64 first),(10,.int .i64 point),(11,.int .i64 n)]
def jz0 (s:List UInt8)(point:Int)(neg:Bool)(first:Int)(qa3:Bool)(z29:List Int)(e:Int×Bool×List Int):List TOb:=match e with
 | (n,x_Neg1,x_D1)=>[.cells [.bool qa3,.tl (.int .i64) z29 .unk] 265 true,.cells [.bool x_Neg1,.tl (.int .i64) x_D1 .unk] 265 true]
noncomputable def xr1 (N:Nat):(List TV→List TOb→Option OX4)→List TV→List TOb→Option OX4:=w54 DR qe8 (qe6 N) (ql6 (qc4 (q08 (q08 (q08 (ys1 (q08 (q87 (q08 (q08 (q08 (q08 (q08 (q08 (q08 (q10 Tryz.f201)))))))))))))))) zp8 (qd4.loops.drop 2) (qk0 2 (qc3 DR qe8 (qe6 N) (q08 (q08 (q08 (q08 (q08 (q08 (q08 (q08 (q10 Tryz.f201))))))))) (qd4.loops.drop 2) (w43 N)))
def zr4 (N:Nat)(s:List UInt8)(point:Int)(neg:Bool)(first:Int)(qa3:Bool)(z29:List Int)(K1:(Int×Bool×List Int)→Option OX4)(e:Int×Bool×List Int):Option OX4 :=
 match e with
 | (n,x_Neg1,x_D1) =>
  bif decide (n < 4) then
   (qy4 N 10).bind fun r12 =>
   (wf2 N (x_Neg1,x_D1,()) r12).bind fun r13 =>
   bif q26 (n + 1) then
   K1 (n + 1,r13.1,r13.2.1)
   else none
  else
   bif (point == first) then
    some ((x_Neg1,x_D1,()),false,false,())
   else
    bif inR first s.length then
    bif ((q37 s first) == 48) then
     bif q26 (first + 1) then
     bif decide (point > (first + 1)) then
      some ((x_Neg1,x_D1,()),false,false,())
     else
      bif neg then
       (wh9 N (x_Neg1,x_D1,())).bind fun r14 =>
       some (r14,decide (point ≥ 0),true,())
      else
       some ((x_Neg1,x_D1,()),decide (point ≥ 0),true,())
     else none
    else
     bif neg then
      (wh9 N (x_Neg1,x_D1,())).bind fun r15 =>
      some (r15,decide (point ≥ 0),true,())
     else
      some ((x_Neg1,x_D1,()),decide (point ≥ 0),true,())
    else none
theorem ux3 (N:Nat)(s:List UInt8)(point:Int)(neg:Bool)(first:Int)(qa3:Bool)(z29:List Int)(n_:Nat)(e:Int×Bool×List Int):q57 (xr1 N ) n_ ((js6 s point neg first qa3 z29) e) ((jz0 s point neg first qa3 z29) e)=q86 (zr4 N s point neg first qa3 z29 ) n_ e :=
 q39 (js6 s point neg first qa3 z29) (jz0 s point neg first qa3 z29) (by intro K e; obtain ⟨n,x_Neg1,x_D1⟩:=e; kernel_rfl) n_ e
noncomputable def y46 (N:Nat):(List TV→List TOb→Option OX4)→List TV→List TOb→Option OX4:=w54 DR qe8 (qe6 N) (ql6 (qc4 (q87 (q08 (q08 (q08 (q08 (q08 (q10 Tryz.f201))))))))) zr7 (qd4.loops.drop 1) (qk0 0 (qc3 DR qe8 (qe6 N) (q08 (q08 (q08 (q08 (q08 (q08 (q10 Tryz.f201))))))) (qd4.loops.drop 1) (w43 N)))
def jd7 (N:Nat)(s:List UInt8)(neg:Bool)(first:Int)(qa3:Bool)(z29:List Int)(l2:(List UInt8)→Int→Bool→Int→Bool→(List Int)→(Int×Bool×List Int)→Option OX4)(K0:(Int×Int×Bool×List Int)→Option OX4)(e:Int×Int×Bool×List Int):Option OX4 :=
 match e with
 | (at_,point,q31,x_D) =>
  bif decide (at_ < (s.length:Int)) then
   bif inR at_ s.length then
   bif ((q37 s at_) == 46) then
    bif decide (point < 0) then
     bif decide (at_ > first) then
      bif q26 (at_ + 1) then
      K0 (at_ + 1,at_,q31,x_D)
      else none
     else
      bif inR at_ s.length then
      bif decide ((q37 s at_) < 48) then
       some ((q31,x_D,()),false,false,())
      else
       bif inR at_ s.length then
       bif decide ((q37 s at_) > 57) then
        some ((q31,x_D,()),false,false,())
       else
        (qy4 N 10).bind fun r =>
        (wf2 N (q31,x_D,()) r).bind fun r1 =>
        bif inR at_ s.length then
        bif q26 (IntKind.u8.wrap ((q37 s at_) - 48)) then
        (qy4 N (IntKind.u8.wrap ((q37 s at_) - 48))).bind fun r2 =>
        (zj8 N r1 r2).bind fun r3 =>
        bif q26 (at_ + 1) then
        K0 (at_ + 1,point,r3.1,r3.2.1)
        else none
        else none
        else none
       else none
      else none
    else
     bif inR at_ s.length then
     bif decide ((q37 s at_) < 48) then
      some ((q31,x_D,()),false,false,())
     else
      bif inR at_ s.length then
      bif decide ((q37 s at_) > 57) then
       some ((q31,x_D,()),false,false,())
      else
       (qy4 N 10).bind fun r4 =>
       (wf2 N (q31,x_D,()) r4).bind fun r5 =>
       bif inR at_ s.length then
       bif q26 (IntKind.u8.wrap ((q37 s at_) - 48)) then
       (qy4 N (IntKind.u8.wrap ((q37 s at_) - 48))).bind fun r6 =>
       (zj8 N r5 r6).bind fun r7 =>
       bif q26 (at_ + 1) then
       K0 (at_ + 1,point,r7.1,r7.2.1)
       else none
       else none
       else none
      else none
     else none
   else
    bif inR at_ s.length then
    bif decide ((q37 s at_) < 48) then
     some ((q31,x_D,()),false,false,())
    else
     bif inR at_ s.length then
     bif decide ((q37 s at_) > 57) then
      some ((q31,x_D,()),false,false,())
     else
      (qy4 N 10).bind fun r8 =>
      (wf2 N (q31,x_D,()) r8).bind fun r9 =>
      bif inR at_ s.length then
      bif q26 (IntKind.u8.wrap ((q37 s at_) - 48)) then
      (qy4 N (IntKind.u8.wrap ((q37 s at_) - 48))).bind fun r10 =>
      (zj8 N r9 r10).bind fun r11 =>
      bif q26 (at_ + 1) then
      K0 (at_ + 1,point,r11.1,r11.2.1)
      else none
      else none
      else none
     else none
    else none
   else none
  else
   bif decide (point ≥ 0) then
    bif q26 ((s.length:Int) - point) then
    bif q26 (((s.length:Int) - point) - 1) then
    bif decide ((((s.length:Int) - point) - 1) < 1) then
     some ((q31,x_D,()),false,false,())
    else
     bif decide ((((s.length:Int) - point) - 1) > 4) then
      some ((q31,x_D,()),false,false,())
     else
      l2 s point neg first qa3 z29 (((s.length:Int) - point) - 1,q31,x_D)
    else none
    else none
   else
    bif ((s.length:Int) == first) then
     some ((q31,x_D,()),false,false,())
    else
     bif inR first s.length then
     bif ((q37 s first) == 48) then
      bif q26 (first + 1) then
      bif decide ((s.length:Int) > (first + 1)) then
       some ((q31,x_D,()),false,false,())
      else
       bif neg then
        (wh9 N (q31,x_D,())).bind fun r16 =>
        some (r16,decide (point ≥ 0),true,())
       else
        some ((q31,x_D,()),decide (point ≥ 0),true,())
      else none
     else
      bif neg then
       (wh9 N (q31,x_D,())).bind fun r17 =>
       some (r17,decide (point ≥ 0),true,())
      else
       some ((q31,x_D,()),decide (point ≥ 0),true,())
     else none
def qz1 (N:Nat)(s:List UInt8)(neg:Bool)(first:Int)(qa3:Bool)(z29:List Int)(K0:(Int×Int×Bool×List Int)→Option OX4)(e:Int×Int×Bool×List Int):Option OX4:=jd7 N s neg first qa3 z29 (fun s point neg first qa3 z29 e=>q86 (zr4 N s point neg first qa3 z29) N e) K0 e
theorem uq2 (N:Nat)(s:List UInt8)(neg:Bool)(first:Int)(qa3:Bool)(z29:List Int)(n_:Nat)(e:Int×Int×Bool×List Int):q57 (y46 N ) n_ ((wx0 s neg first qa3 z29) e) ((wv4 s neg first qa3 z29) e)=q86 (qz1 N s neg first qa3 z29 ) n_ e :=
 q39 (wx0 s neg first qa3 z29) (wv4 s neg first qa3 z29) (by
  intro K e
  have h:(y46 N ) K ((wx0 s neg first qa3 z29) e) ((wv4 s neg first qa3 z29) e)=jd7 N s neg first qa3 z29 (fun s point neg first qa3 z29 e=>q57 (xr1 N ) N (js6 s point neg first qa3 z29 e) (jz0 s point neg first qa3 z29 e)) (fun e=>K ((wx0 s neg first qa3 z29) e) ((wv4 s neg first qa3 z29) e)) e:=by obtain ⟨at_,point,q31,x_D⟩:=e; kernel_rfl
  rw [h]
  simp only [qz1,ux3] <;> rfl) n_ e
noncomputable def xp8 (N:Nat):(List TV→List TOb→Option OX4)→List TV→List TOb→Option OX4:=w54 DR qe8 (qe6 N) (ql6 (qc4 (q08 (q08 (q08 (ys1 (q08 (q87 (q08 (q08 (q08 (q08 (q08 (q08 (q08 (q10 Tryz.f201)))))))))))))))) zp8 (qd4.loops.drop 2) (qk0 2 (qc3 DR qe8 (qe6 N) (q08 (q08 (q08 (q08 (q08 (q08 (q08 (q08 (q10 Tryz.f201))))))))) (qd4.loops.drop 2) (w43 N)))
def xn5 (N:Nat)(s:List UInt8)(point1:Int)(neg1:Bool)(first1:Int)(qa6:Bool)(qx7:List Int)(K1:(Int×Bool×List Int)→Option OX4)(e:Int×Bool×List Int):Option OX4 :=
 match e with
 | (n1,x_Neg3,x_D3) =>
  bif decide (n1 < 4) then
   (qy4 N 10).bind fun r30 =>
   (wf2 N (x_Neg3,x_D3,()) r30).bind fun r31 =>
   bif q26 (n1 + 1) then
   K1 (n1 + 1,r31.1,r31.2.1)
   else none
  else
   bif (point1 == first1) then
    some ((x_Neg3,x_D3,()),false,false,())
   else
    bif inR first1 s.length then
    bif ((q37 s first1) == 48) then
     bif q26 (first1 + 1) then
     bif decide (point1 > (first1 + 1)) then
      some ((x_Neg3,x_D3,()),false,false,())
     else
      bif neg1 then
       (wh9 N (x_Neg3,x_D3,())).bind fun r32 =>
       some (r32,decide (point1 ≥ 0),true,())
      else
       some ((x_Neg3,x_D3,()),decide (point1 ≥ 0),true,())
     else none
    else
     bif neg1 then
      (wh9 N (x_Neg3,x_D3,())).bind fun r33 =>
      some (r33,decide (point1 ≥ 0),true,())
     else
      some ((x_Neg3,x_D3,()),decide (point1 ≥ 0),true,())
    else none
theorem uk8 (N:Nat)(s:List UInt8)(point1:Int)(neg1:Bool)(first1:Int)(qa6:Bool)(qx7:List Int)(n_:Nat)(e:Int×Bool×List Int):q57 (xp8 N ) n_ ((jw9 s point1 neg1 first1 qa6 qx7) e) ((jz6 s point1 neg1 first1 qa6 qx7) e)=q86 (xn5 N s point1 neg1 first1 qa6 qx7 ) n_ e :=
 q39 (jw9 s point1 neg1 first1 qa6 qx7) (jz6 s point1 neg1 first1 qa6 qx7) (by intro K e; obtain ⟨n1,x_Neg3,x_D3⟩:=e; kernel_rfl) n_ e
noncomputable def jy4 (N:Nat):(List TV→List TOb→Option OX4)→List TV→List TOb→Option OX4:=w54 DR qe8 (qe6 N) (ql6 (qc4 (q87 (q08 (q08 (q08 (q08 (q08 (q10 Tryz.f201))))))))) zr7 (qd4.loops.drop 1) (qk0 0 (qc3 DR qe8 (qe6 N) (q08 (q08 (q08 (q08 (q08 (q08 (q10 Tryz.f201))))))) (qd4.loops.drop 1) (w43 N)))
def x29 (N:Nat)(s:List UInt8)(neg1:Bool)(first1:Int)(qa6:Bool)(qx7:List Int)(l4:(List UInt8)→Int→Bool→Int→Bool→(List Int)→(Int×Bool×List Int)→Option OX4)(K0:(Int×Int×Bool×List Int)→Option OX4)(e:Int×Int×Bool×List Int):Option OX4 :=
 match e with
 | (at_1,point1,x_Neg2,x_D2) =>
  bif decide (at_1 < (s.length:Int)) then
   bif inR at_1 s.length then
   bif ((q37 s at_1) == 46) then
    bif decide (point1 < 0) then
     bif decide (at_1 > first1) then
      bif q26 (at_1 + 1) then
      K0 (at_1 + 1,at_1,x_Neg2,x_D2)
      else none
     else
      bif inR at_1 s.length then
      bif decide ((q37 s at_1) < 48) then
       some ((x_Neg2,x_D2,()),false,false,())
      else
       bif inR at_1 s.length then
       bif decide ((q37 s at_1) > 57) then
        some ((x_Neg2,x_D2,()),false,false,())
       else
        (qy4 N 10).bind fun r18 =>
        (wf2 N (x_Neg2,x_D2,()) r18).bind fun r19 =>
        bif inR at_1 s.length then
        bif q26 (IntKind.u8.wrap ((q37 s at_1) - 48)) then
        (qy4 N (IntKind.u8.wrap ((q37 s at_1) - 48))).bind fun r20 =>
        (zj8 N r19 r20).bind fun r21 =>
        bif q26 (at_1 + 1) then
        K0 (at_1 + 1,point1,r21.1,r21.2.1)
        else none
        else none
        else none
       else none
      else none
    else
     bif inR at_1 s.length then
     bif decide ((q37 s at_1) < 48) then
      some ((x_Neg2,x_D2,()),false,false,())
     else
      bif inR at_1 s.length then
      bif decide ((q37 s at_1) > 57) then
       some ((x_Neg2,x_D2,()),false,false,())
      else
       (qy4 N 10).bind fun r22 =>
       (wf2 N (x_Neg2,x_D2,()) r22).bind fun r23 =>
       bif inR at_1 s.length then
       bif q26 (IntKind.u8.wrap ((q37 s at_1) - 48)) then
       (qy4 N (IntKind.u8.wrap ((q37 s at_1) - 48))).bind fun r24 =>
       (zj8 N r23 r24).bind fun r25 =>
       bif q26 (at_1 + 1) then
       K0 (at_1 + 1,point1,r25.1,r25.2.1)
       else none
       else none
       else none
      else none
     else none
   else
    bif inR at_1 s.length then
    bif decide ((q37 s at_1) < 48) then
     some ((x_Neg2,x_D2,()),false,false,())
    else
     bif inR at_1 s.length then
     bif decide ((q37 s at_1) > 57) then
      some ((x_Neg2,x_D2,()),false,false,())
     else
      (qy4 N 10).bind fun r26 =>
      (wf2 N (x_Neg2,x_D2,()) r26).bind fun r27 =>
      bif inR at_1 s.length then
      bif q26 (IntKind.u8.wrap ((q37 s at_1) - 48)) then
      (qy4 N (IntKind.u8.wrap ((q37 s at_1) - 48))).bind fun r28 =>
      (zj8 N r27 r28).bind fun r29 =>
      bif q26 (at_1 + 1) then
      K0 (at_1 + 1,point1,r29.1,r29.2.1)
      else none
      else none
      else none
     else none
    else none
   else none
  else
   bif decide (point1 ≥ 0) then
    bif q26 ((s.length:Int) - point1) then
    bif q26 (((s.length:Int) - point1) - 1) then
    bif decide ((((s.length:Int) - point1) - 1) < 1) then
     some ((x_Neg2,x_D2,()),false,false,())
    else
     bif decide ((((s.length:Int) - point1) - 1) > 4) then
      some ((x_Neg2,x_D2,()),false,false,())
     else
      l4 s point1 neg1 first1 qa6 qx7 (((s.length:Int) - point1) - 1,x_Neg2,x_D2)
    else none
    else none
   else
    bif ((s.length:Int) == first1) then
     some ((x_Neg2,x_D2,()),false,false,())
    else
     bif inR first1 s.length then
     bif ((q37 s first1) == 48) then
      bif q26 (first1 + 1) then
      bif decide ((s.length:Int) > (first1 + 1)) then
       some ((x_Neg2,x_D2,()),false,false,())
      else
       bif neg1 then
        (wh9 N (x_Neg2,x_D2,())).bind fun r34 =>
        some (r34,decide (point1 ≥ 0),true,())
       else
        some ((x_Neg2,x_D2,()),decide (point1 ≥ 0),true,())
      else none
     else
      bif neg1 then
       (wh9 N (x_Neg2,x_D2,())).bind fun r35 =>
       some (r35,decide (point1 ≥ 0),true,())
      else
       some ((x_Neg2,x_D2,()),decide (point1 ≥ 0),true,())
     else none
def zr1 (N:Nat)(s:List UInt8)(neg1:Bool)(first1:Int)(qa6:Bool)(qx7:List Int)(K0:(Int×Int×Bool×List Int)→Option OX4)(e:Int×Int×Bool×List Int):Option OX4:=x29 N s neg1 first1 qa6 qx7 (fun s point1 neg1 first1 qa6 qx7 e=>q86 (xn5 N s point1 neg1 first1 qa6 qx7) N e) K0 e
theorem uu0 (N:Nat)(s:List UInt8)(neg1:Bool)(first1:Int)(qa6:Bool)(qx7:List Int)(n_:Nat)(e:Int×Int×Bool×List Int):q57 (jy4 N ) n_ ((wx9 s neg1 first1 qa6 qx7) e) ((ww8 s neg1 first1 qa6 qx7) e)=q86 (zr1 N s neg1 first1 qa6 qx7 ) n_ e :=
 q39 (wx9 s neg1 first1 qa6 qx7) (ww8 s neg1 first1 qa6 qx7) (by
  intro K e
  have h:(jy4 N ) K ((wx9 s neg1 first1 qa6 qx7) e) ((ww8 s neg1 first1 qa6 qx7) e)=x29 N s neg1 first1 qa6 qx7 (fun s point1 neg1 first1 qa6 qx7 e=>q57 (xp8 N ) N (jw9 s point1 neg1 first1 qa6 qx7 e) (jz6 s point1 neg1 first1 qa6 qx7 e)) (fun e=>K ((wx9 s neg1 first1 qa6 qx7) e) ((ww8 s neg1 first1 qa6 qx7) e)) e:=by obtain ⟨at_1,point1,x_Neg2,x_D2⟩:=e; kernel_rfl
  rw [h]
  simp only [zr1,uk8] <;> rfl) n_ e
noncomputable def xq0 (N:Nat):(List TV→List TOb→Option OX4)→List TV→List TOb→Option OX4:=w54 DR qe8 (qe6 N) (ql6 (qc4 (q08 (q08 (q08 (ys1 (q08 (q87 (q08 (q08 (q08 (q08 (q08 (q08 (q08 (q10 Tryz.f201)))))))))))))))) zp8 (qd4.loops.drop 2) (qk0 2 (qc3 DR qe8 (qe6 N) (q08 (q08 (q08 (q08 (q08 (q08 (q08 (q08 (q10 Tryz.f201))))))))) (qd4.loops.drop 2) (w43 N)))
def xr4 (N:Nat)(s:List UInt8)(point2:Int)(neg2:Bool)(first2:Int)(qa7:Bool)(qx6:List Int)(K1:(Int×Bool×List Int)→Option OX4)(e:Int×Bool×List Int):Option OX4 :=
 match e with
 | (n2,x_Neg5,x_D5) =>
  bif decide (n2 < 4) then
   (qy4 N 10).bind fun r48 =>
   (wf2 N (x_Neg5,x_D5,()) r48).bind fun r49 =>
   bif q26 (n2 + 1) then
   K1 (n2 + 1,r49.1,r49.2.1)
   else none
  else
   bif (point2 == first2) then
    some ((x_Neg5,x_D5,()),false,false,())
   else
    bif inR first2 s.length then
    bif ((q37 s first2) == 48) then
     bif q26 (first2 + 1) then
     bif decide (point2 > (first2 + 1)) then
      some ((x_Neg5,x_D5,()),false,false,())
     else
      bif neg2 then
       (wh9 N (x_Neg5,x_D5,())).bind fun r50 =>
       some (r50,decide (point2 ≥ 0),true,())
      else
       some ((x_Neg5,x_D5,()),decide (point2 ≥ 0),true,())
     else none
    else
     bif neg2 then
      (wh9 N (x_Neg5,x_D5,())).bind fun r51 =>
      some (r51,decide (point2 ≥ 0),true,())
     else
      some ((x_Neg5,x_D5,()),decide (point2 ≥ 0),true,())
    else none
theorem ul0 (N:Nat)(s:List UInt8)(point2:Int)(neg2:Bool)(first2:Int)(qa7:Bool)(qx6:List Int)(n_:Nat)(e:Int×Bool×List Int):q57 (xq0 N ) n_ ((jp3 s point2 neg2 first2 qa7 qx6) e) ((y44 s point2 neg2 first2 qa7 qx6) e)=q86 (xr4 N s point2 neg2 first2 qa7 qx6 ) n_ e :=
 q39 (jp3 s point2 neg2 first2 qa7 qx6) (y44 s point2 neg2 first2 qa7 qx6) (by intro K e; obtain ⟨n2,x_Neg5,x_D5⟩:=e; kernel_rfl) n_ e
noncomputable def y18 (N:Nat):(List TV→List TOb→Option OX4)→List TV→List TOb→Option OX4:=w54 DR qe8 (qe6 N) (ql6 (qc4 (q87 (q08 (q08 (q08 (q08 (q08 (q10 Tryz.f201))))))))) zr7 (qd4.loops.drop 1) (qk0 0 (qc3 DR qe8 (qe6 N) (q08 (q08 (q08 (q08 (q08 (q08 (q10 Tryz.f201))))))) (qd4.loops.drop 1) (w43 N)))
def yv0 (N:Nat)(s:List UInt8)(neg2:Bool)(first2:Int)(qa7:Bool)(qx6:List Int)(l6:(List UInt8)→Int→Bool→Int→Bool→(List Int)→(Int×Bool×List Int)→Option OX4)(K0:(Int×Int×Bool×List Int)→Option OX4)(e:Int×Int×Bool×List Int):Option OX4 :=
 match e with
 | (at_2,point2,x_Neg4,x_D4) =>
  bif decide (at_2 < (s.length:Int)) then
   bif inR at_2 s.length then
   bif ((q37 s at_2) == 46) then
    bif decide (point2 < 0) then
     bif decide (at_2 > first2) then
      bif q26 (at_2 + 1) then
      K0 (at_2 + 1,at_2,x_Neg4,x_D4)
      else none
     else
      bif inR at_2 s.length then
      bif decide ((q37 s at_2) < 48) then
       some ((x_Neg4,x_D4,()),false,false,())
      else
       bif inR at_2 s.length then
       bif decide ((q37 s at_2) > 57) then
        some ((x_Neg4,x_D4,()),false,false,())
       else
        (qy4 N 10).bind fun r36 =>
        (wf2 N (x_Neg4,x_D4,()) r36).bind fun r37 =>
        bif inR at_2 s.length then
        bif q26 (IntKind.u8.wrap ((q37 s at_2) - 48)) then
        (qy4 N (IntKind.u8.wrap ((q37 s at_2) - 48))).bind fun r38 =>
        (zj8 N r37 r38).bind fun r39 =>
        bif q26 (at_2 + 1) then
        K0 (at_2 + 1,point2,r39.1,r39.2.1)
        else none
        else none
        else none
       else none
      else none
    else
     bif inR at_2 s.length then
     bif decide ((q37 s at_2) < 48) then
      some ((x_Neg4,x_D4,()),false,false,())
     else
      bif inR at_2 s.length then
      bif decide ((q37 s at_2) > 57) then
       some ((x_Neg4,x_D4,()),false,false,())
      else
       (qy4 N 10).bind fun r40 =>
       (wf2 N (x_Neg4,x_D4,()) r40).bind fun r41 =>
       bif inR at_2 s.length then
       bif q26 (IntKind.u8.wrap ((q37 s at_2) - 48)) then
       (qy4 N (IntKind.u8.wrap ((q37 s at_2) - 48))).bind fun r42 =>
       (zj8 N r41 r42).bind fun r43 =>
       bif q26 (at_2 + 1) then
       K0 (at_2 + 1,point2,r43.1,r43.2.1)
       else none
       else none
       else none
      else none
     else none
   else
    bif inR at_2 s.length then
    bif decide ((q37 s at_2) < 48) then
     some ((x_Neg4,x_D4,()),false,false,())
    else
     bif inR at_2 s.length then
     bif decide ((q37 s at_2) > 57) then
      some ((x_Neg4,x_D4,()),false,false,())
     else
      (qy4 N 10).bind fun r44 =>
      (wf2 N (x_Neg4,x_D4,()) r44).bind fun r45 =>
      bif inR at_2 s.length then
      bif q26 (IntKind.u8.wrap ((q37 s at_2) - 48)) then
      (qy4 N (IntKind.u8.wrap ((q37 s at_2) - 48))).bind fun r46 =>
      (zj8 N r45 r46).bind fun r47 =>
      bif q26 (at_2 + 1) then
      K0 (at_2 + 1,point2,r47.1,r47.2.1)
      else none
      else none
      else none
     else none
    else none
   else none
  else
   bif decide (point2 ≥ 0) then
    bif q26 ((s.length:Int) - point2) then
    bif q26 (((s.length:Int) - point2) - 1) then
    bif decide ((((s.length:Int) - point2) - 1) < 1) then
     some ((x_Neg4,x_D4,()),false,false,())
    else
     bif decide ((((s.length:Int) - point2) - 1) > 4) then
      some ((x_Neg4,x_D4,()),false,false,())
     else
      l6 s point2 neg2 first2 qa7 qx6 (((s.length:Int) - point2) - 1,x_Neg4,x_D4)
    else none
    else none
   else
    bif ((s.length:Int) == first2) then
     some ((x_Neg4,x_D4,()),false,false,())
    else
     bif inR first2 s.length then
     bif ((q37 s first2) == 48) then
      bif q26 (first2 + 1) then
      bif decide ((s.length:Int) > (first2 + 1)) then
       some ((x_Neg4,x_D4,()),false,false,())
      else
       bif neg2 then
        (wh9 N (x_Neg4,x_D4,())).bind fun r52 =>
        some (r52,decide (point2 ≥ 0),true,())
       else
        some ((x_Neg4,x_D4,()),decide (point2 ≥ 0),true,())
      else none
     else
      bif neg2 then
       (wh9 N (x_Neg4,x_D4,())).bind fun r53 =>
       some (r53,decide (point2 ≥ 0),true,())
      else
       some ((x_Neg4,x_D4,()),decide (point2 ≥ 0),true,())
     else none
def zo9 (N:Nat)(s:List UInt8)(neg2:Bool)(first2:Int)(qa7:Bool)(qx6:List Int)(K0:(Int×Int×Bool×List Int)→Option OX4)(e:Int×Int×Bool×List Int):Option OX4:=yv0 N s neg2 first2 qa7 qx6 (fun s point2 neg2 first2 qa7 qx6 e=>q86 (xr4 N s point2 neg2 first2 qa7 qx6) N e) K0 e
theorem uy3 (N:Nat)(s:List UInt8)(neg2:Bool)(first2:Int)(qa7:Bool)(qx6:List Int)(n_:Nat)(e:Int×Int×Bool×List Int):q57 (y18 N ) n_ ((z15 s neg2 first2 qa7 qx6) e) ((wx7 s neg2 first2 qa7 qx6) e)=q86 (zo9 N s neg2 first2 qa7 qx6 ) n_ e :=
 q39 (z15 s neg2 first2 qa7 qx6) (wx7 s neg2 first2 qa7 qx6) (by
  intro K e
  have h:(y18 N ) K ((z15 s neg2 first2 qa7 qx6) e) ((wx7 s neg2 first2 qa7 qx6) e)=yv0 N s neg2 first2 qa7 qx6 (fun s point2 neg2 first2 qa7 qx6 e=>q57 (xq0 N ) N (jp3 s point2 neg2 first2 qa7 qx6 e) (y44 s point2 neg2 first2 qa7 qx6 e)) (fun e=>K ((z15 s neg2 first2 qa7 qx6) e) ((wx7 s neg2 first2 qa7 qx6) e)) e:=by obtain ⟨at_2,point2,x_Neg4,x_D4⟩:=e; kernel_rfl
  rw [h]
  simp only [zo9,ul0] <;> rfl) n_ e
def yk0 (N:Nat)(s:List UInt8)(l1 l3 l5:(List UInt8)→Bool→Int→Bool→(List Int)→(Int×Int×Bool×List Int)→Option OX4):Option OX4 :=
 bif decide ((s.length:Int) > 0) then
  bif inR 0 s.length then
  bif ((q37 s 0) == 45) then
   l1 s ((q37 s 0) == 45) 1 false [] (1,(-1),false,[])
  else
   l3 s ((q37 s 0) == 45) 0 false [] (0,(-1),false,[])
  else none
 else
  l5 s false 0 false [] (0,(-1),false,[])
def zw9 (N:Nat)(s:List UInt8):Option OX4:=yk0 N s (fun s neg first qa3 z29 e=>q86 (qz1 N s neg first qa3 z29) N e) (fun s neg1 first1 qa6 qx7 e=>q86 (zr1 N s neg1 first1 qa6 qx7) N e) (fun s neg2 first2 qa7 qx6 e=>q86 (zo9 N s neg2 first2 qa7 qx6) N e)
noncomputable def v32 (N:Nat)(s:List UInt8):Option (RT [ql5,.bool,.bool]):=q22 DR Tryz.prog N (yr9 N) qd4 Tryz.f201 (q10 Tryz.f201) (RT [ql5,.bool,.bool]) (qd2 [.str] (s,())) [] (q40 [ql5,.bool,.bool])
theorem u66 (N:Nat)(s:List UInt8):v32 N s=zw9 N s:=by
 have h:v32 N s=yk0 N s (fun s neg first qa3 z29 e=>q57 (y46 N ) N (wx0 s neg first qa3 z29 e) (wv4 s neg first qa3 z29 e)) (fun s neg1 first1 qa6 qx7 e=>q57 (jy4 N ) N (wx9 s neg1 first1 qa6 qx7 e) (ww8 s neg1 first1 qa6 qx7 e)) (fun s neg2 first2 qa7 qx6 e=>q57 (y18 N ) N (z15 s neg2 first2 qa7 qx6 e) (wx7 s neg2 first2 qa7 qx6 e)):=by kernel_rfl
 rw [h]
 simp only [zw9,uq2,uu0,uy3] <;> rfl
def vu3 (m:(List UInt8)→Option OX4):Ent:=q35 [.str] [ql5,.bool,.bool] fun (x:Els [.str])=>m x.1
def yu0 (N:Nat):Ent:=vu3 (zw9 N)
theorem v47 (N:Nat):q16 Tryz.prog 201 (yu0 N):=q15 (uu8 N) Tryz.func201 rfl (by kernel_rfl) fun (x:Els [.str])=>u66 N x.1
def kr1 :FH:=⟨[],[],[],[],false,[],[]⟩
noncomputable def vw3 (N:Nat):q48:=tab []
theorem kd1 (N:Nat):q13 Tryz.prog (vw3 N):=q27 _
def v02 (N:Nat)(is_:Bool):Option q00 :=
 bif is_ then
  some (4,1,[],())
 else
  some (4,0,[],())
noncomputable def kt6 (N:Nat)(is_:Bool):Option (RT [q05]):=q22 DR Tryz.prog N (vw3 N) kr1 Tryz.f202 (q10 Tryz.f202) (RT [q05]) (qd2 [.bool] (is_,())) [] (q40 [q05])
theorem um1 (N:Nat)(is_:Bool):kt6 N is_=v02 N is_:=by kernel_rfl
def u35 (m:Bool→Option q00):Ent:=q35 [.bool] [q05] fun (x:Els [.bool])=>m x.1
def xn4 (N:Nat):Ent:=u35 (v02 N)
theorem vs4 (N:Nat):q16 Tryz.prog 202 (xn4 N):=q15 (kd1 N) Tryz.func202 rfl (by kernel_rfl) fun (x:Els [.bool])=>um1 N x.1
def vz8 :LH:=⟨[(0,.str),(3,.int .i64)],[],[]⟩
def yy3 :FH:=⟨[vz8],[],[],[],false,[],[]⟩
noncomputable def vk8 (N:Nat):q48:=tab []
theorem kv4 (N:Nat):q13 Tryz.prog (vk8 N):=q27 _
noncomputable def u05 :Sc:=wl6 Tryz.prog yy3
noncomputable def u08 (N:Nat):Cfg:=⟨N,vk8 N,0⟩
noncomputable def k81 (N:Nat):Exit→List TV→List TOb→Option Bool:=fin Tryz.prog 0 Tryz.f35.results.toList (q40 [.bool])
def xc4 (s:List UInt8)(e:Int):List TV:=match e with
 | i=>frm 47 [(0,.str s),(3,.int .i64 i)]
def xg7 (s:List UInt8)(e:Int):List TOb:=match e with
 | i=>[]
noncomputable def vx7 (N:Nat):(List TV→List TOb→Option Bool)→List TV→List TOb→Option Bool:=w54 DR u05 (u08 N) (ql6 (qc4 (q08 (q87 (q08 (q08 (q10 Tryz.f35))))))) vz8 (yy3.loops.drop 1) (qk0 0 (qc3 DR u05 (u08 N) (q08 (q08 (q08 (q10 Tryz.f35)))) (yy3.loops.drop 1) (k81 N)))
def x85 (N:Nat)(s:List UInt8)(K0:Int→Option Bool)(e:Int):Option Bool :=
 match e with
 | i =>
  bif decide (i < (s.length:Int)) then
   bif inR i s.length then
   bif decide ((q37 s i) ≥ 97) then
    bif inR i s.length then
    bif (!(decide ((q37 s i)≤122))) then
     bif (i == 0) then
      some false
     else
      bif inR i s.length then
      bif decide ((q37 s i) < 48) then
       some false
      else
       bif inR i s.length then
       bif decide ((q37 s i) > 57) then
        some false
       else
        bif q26 (i + 1) then
        K0 (i + 1)
        else none
       else none
      else none
    else
     bif q26 (i + 1) then
     K0 (i + 1)
     else none
    else none
   else
    bif (i == 0) then
     some false
    else
     bif inR i s.length then
     bif decide ((q37 s i) < 48) then
      some false
     else
      bif inR i s.length then
      bif decide ((q37 s i) > 57) then
       some false
      else
       bif q26 (i + 1) then
       K0 (i + 1)
       else none
      else none
     else none
   else none
  else
   some true
theorem kr0 (N:Nat)(s:List UInt8)(n_:Nat)(e:Int):q57 (vx7 N ) n_ ((xc4 s) e) ((xg7 s) e)=q86 (x85 N s ) n_ e :=
 q39 (xc4 s) (xg7 s) (by intro K e; kernel_rfl) n_ e
def v68 (N:Nat)(s:List UInt8)(l1:(List UInt8)→Int→Option Bool):Option Bool :=
 bif decide ((s.length:Int) < 1) then
  some false
 else
  bif decide ((s.length:Int) > 12) then
   some false
  else
   l1 s 0
def x96 (N:Nat)(s:List UInt8):Option Bool:=v68 N s (fun s e=>q86 (x85 N s) N e)
noncomputable def un5 (N:Nat)(s:List UInt8):Option (RT [.bool]):=q22 DR Tryz.prog N (vk8 N) yy3 Tryz.f35 (q10 Tryz.f35) (RT [.bool]) (qd2 [.str] (s,())) [] (q40 [.bool])
theorem kc9 (N:Nat)(s:List UInt8):un5 N s=x96 N s:=by
 have h:un5 N s=v68 N s (fun s e=>q57 (vx7 N ) N (xc4 s e) (xg7 s e)):=by kernel_rfl
 rw [h]
 simp only [x96,kr0] <;> rfl
def uo8 (m:(List UInt8)→Option Bool):Ent:=q35 [.str] [.bool] fun (x:Els [.str])=>m x.1
def vm4 (N:Nat):Ent:=uo8 (x96 N)
theorem u62 (N:Nat):q16 Tryz.prog 35 (vm4 N):=q15 (kv4 N) Tryz.func35 rfl (by kernel_rfl) fun (x:Els [.str])=>kc9 N x.1
def ux4 :LH:=⟨[(1,.asis),(3,.int .i64)],[],[.cells [.int .u8,.int .i64,.str]]⟩
def yu2 :FH:=⟨[ux4],[],[],[],false,[],[]⟩
noncomputable def uf9 (N:Nat):q48:=tab [(35,vm4 N)]
theorem r2_May_Ts (N:Nat):q13 Tryz.prog (uf9 N):=q06 (u62 N) <| q27 _
noncomputable def v37 :Sc:=wl6 Tryz.prog yu2
noncomputable def vb9 (N:Nat):Cfg:=⟨N,uf9 N,0⟩
noncomputable def ky0 (N:Nat):Exit→List TV→List TOb→Option Bool:=fin Tryz.prog 0 Tryz.f14.results.toList (q40 [.bool])
def vl8 (q42 v_N:Int)(v_S:List UInt8)(e:Int):List TV:=match e with
 | i=>frm 77 [(1,.ref 0 0),(3,.int .i64 i)]
def v72 (q42 v_N:Int)(v_S:List UInt8)(e:Int):List TOb:=match e with
 | i=>[.cells [.int .u8 q42,.int .i64 v_N,.str v_S] 26 true]
noncomputable def ul6 (N:Nat):(List TV→List TOb→Option Bool)→List TV→List TOb→Option Bool:=w54 DR v37 (vb9 N) (ql6 (qc4 (q08 (q87 (ys1 (q08 (zf9 (q08 (zf9 (q08 (qc4 (q08 (q87 (q08 (q10 Tryz.f14))))))))))))))) ux4 (yu2.loops.drop 1) (qk0 1 (qc3 DR v37 (vb9 N) (q08 (ys1 (q08 (zf9 (q08 (zf9 (q08 (qc4 (q08 (q87 (q08 (q10 Tryz.f14)))))))))))) (yu2.loops.drop 1) (qk0 0 (qc3 DR v37 (vb9 N) (q08 (q08 (q10 Tryz.f14))) (yu2.loops.drop 1) (ky0 N)))))
def x30 (N:Nat)(q42 v_N:Int)(v_S:List UInt8)(K0:Int→Option Bool)(e:Int):Option Bool :=
 match e with
 | i =>
  bif decide (i < (v_S.length:Int)) then
   bif inR i v_S.length then
   bif decide ((q37 v_S i) < 32) then
    some false
   else
    bif inR i v_S.length then
    bif decide ((q37 v_S i) > 126) then
     some false
    else
     bif q26 (i + 1) then
     K0 (i + 1)
     else none
    else none
   else none
  else
   bif (v_N == 0) then
    some (decide ((v_S.length:Int)≤200))
   else
    some false
theorem r2_May_l1 (N:Nat)(q42 v_N:Int)(v_S:List UInt8)(n_:Nat)(e:Int):q57 (ul6 N ) n_ ((vl8 q42 v_N v_S) e) ((v72 q42 v_N v_S) e)=q86 (x30 N q42 v_N v_S ) n_ e :=
 q39 (vl8 q42 v_N v_S) (v72 q42 v_N v_S) (by intro K e; kernel_rfl) n_ e
def ui5 (N:Nat)(v:q00)(l1:Int→Int→(List UInt8)→Int→Option Bool):Option Bool :=
 bif (v.1 == 0) then
  bif (v.2.1 == 0) then
   some (v.2.2.1 == ([]:List UInt8))
  else
   some false
 else
  bif (v.1 == 1) then
   some (v.2.2.1 == ([]:List UInt8))
  else
   bif (v.1 == 2) then
    some (v.2.2.1 == ([]:List UInt8))
   else
    bif (v.1 == 3) then
     l1 v.1 v.2.1 v.2.2.1 0
    else
     bif (v.1 == 4) then
      bif (v.2.2.1 == ([]:List UInt8)) then
       bif (v.2.1 == 0) then
        some true
       else
        some (v.2.1 == 1)
      else
       some false
     else
      bif (v.1 == 5) then
       bif (v.2.1 == 0) then
        (x96 N v.2.2.1).bind fun r =>
        some r
       else
        some false
      else
       some false
def xk8 (N:Nat)(v:q00):Option Bool:=ui5 N v (fun q42 v_N v_S e=>q86 (x30 N q42 v_N v_S) N e)
noncomputable def ki9 (N:Nat)(v:q00):Option (RT [.bool]):=q22 DR Tryz.prog N (uf9 N) yu2 Tryz.f14 (q10 Tryz.f14) (RT [.bool]) (qd2 [q05] (v,())) [] (q40 [.bool])
theorem kt4 (N:Nat)(v:q00):ki9 N v=xk8 N v:=by
 have h:ki9 N v=ui5 N v (fun q42 v_N v_S e=>q57 (ul6 N ) N (vl8 q42 v_N v_S e) (v72 q42 v_N v_S e)):=by kernel_rfl
 rw [h]
 simp only [xk8,r2_May_l1] <;> rfl
def kb3 (m:q00→Option Bool):Ent:=q35 [q05] [.bool] fun (x:Els [q05])=>m x.1
def xc2 (N:Nat):Ent:=kb3 (xk8 N)
theorem xo9 (N:Nat):q16 Tryz.prog 14 (xc2 N):=q15 (r2_May_Ts N) Tryz.func14 rfl (by kernel_rfl) fun (x:Els [q05])=>kt4 N x.1
def r1_Sub_H :FH:=⟨[],[],[(1,⟨3,9,0,[],[]⟩)],[],false,[],[]⟩
noncomputable def kg0 (N:Nat):q48:=tab [(248,xe9 N),(246,x94 N)]
theorem r1_Sub_Ts (N:Nat):q13 Tryz.prog (kg0 N):=q06 (xj9 N) <| q06 (xn6 N) <| q27 _
def u30 (N:Nat)(x y:qa0):Option qa0 :=
 (wh9 N y).bind fun r =>
 (zj8 N x r).bind fun r1 =>
 some r1
noncomputable def r1_Sub_C (N:Nat)(x y:qa0):Option (RT [ql5]):=q22 DR Tryz.prog N (kg0 N) r1_Sub_H Tryz.f266 (q10 Tryz.f266) (RT [ql5]) (qd2 [ql5,ql5] (x,y,())) [] (q40 [ql5])
theorem ku0 (N:Nat)(x y:qa0):r1_Sub_C N x y=u30 N x y:=by kernel_rfl
def k59 (m:qa0→qa0→Option qa0):Ent:=q35 [ql5,ql5] [ql5] fun (x:Els [ql5,ql5])=>m x.1 x.2.1
def xe5 (N:Nat):Ent:=k59 (u30 N)
theorem xs0 (N:Nat):q16 Tryz.prog 266 (xe5 N):=q15 (r1_Sub_Ts N) Tryz.func266 rfl (by kernel_rfl) fun (x:Els [ql5,ql5])=>ku0 N x.1 x.2.1
def r1_Cmp_H :FH:=⟨[],[],[],[],false,[],[]⟩
noncomputable def kn5 (N:Nat):q48:=tab [(266,xe5 N)]
theorem r1_Cmp_Ts (N:Nat):q13 Tryz.prog (kn5 N):=q06 (xs0 N) <| q27 _
def vl6 (N:Nat)(x y:qa0):Option Int :=
 (u30 N x y).bind fun r =>
 bif r.1 then
  some (-1)
 else
  bif decide ((r.2.1.length:Int) > 0) then
   some 1
  else
   some 0
noncomputable def r1_Cmp_C (N:Nat)(x y:qa0):Option (RT [(.int .i64)]):=q22 DR Tryz.prog N (kn5 N) r1_Cmp_H Tryz.f249 (q10 Tryz.f249) (RT [(.int .i64)]) (qd2 [ql5,ql5] (x,y,())) [] (q40 [(.int .i64)])
theorem kp1 (N:Nat)(x y:qa0):r1_Cmp_C N x y=vl6 N x y:=by kernel_rfl
def kd9 (m:qa0→qa0→Option Int):Ent:=q35 [ql5,ql5] [(.int .i64)] fun (x:Els [ql5,ql5])=>m x.1 x.2.1
def xa2 (N:Nat):Ent:=kd9 (vl6 N)
theorem xk9 (N:Nat):q16 Tryz.prog 249 (xa2 N):=q15 (r1_Cmp_Ts N) Tryz.func249 rfl (by kernel_rfl) fun (x:Els [ql5,ql5])=>kp1 N x.1 x.2.1
def vh8 :LH:=⟨[(2,.asis),(3,.asis),(4,.asis),(5,.asis),(6,.asis),(7,.asis),(8,.asis),(9,.asis),(10,.int .i64)],[],[.cells [.bool,.lst (.int .i64)],.cells [.bool,.lst (.int .i64)],.cells [.bool,.lst (.int .i64)],.cells [.bool,.lst (.int .i64)],.cells [.bool,.lst (.int .i64)],.cells [.bool,.lst (.int .i64)],.same,.cells [.bool,.lst (.int .i64)]]⟩
def uu3 :LH:=⟨[(2,.asis),(3,.asis),(4,.asis),(5,.asis),(6,.asis),(7,.asis),(8,.asis),(9,.asis),(10,.int .i64),(11,.int .i64),(12,.int .i64)],[],[.cells [.bool,.lst (.int .i64)],.cells [.bool,.lst (.int .i64)],.cells [.bool,.lst (.int .i64)],.cells [.bool,.lst (.int .i64)],.cells [.bool,.lst (.int .i64)],.cells [.bool,.lst (.int .i64)],.same,.cells [.bool,.lst (.int .i64)]]⟩
def zp0 :FH:=⟨[vh8,uu3],[23],[(1,⟨9,83,2,[(6,.alloc 0),(7,.alloc 1),(8,.store true 4)],[]⟩),(7,⟨8,83,0,[],[]⟩),(11,⟨5,83,0,[],[]⟩),(15,⟨5,83,0,[],[]⟩),(16,⟨11,83,0,[],[]⟩)],[(16,8)],false,[],[]⟩
noncomputable def u57 (N:Nat):q48:=tab [(268,zk8 N),(209,j17 N),(247,xa9 N),(249,xa2 N),(266,xe5 N)]
theorem r1_Quo_Ts (N:Nat):q13 Tryz.prog (u57 N):=q06 (ze7 N) <| q06 (zn9 N) <| q06 (xr5 N) <| q06 (xk9 N) <| q06 (xs0 N) <| q27 _
noncomputable def j50 :Sc:=wl6 Tryz.prog zp0
noncomputable def zi9 (N:Nat):Cfg:=⟨N,u57 N,0⟩
noncomputable def vw4 (N:Nat):Exit→List TV→List TOb→Option (qa0×qa0×Unit):=fin Tryz.prog 0 Tryz.f239.results.toList (q40 [ql5,ql5])
def zy3 (q31:Bool)(x_D:List Int)(q99:Bool)(y_D:List Int)(q56:Bool)(ql2:List Int)(qd3:Bool)(j87:List Int)(qv8:Bool)(a_D:List Int)(qr1:Bool)(b_D:List Int)(x:qa0)(e:Int×List Int×Bool×List Int):List TV:=match e with
 | (i,q,r_Neg,r_D)=>frm 83 [(2,.ref 0 0),(3,.ref 1 0),(4,.ref 2 0),(5,.ref 3 0),(6,.ref 4 0),(7,.ref 5 0),(8,.arr 6 ((x.2.1.length:Int).toNat)),(9,.ref 7 0),(10,.int .i64 i)]
def zw8 (q31:Bool)(x_D:List Int)(q99:Bool)(y_D:List Int)(q56:Bool)(ql2:List Int)(qd3:Bool)(j87:List Int)(qv8:Bool)(a_D:List Int)(qr1:Bool)(b_D:List Int)(x:qa0)(e:Int×List Int×Bool×List Int):List TOb:=match e with
 | (i,q,r_Neg,r_D)=>[.cells [.bool q31,.tl (.int .i64) x_D .unk] 265 true,.cells [.bool q99,.tl (.int .i64) y_D .unk] 265 true,.cells [.bool q56,.tl (.int .i64) ql2 .unk] 265 true,.cells [.bool qd3,.tl (.int .i64) j87 .unk] 265 true,.cells [.bool qv8,.tl (.int .i64) a_D .unk] 265 true,.cells [.bool qr1,.tl (.int .i64) b_D .unk] 265 true,.tarr (.int .i64) q 3 true,.cells [.bool r_Neg,.tl (.int .i64) r_D .unk] 265 true]
def vd2 (i:Int)(q31:Bool)(x_D:List Int)(q99:Bool)(y_D:List Int)(q56:Bool)(ql2:List Int)(qd3:Bool)(j87:List Int)(qv8:Bool)(a_D:List Int)(qr1:Bool)(b_D q:List Int)(zc8:Bool)(k26:List Int)(x:qa0)(e:Int×Int):List TV:=match e with
 | (low,high)=>frm 83 [(2,.ref 0 0),(3,.ref 1 0),(4,.ref 2 0),(5,.ref 3 0),(6,.ref 4 0),(7,.ref 5 0),(8,.arr 6 ((x.2.1.length:Int).toNat)),(9,.ref 7 0),(10,.int .i64 i),(11,.int .i64 low),(12,.int .i64 high)]
def vd3 (i:Int)(q31:Bool)(x_D:List Int)(q99:Bool)(y_D:List Int)(q56:Bool)(ql2:List Int)(qd3:Bool)(j87:List Int)(qv8:Bool)(a_D:List Int)(qr1:Bool)(b_D q:List Int)(zc8:Bool)(k26:List Int)(x:qa0)(e:Int×Int):List TOb:=match e with
 | (low,high)=>[.cells [.bool q31,.tl (.int .i64) x_D .unk] 265 true,.cells [.bool q99,.tl (.int .i64) y_D .unk] 265 true,.cells [.bool q56,.tl (.int .i64) ql2 .unk] 265 true,.cells [.bool qd3,.tl (.int .i64) j87 .unk] 265 true,.cells [.bool qv8,.tl (.int .i64) a_D .unk] 265 true,.cells [.bool qr1,.tl (.int .i64) b_D .unk] 265 true,.tarr (.int .i64) q 3 true,.cells [.bool zc8,.tl (.int .i64) k26 .unk] 265 true]
noncomputable def uq0 (N:Nat)(K0r:List TV→List TOb→Option (qa0×qa0×Unit)):(List TV→List TOb→Option (qa0×qa0×Unit))→List TV→List TOb→Option (qa0×qa0×Unit):=w54 DR j50 (zi9 N) (ql6 (qc4 (q87 (q08 (q08 (qc4 (q87 (q08 (ql6 (qc4 (q08 (q87 (q08 (q08 (q08 (q08 (q10 Tryz.f239))))))))))))))))) uu3 (zp0.loops.drop 2) (qk0 2 (qc3 DR j50 (zi9 N) (q08 (q08 (q08 (qc4 (q87 (q08 (ql6 (qc4 (q08 (q87 (q08 (q08 (q08 (q08 (q10 Tryz.f239))))))))))))))) (zp0.loops.drop 2) (qk0 1 (qc3 DR j50 (zi9 N) (q08 (q08 (ql6 (qc4 (q08 (q87 (q08 (q08 (q08 (q08 (q10 Tryz.f239))))))))))) (zp0.loops.drop 2) (ud6 (zi9 N) vh8 (qk0 0 (qc3 DR j50 (zi9 N) (q08 (q08 (q08 (q08 (q08 (q10 Tryz.f239)))))) (zp0.loops.drop 2) (vw4 N))) K0r)))))
def v19 (N:Nat)(i:Int)(q31:Bool)(x_D:List Int)(q99:Bool)(y_D:List Int)(q56:Bool)(ql2:List Int)(qd3:Bool)(j87:List Int)(qv8:Bool)(a_D:List Int)(qr1:Bool)(b_D q:List Int)(zc8:Bool)(k26:List Int)(x:qa0)(K0:(Int×List Int×Bool×List Int)→Option (qa0×qa0×Unit))(K1:(Int×Int)→Option (qa0×qa0×Unit))(e:Int×Int):Option (qa0×qa0×Unit) :=
 match e with
 | (low,high) =>
  bif decide (low < high) then
   bif q26 (low + high) then
   bif q26 ((low + high) + 1) then
   bif q26 (Int.tdiv ((low + high) + 1) 2) then
   (qy4 N (Int.tdiv ((low + high) + 1) 2)).bind fun r1 =>
   (wf2 N r1 (qr1,b_D,())).bind fun r2 =>
   (vl6 N r2 (zc8,k26,())).bind fun r3 =>
   bif decide (r3≤0) then
    K1 (Int.tdiv ((low + high) + 1) 2,high)
   else
    bif q26 ((Int.tdiv ((low + high) + 1) 2) - 1) then
    K1 (low,(Int.tdiv ((low + high) + 1) 2) - 1)
    else none
   else none
   else none
   else none
  else
   bif inR i ((x.2.1.length:Int).toNat) then
   bif inR i q.length then
   (qy4 N low).bind fun r4 =>
   (wf2 N r4 (qr1,b_D,())).bind fun r5 =>
   (u30 N (zc8,k26,()) r5).bind fun r6 =>
   bif q26 (i - 1) then
   K0 (i - 1,(setD q i low),r6.1,r6.2.1)
   else none
   else none
   else none
theorem r1_Quo_l2 (N:Nat)(i:Int)(q31:Bool)(x_D:List Int)(q99:Bool)(y_D:List Int)(q56:Bool)(ql2:List Int)(qd3:Bool)(j87:List Int)(qv8:Bool)(a_D:List Int)(qr1:Bool)(b_D q:List Int)(zc8:Bool)(k26:List Int)(x:qa0)(K0r:List TV→List TOb→Option (qa0×qa0×Unit))(n_:Nat)(e:Int×Int):q57 (uq0 N K0r) n_ ((vd2 i q31 x_D q99 y_D q56 ql2 qd3 j87 qv8 a_D qr1 b_D q zc8 k26 x) e) ((vd3 i q31 x_D q99 y_D q56 ql2 qd3 j87 qv8 a_D qr1 b_D q zc8 k26 x) e)=q86 (v19 N i q31 x_D q99 y_D q56 ql2 qd3 j87 qv8 a_D qr1 b_D q zc8 k26 x (fun a=>K0r (zy3 q31 x_D q99 y_D q56 ql2 qd3 j87 qv8 a_D qr1 b_D x a) (zw8 q31 x_D q99 y_D q56 ql2 qd3 j87 qv8 a_D qr1 b_D x a))) n_ e :=
 q39 (vd2 i q31 x_D q99 y_D q56 ql2 qd3 j87 qv8 a_D qr1 b_D q zc8 k26 x) (vd3 i q31 x_D q99 y_D q56 ql2 qd3 j87 qv8 a_D qr1 b_D q zc8 k26 x) (by intro K e; obtain ⟨low,high⟩:=e; kernel_rfl) n_ e
noncomputable def v61 (N:Nat):(List TV→List TOb→Option (qa0×qa0×Unit))→List TV→List TOb→Option (qa0×qa0×Unit):=w54 DR j50 (zi9 N) (ql6 (qc4 (q08 (q87 (q08 (q08 (q08 (q08 (q10 Tryz.f239))))))))) vh8 (zp0.loops.drop 1) (qk0 0 (qc3 DR j50 (zi9 N) (q08 (q08 (q08 (q08 (q08 (q10 Tryz.f239)))))) (zp0.loops.drop 2) (vw4 N)))
def xi2 (N:Nat)(q31:Bool)(x_D:List Int)(q99:Bool)(y_D:List Int)(q56:Bool)(ql2:List Int)(qd3:Bool)(j87:List Int)(qv8:Bool)(a_D:List Int)(qr1:Bool)(b_D:List Int)(x:qa0)(l2:Int→Bool→(List Int)→Bool→(List Int)→Bool→(List Int)→Bool→(List Int)→Bool→(List Int)→Bool→(List Int)→(List Int)→Bool→(List Int)→qa0→(Int×Int)→Option (qa0×qa0×Unit))(K0:(Int×List Int×Bool×List Int)→Option (qa0×qa0×Unit))(e:Int×List Int×Bool×List Int):Option (qa0×qa0×Unit) :=
 match e with
 | (i,q,r_Neg,r_D) =>
  bif decide (i ≥ 0) then
   bif inR i a_D.length then
   bif w23 ([(q24 a_D i 0)].length + r_D.length) 17592186044416 then
   (wj6 N false ([(q24 a_D i 0)] ++ r_D)).bind fun r =>
   l2 i q31 x_D q99 y_D q56 ql2 qd3 j87 qv8 a_D qr1 b_D q r.1 r.2.1 x (0,9999)
   else none
   else none
  else
   bif Nat.beq ((x.2.1.length:Int).toNat) q.length then
   (wj6 N (!(q31 == q99)) q).bind fun r7 =>
   (wj6 N q31 r_D).bind fun r8 =>
   some (r7,r8,())
   else none
def yy2 (N:Nat)(q31:Bool)(x_D:List Int)(q99:Bool)(y_D:List Int)(q56:Bool)(ql2:List Int)(qd3:Bool)(j87:List Int)(qv8:Bool)(a_D:List Int)(qr1:Bool)(b_D:List Int)(x:qa0)(K0:(Int×List Int×Bool×List Int)→Option (qa0×qa0×Unit))(e:Int×List Int×Bool×List Int):Option (qa0×qa0×Unit):=xi2 N q31 x_D q99 y_D q56 ql2 qd3 j87 qv8 a_D qr1 b_D x (fun i q31 x_D q99 y_D q56 ql2 qd3 j87 qv8 a_D qr1 b_D q zc8 k26 x e=>q86 (v19 N i q31 x_D q99 y_D q56 ql2 qd3 j87 qv8 a_D qr1 b_D q zc8 k26 x K0) N e) K0 e
theorem r1_Quo_l1 (N:Nat)(q31:Bool)(x_D:List Int)(q99:Bool)(y_D:List Int)(q56:Bool)(ql2:List Int)(qd3:Bool)(j87:List Int)(qv8:Bool)(a_D:List Int)(qr1:Bool)(b_D:List Int)(x:qa0)(n_:Nat)(e:Int×List Int×Bool×List Int):q57 (v61 N ) n_ ((zy3 q31 x_D q99 y_D q56 ql2 qd3 j87 qv8 a_D qr1 b_D x) e) ((zw8 q31 x_D q99 y_D q56 ql2 qd3 j87 qv8 a_D qr1 b_D x) e)=q86 (yy2 N q31 x_D q99 y_D q56 ql2 qd3 j87 qv8 a_D qr1 b_D x ) n_ e :=
 q39 (zy3 q31 x_D q99 y_D q56 ql2 qd3 j87 qv8 a_D qr1 b_D x) (zw8 q31 x_D q99 y_D q56 ql2 qd3 j87 qv8 a_D qr1 b_D x) (by
  intro K e
  have h:(v61 N ) K ((zy3 q31 x_D q99 y_D q56 ql2 qd3 j87 qv8 a_D qr1 b_D x) e) ((zw8 q31 x_D q99 y_D q56 ql2 qd3 j87 qv8 a_D qr1 b_D x) e)=xi2 N q31 x_D q99 y_D q56 ql2 qd3 j87 qv8 a_D qr1 b_D x (fun i q31 x_D q99 y_D q56 ql2 qd3 j87 qv8 a_D qr1 b_D q zc8 k26 x e=>q57 (uq0 N K) N (vd2 i q31 x_D q99 y_D q56 ql2 qd3 j87 qv8 a_D qr1 b_D q zc8 k26 x e) (vd3 i q31 x_D q99 y_D q56 ql2 qd3 j87 qv8 a_D qr1 b_D q zc8 k26 x e)) (fun e=>K ((zy3 q31 x_D q99 y_D q56 ql2 qd3 j87 qv8 a_D qr1 b_D x) e) ((zw8 q31 x_D q99 y_D q56 ql2 qd3 j87 qv8 a_D qr1 b_D x) e)) e:=by obtain ⟨i,q,r_Neg,r_D⟩:=e; kernel_rfl
  rw [h]
  simp only [yy2,r1_Quo_l2] <;> rfl) n_ e
def u69 (N:Nat)(x y:qa0)(l1:Bool→(List Int)→Bool→(List Int)→Bool→(List Int)→Bool→(List Int)→Bool→(List Int)→Bool→(List Int)→qa0→(Int×List Int×Bool×List Int)→Option (qa0×qa0×Unit)):Option (qa0×qa0×Unit) :=
 bif jw4 8 (x.2.1.length:Int) (x.2.1.length:Int) then
 bif q26 ((x.2.1.length:Int) - 1) then
 l1 x.1 x.2.1 y.1 y.2.1 false [] false [] false x.2.1 false y.2.1 x ((x.2.1.length:Int) - 1,(List.replicate (x.2.1.length:Int).toNat 0),false,[])
 else none
 else none
def xp4 (N:Nat)(x y:qa0):Option (qa0×qa0×Unit):=u69 N x y (fun q31 x_D q99 y_D q56 ql2 qd3 j87 qv8 a_D qr1 b_D x e=>q86 (yy2 N q31 x_D q99 y_D q56 ql2 qd3 j87 qv8 a_D qr1 b_D x) N e)
noncomputable def kn1 (N:Nat)(x y:qa0):Option (RT [ql5,ql5]):=q22 DR Tryz.prog N (u57 N) zp0 Tryz.f239 (q10 Tryz.f239) (RT [ql5,ql5]) (qd2 [ql5,ql5] (x,y,())) [] (q40 [ql5,ql5])
theorem kw0 (N:Nat)(x y:qa0):kn1 N x y=xp4 N x y:=by
 have h:kn1 N x y=u69 N x y (fun q31 x_D q99 y_D q56 ql2 qd3 j87 qv8 a_D qr1 b_D x e=>q57 (v61 N ) N (zy3 q31 x_D q99 y_D q56 ql2 qd3 j87 qv8 a_D qr1 b_D x e) (zw8 q31 x_D q99 y_D q56 ql2 qd3 j87 qv8 a_D qr1 b_D x e)):=by kernel_rfl
 rw [h]
 simp only [xp4,r1_Quo_l1] <;> rfl
def kd7 (m:qa0→qa0→Option (qa0×qa0×Unit)):Ent:=q35 [ql5,ql5] [ql5,ql5] fun (x:Els [ql5,ql5])=>m x.1 x.2.1
def u21 (N:Nat):Ent:=kd7 (xp4 N)
theorem k20 (N:Nat):q16 Tryz.prog 239 (u21 N):=q15 (r1_Quo_Ts N) Tryz.func239 rfl (by kernel_rfl) fun (x:Els [ql5,ql5])=>kw0 N x.1 x.2.1
end Go.Proofs.YtgicljncknbgcaaGreat.Abs
