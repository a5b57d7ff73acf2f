/- The functions of the program, told on typed values, printed by a program: each tells what the reckoning of its body tells. -/
import Derived.Test.YtgicljncknbgcaaGreatL7
import Derived.Test.YtgicljncknbgcaaGreatG3
import Derived.Test.YtgicljncknbgcaaGreatLA
import Derived.Test.YtgicljncknbgcaaGreatProg
set_option linter.unusedVariables false
set_option linter.unusedSimpArgs false
set_option linter.unusedSectionVars false
namespace Go.Proofs.YtgicljncknbgcaaGreat.Abs
set_option maxRecDepth 100000
open Go Go.Proofs
def j07 :FH:=⟨[],[],[(3,⟨4,51,0,[(3,.store true 0)],[]⟩),(10,⟨8,51,0,[(7,.store true 0)],[]⟩)],[],false,[],[(7,⟨[(3,.asis),(5,.lst qc9),(7,.int .i64),(9,.int .i64)],[],[.cells [.int .i64,.int .i64],.cells [.int .i64,.int .i64]]⟩),(9,⟨[(3,.asis),(5,.lst qc9),(7,.int .i64),(9,.int .i64)],[],[.cells [.int .i64,.int .i64],.cells [.int .i64,.int .i64]]⟩)]⟩
noncomputable def vg7 (N:Nat):q48:=tab [(29,vy2 N),(30,xp9 N),(31,yt6 N)]
theorem kv6 (N:Nat):q13 Tryz.prog (vg7 N):=q06 (up3 N) <| q06 (vr1 N) <| q06 (vm3 N) <| q27 _
noncomputable def zg5 :Sc:=wl6 Tryz.prog j07
noncomputable def zg6 (N:Nat):Cfg:=⟨N,vg7 N,0⟩
noncomputable def v20 (N:Nat):Exit→List TV→List TOb→Option ((List q23)×qi7×Int×Unit):=fin Tryz.prog 0 Tryz.f11.results.toList (q40 [(.list q79),w74,(.int .i64)])
def xb2 (l:List q36)(e_ n q81 qb1:Int)(e:Unit):List TV:=frm 51 [(3,.ref 0 0),(5,.tl qc9 l .unk),(7,.int .i64 e_),(9,.int .i64 n)]
def xj1 (l:List q36)(e_ n q81 qb1:Int)(e:Unit):List TOb:=[.cells [.int .i64 0,.int .i64 0] 31 true,.cells [.int .i64 q81,.int .i64 qb1] 31 true]
def vv7 (l:List q36)(n q81 qb1 e:Int):List TV:=match e with
 | e_1=>frm 51 [(3,.ref 0 0),(5,.tl qc9 l .unk),(7,.int .i64 e_1),(9,.int .i64 n)]
def vw0 (l:List q36)(n q81 qb1 e:Int):List TOb:=match e with
 | e_1=>[.cells [.int .i64 0,.int .i64 0] 31 true,.cells [.int .i64 q81,.int .i64 qb1] 31 true]
noncomputable def u16 (N:Nat):List TV→List TOb→Option ((List q23)×qi7×Int×Unit):=ys5 DR zg5 (zg6 N) (q87 (q87 (q08 (q08 (q08 (q08 (q08 (q08 (q10 Tryz.f11))))))))) (qc3 DR zg5 (zg6 N) (q08 (q87 (q08 (q08 (q08 (q08 (q08 (q08 (q10 Tryz.f11))))))))) (j07.loops.drop 0) (qc3 DR zg5 (zg6 N) (q08 (q08 (q08 (q08 (q08 (q08 (q08 (q10 Tryz.f11)))))))) (j07.loops.drop 0) (v20 N)))
def y63 (N:Nat)(l:List q36)(n q81 qb1 e:Int):Option ((List q23)×qi7×Int×Unit) :=
 match e with
 | e_1 =>
  bif decide (n < (l.length:Int)) then
   bif inR n l.length then
   some ([],((q24 l n q30).2.2.2.1),e_1,())
   else none
  else
   (jp5 N l).bind fun r2 =>
   some ([],r2,e_1,())
theorem ks7 (N:Nat)(l:List q36)(n q81 qb1 e:Int):jmp N (u16 N ) ((vv7 l n q81 qb1) e) ((vw0 l n q81 qb1) e)=at1 N (y63 N l n q81 qb1 e):=qn4 (by kernel_rfl) N
noncomputable def xf7 (N:Nat):List TV→List TOb→Option ((List q23)×qi7×Int×Unit):=ys5 DR zg5 (zg6 N) (q87 (q87 (q08 (q08 (q08 (q08 (q08 (q10 Tryz.f11)))))))) (qc3 DR zg5 (zg6 N) (q08 (q87 (q08 (q08 (q08 (q08 (q08 (q10 Tryz.f11)))))))) (j07.loops.drop 0) (qc3 DR zg5 (zg6 N) (q08 (q08 (q08 (q08 (q08 (q08 (q10 Tryz.f11))))))) (j07.loops.drop 0) (v20 N)))
def yl9 (N:Nat)(l:List q36)(e_ n q81 qb1:Int)(l2:(List q36)→Int→Int→Int→Int→Option ((List q23)×qi7×Int×Unit))(e:Unit):Option ((List q23)×qi7×Int×Unit) :=
 bif (e_ == 0) then
  l2 l n q81 qb1 4
 else
  l2 l n q81 qb1 e_
def j23 (N:Nat)(l:List q36)(e_ n q81 qb1:Int)(e:Unit):Option ((List q23)×qi7×Int×Unit):=yl9 N l e_ n q81 qb1 (fun l n q81 qb1 e=>at1 N (y63 N l n q81 qb1 e)) e
theorem ks9 (N:Nat)(l:List q36)(e_ n q81 qb1:Int)(e:Unit):jmp N (xf7 N ) ((xb2 l e_ n q81 qb1) e) ((xj1 l e_ n q81 qb1) e)=at1 N (j23 N l e_ n q81 qb1 e):=qn4 (by
 have h:(xf7 N ) ((xb2 l e_ n q81 qb1) e) ((xj1 l e_ n q81 qb1) e)=yl9 N l e_ n q81 qb1 (fun l n q81 qb1 e=>jmp N (u16 N ) (vv7 l n q81 qb1 e) (vw0 l n q81 qb1 e)) e:=by kernel_rfl
 rw [h]
 simp only [j23,ks7] <;> rfl) N
def v59 (N:Nat)(s:List UInt8)(l1:(List q36)→Int→Int→Int→Int→Unit→Option ((List q23)×qi7×Int×Unit)):Option ((List q23)×qi7×Int×Unit) :=
 (jy1 N s).bind fun r =>
 bif (r.2.2.1 != 0) then
  some ([],r.2.1,r.2.2.1,())
 else
  (yy0 N r.1 0).bind fun r1 =>
  bif (r1.2.2.1 == 0) then
   bif (r1.2.1 == (r.1.length:Int)) then
    some (r1.1,(0,0,()),0,())
   else
    l1 r.1 r1.2.2.1 r1.2.1 r.2.1.1 r.2.1.2.1 ()
  else
   l1 r.1 r1.2.2.1 r1.2.1 r.2.1.1 r.2.1.2.1 ()
def z45 (N:Nat)(s:List UInt8):Option ((List q23)×qi7×Int×Unit):=v59 N s (fun l e_ n q81 qb1 e=>at1 N (j23 N l e_ n q81 qb1 e))
noncomputable def ut2 (N:Nat)(s:List UInt8):Option (RT [(.list q79),w74,(.int .i64)]):=q22 DR Tryz.prog N (vg7 N) j07 Tryz.f11 (q10 Tryz.f11) (RT [(.list q79),w74,(.int .i64)]) (qd2 [.str] (s,())) [] (q40 [(.list q79),w74,(.int .i64)])
theorem kb2 (N:Nat)(s:List UInt8):ut2 N s=z45 N s:=by
 have h:ut2 N s=v59 N s (fun l e_ n q81 qb1 e=>jmp N (xf7 N ) (xb2 l e_ n q81 qb1 e) (xj1 l e_ n q81 qb1 e)):=by kernel_rfl
 rw [h]
 simp only [z45,ks9] <;> rfl
def uk6 (m:(List UInt8)→Option ((List q23)×qi7×Int×Unit)):Ent:=q35 [.str] [(.list q79),w74,(.int .i64)] fun (x:Els [.str])=>m x.1
def yq4 (N:Nat):Ent:=uk6 (z45 N)
theorem yt9 (N:Nat):q16 Tryz.prog 11 (yq4 N):=q15 (kv6 N) Tryz.func11 rfl (by kernel_rfl) fun (x:Els [.str])=>kb2 N x.1
def k27 :FH:=⟨[],[],[],[],false,[],[]⟩
noncomputable def vl2 (N:Nat):q48:=tab [(180,ji6 N),(181,ji2 N)]
theorem um8 (N:Nat):q13 Tryz.prog (vl2 N):=q06 (x09 N) <| q06 (yw2 N) <| q27 _
def w08 (N:Nat)(v:q00):Option Bool :=
 bif (v.1 == 0) then
  some ((v.1 == (0:Int)) && ((v.2.1 == (0:Int)) && ((v.2.2.1 == ([]:List UInt8)) && true)))
 else
  bif (v.1 == 1) then
   some (v.2.2.1 == ([]:List UInt8))
  else
   bif (v.1 == 2) then
    some (v.2.2.1 == ([]:List UInt8))
   else
    bif (v.1 == 3) then
     bif (v.2.1 == 0) then
      (wt5 N v.2.2.1).bind fun r =>
      some r
     else
      some false
    else
     bif (v.1 == 4) then
      bif (v.2.2.1 == ([]:List UInt8)) then
       bif (v.2.1 == 0) then
        some true
       else
        some (v.2.1 == 1)
      else
       some false
     else
      bif (v.1 == 5) then
       bif (v.2.1 == 0) then
        (wu2 N v.2.2.1).bind fun r1 =>
        some r1
       else
        some false
      else
       some false
noncomputable def k32 (N:Nat)(v:q00):Option (RT [.bool]):=q22 DR Tryz.prog N (vl2 N) k27 Tryz.f120 (q10 Tryz.f120) (RT [.bool]) (qd2 [q05] (v,())) [] (q40 [.bool])
theorem ue5 (N:Nat)(v:q00):k32 N v=w08 N v:=by kernel_rfl
def vt1 (m:q00→Option Bool):Ent:=q35 [q05] [.bool] fun (x:Els [q05])=>m x.1
def yv4 (N:Nat):Ent:=vt1 (w08 N)
theorem v24 (N:Nat):q16 Tryz.prog 120 (yv4 N):=q15 (um8 N) Tryz.func120 rfl (by kernel_rfl) fun (x:Els [q05])=>ue5 N x.1
def k36 :FH:=⟨[],[],[],[],false,[],[]⟩
noncomputable def vk9 (N:Nat):q48:=tab []
theorem uy0 (N:Nat):q13 Tryz.prog (vk9 N):=q27 _
def qd7 (N:Nat)(e_:Int):Option q03 :=
 some ((0,0,[],()),e_,())
noncomputable def k57 (N:Nat)(e_:Int):Option (RT [q07]):=q22 DR Tryz.prog N (vk9 N) k36 Tryz.f76 (q10 Tryz.f76) (RT [q07]) (qd2 [(.int .i64)] (e_,())) [] (q40 [q07])
theorem ui7 (N:Nat)(e_:Int):k57 N e_=qd7 N e_:=by kernel_rfl
def vs6 (m:Int→Option q03):Ent:=q35 [(.int .i64)] [q07] fun (x:Els [(.int .i64)])=>m x.1
def q91 (N:Nat):Ent:=vs6 (qd7 N)
theorem q80 (N:Nat):q16 Tryz.prog 76 (q91 N):=q15 (uy0 N) Tryz.func76 rfl (by kernel_rfl) fun (x:Els [(.int .i64)])=>ui7 N x.1
def kf5 :FH:=⟨[],[],[],[],false,[],[]⟩
noncomputable def v41 (N:Nat):q48:=tab [(120,yv4 N),(76,q91 N)]
theorem uw6 (N:Nat):q13 Tryz.prog (v41 N):=q06 (v24 N) <| q06 (q80 N) <| q27 _
def zj1 (N:Nat)(v:q00):Option q03 :=
 (w08 N v).bind fun r =>
 bif (!r) then
  (qd7 N 2).bind fun r1 =>
  some r1
 else
  some (v,0,())
noncomputable def kb4 (N:Nat)(v:q00):Option (RT [q07]):=q22 DR Tryz.prog N (v41 N) kf5 Tryz.f75 (q10 Tryz.f75) (RT [q07]) (qd2 [q05] (v,())) [] (q40 [q07])
theorem ug5 (N:Nat)(v:q00):kb4 N v=zj1 N v:=by kernel_rfl
def vq1 (m:q00→Option q03):Ent:=q35 [q05] [q07] fun (x:Els [q05])=>m x.1
def x55 (N:Nat):Ent:=vq1 (zj1 N)
theorem v11 (N:Nat):q16 Tryz.prog 75 (x55 N):=q15 (uw6 N) Tryz.func75 rfl (by kernel_rfl) fun (x:Els [q05])=>ug5 N x.1
def xk6 :LH:=⟨[(3,.asis),(6,.asis),(23,.lst qa4),(24,.int .i64),(25,.int .i64)],[],[.cells [.int .u8,.int .u8,.int .i64,.str,.str,.lst (.int .i64),.int .i64,.int .i64],.cells [.int .u8,.int .i64,.str],.cells [.int .u8,.int .i64,.str,.int .i64]]⟩
def zn5 :FH:=⟨[xk6],[],[],[],false,[],[]⟩
noncomputable def yr5 (N:Nat):q48:=tab [(75,x55 N),(76,q91 N)]
theorem ut0 (N:Nat):q13 Tryz.prog (yr5 N):=q06 (v11 N) <| q06 (q80 N) <| q27 _
noncomputable def jy7 :Sc:=wl6 Tryz.prog zn5
noncomputable def y05 (N:Nat):Cfg:=⟨N,yr5 N,0⟩
noncomputable def u68 (N:Nat):Exit→List TV→List TOb→Option (q03×Bool×Unit):=fin Tryz.prog 0 Tryz.f36.results.toList (q40 [q07,.bool])
def jr1 (vars:List q43)(t24 jf9 q25 q60:Int)(q61 q38:List UInt8)(qb3:List Int)(q14 q17 qf4 ko1:Int)(kj5:List UInt8)(qy3 yw9:Int)(x59:List UInt8)(a_e e:Int):List TV:=match e with
 | t25=>frm 40 [(3,.ref 0 0),(6,.ref 2 0),(23,.tl qa4 vars .unk),(24,.int .i64 t24),(25,.int .i64 t25)]
def jp9 (vars:List q43)(t24 jf9 q25 q60:Int)(q61 q38:List UInt8)(qb3:List Int)(q14 q17 qf4 ko1:Int)(kj5:List UInt8)(qy3 yw9:Int)(x59:List UInt8)(a_e e:Int):List TOb:=match e with
 | t25=>[.cells [.int .u8 jf9,.int .u8 q25,.int .i64 q60,.str q61,.str q38,.tl (.int .i64) qb3 .unk,.int .i64 q14,.int .i64 q17] 54 true,.cells [.int .u8 qf4,.int .i64 ko1,.str kj5] 26 true,.cells [.int .u8 qy3,.int .i64 yw9,.str x59,.int .i64 a_e] 115 true]
noncomputable def xr0 (N:Nat):(List TV→List TOb→Option (q03×Bool×Unit))→List TV→List TOb→Option (q03×Bool×Unit):=w54 DR jy7 (y05 N) (ql6 (qc4 (q08 (q87 (ys1 (q08 (zf9 (q08 (zf9 (q08 (qc4 (q08 (q87 (q08 (q10 Tryz.f36))))))))))))))) xk6 (zn5.loops.drop 1) (qk0 1 (qc3 DR jy7 (y05 N) (q08 (ys1 (q08 (zf9 (q08 (zf9 (q08 (qc4 (q08 (q87 (q08 (q10 Tryz.f36)))))))))))) (zn5.loops.drop 1) (qk0 0 (qc3 DR jy7 (y05 N) (q08 (q08 (q10 Tryz.f36))) (zn5.loops.drop 1) (u68 N)))))
def y54 (N:Nat)(vars:List q43)(t24 jf9 q25 q60:Int)(q61 q38:List UInt8)(qb3:List Int)(q14 q17 qf4 ko1:Int)(kj5:List UInt8)(qy3 yw9:Int)(x59:List UInt8)(a_e:Int)(K0:Int→Option (q03×Bool×Unit))(e:Int):Option (q03×Bool×Unit) :=
 match e with
 | t25 =>
  bif decide (t25 < t24) then
   bif inR t25 vars.length then
   bif (((q24 vars t25 v17).1) == q38) then
    (zj1 N ((q24 vars t25 v17).2.1)).bind fun r2 =>
    some (r2,true,())
   else
    bif q26 (t25 + 1) then
    K0 (t25 + 1)
    else none
   else none
  else
   (qd7 N 11).bind fun r3 =>
   some (r3,true,())
theorem uo2 (N:Nat)(vars:List q43)(t24 jf9 q25 q60:Int)(q61 q38:List UInt8)(qb3:List Int)(q14 q17 qf4 ko1:Int)(kj5:List UInt8)(qy3 yw9:Int)(x59:List UInt8)(a_e:Int)(n_:Nat)(e:Int):q57 (xr0 N ) n_ ((jr1 vars t24 jf9 q25 q60 q61 q38 qb3 q14 q17 qf4 ko1 kj5 qy3 yw9 x59 a_e) e) ((jp9 vars t24 jf9 q25 q60 q61 q38 qb3 q14 q17 qf4 ko1 kj5 qy3 yw9 x59 a_e) e)=q86 (y54 N vars t24 jf9 q25 q60 q61 q38 qb3 q14 q17 qf4 ko1 kj5 qy3 yw9 x59 a_e ) n_ e :=
 q39 (jr1 vars t24 jf9 q25 q60 q61 q38 qb3 q14 q17 qf4 ko1 kj5 qy3 yw9 x59 a_e) (jp9 vars t24 jf9 q25 q60 q61 q38 qb3 q14 q17 qf4 ko1 kj5 qy3 yw9 x59 a_e) (by intro K e; kernel_rfl) n_ e
def j88 (N:Nat)(n:q23)(self:q00)(vars:List q43)(l1:(List q43)→Int→Int→Int→Int→(List UInt8)→(List UInt8)→(List Int)→Int→Int→Int→Int→(List UInt8)→Int→Int→(List UInt8)→Int→Int→Option (q03×Bool×Unit)):Option (q03×Bool×Unit) :=
 bif (n.1 == 1) then
  (zj1 N n.2.1).bind fun r =>
  some (r,true,())
 else
  bif (n.1 == 3) then
   (zj1 N self).bind fun r1 =>
   some (r1,true,())
  else
   bif (n.1 == 2) then
    l1 vars (vars.length:Int) n.1 n.2.1.1 n.2.1.2.1 n.2.1.2.2.1 n.2.2.1 n.2.2.2.1 n.2.2.2.2.1.1 n.2.2.2.2.1.2.1 self.1 self.2.1 self.2.2.1 0 0 [] 0 0
   else
    some (((0,0,[],()),0,()),false,())
def z07 (N:Nat)(n:q23)(self:q00)(vars:List q43):Option (q03×Bool×Unit):=j88 N n self vars (fun vars t24 jf9 q25 q60 q61 q38 qb3 q14 q17 qf4 ko1 kj5 qy3 yw9 x59 a_e e=>q86 (y54 N vars t24 jf9 q25 q60 q61 q38 qb3 q14 q17 qf4 ko1 kj5 qy3 yw9 x59 a_e) N e)
noncomputable def vb2 (N:Nat)(n:q23)(self:q00)(vars:List q43):Option (RT [q07,.bool]):=q22 DR Tryz.prog N (yr5 N) zn5 Tryz.f36 (q10 Tryz.f36) (RT [q07,.bool]) (qd2 [q79,q05,(.list qa4)] (n,self,vars,())) [] (q40 [q07,.bool])
theorem u55 (N:Nat)(n:q23)(self:q00)(vars:List q43):vb2 N n self vars=z07 N n self vars:=by
 have h:vb2 N n self vars=j88 N n self vars (fun vars t24 jf9 q25 q60 q61 q38 qb3 q14 q17 qf4 ko1 kj5 qy3 yw9 x59 a_e e=>q57 (xr0 N ) N (jr1 vars t24 jf9 q25 q60 q61 q38 qb3 q14 q17 qf4 ko1 kj5 qy3 yw9 x59 a_e e) (jp9 vars t24 jf9 q25 q60 q61 q38 qb3 q14 q17 qf4 ko1 kj5 qy3 yw9 x59 a_e e)):=by kernel_rfl
 rw [h]
 simp only [z07,uo2] <;> rfl
def vn5 (m:q23→q00→(List q43)→Option (q03×Bool×Unit)):Ent:=q35 [q79,q05,(.list qa4)] [q07,.bool] fun (x:Els [q79,q05,(.list qa4)])=>m x.1 x.2.1 x.2.2.1
def yu9 (N:Nat):Ent:=vn5 (z07 N)
theorem vi7 (N:Nat):q16 Tryz.prog 36 (yu9 N):=q15 (ut0 N) Tryz.func36 rfl (by kernel_rfl) fun (x:Els [q79,q05,(.list qa4)])=>u55 N x.1 x.2.1 x.2.2.1
def vh4 :FH:=⟨[],[],[],[],false,[],[]⟩
noncomputable def y42 (N:Nat):q48:=tab []
theorem xt6 (N:Nat):q13 Tryz.prog (y42 N):=q27 _
def q58 (N:Nat)(k:q34)(i:Int):Option q03 :=
 bif decide (i ≥ (k.1.length:Int)) then
  some ((0,0,[],()),0,())
 else
  bif inR i k.1.length then
  some (((q24 k.1 i ws5).1),(q24 k.1 i ws5).2.1,())
  else none
noncomputable def v40 (N:Nat)(k:q34)(i:Int):Option (RT [q07]):=q22 DR Tryz.prog N (y42 N) vh4 Tryz.f153 (q10 Tryz.f153) (RT [q07]) (qd2 [q65,(.int .i64)] (k,i,())) [] (q40 [q07])
theorem xd2 (N:Nat)(k:q34)(i:Int):v40 N k i=q58 N k i:=by kernel_rfl
def yz5 (m:q34→Int→Option q03):Ent:=q35 [q65,(.int .i64)] [q07] fun (x:Els [q65,(.int .i64)])=>m x.1 x.2.1
def q52 (N:Nat):Ent:=yz5 (q58 N)
theorem q49 (N:Nat):q16 Tryz.prog 153 (q52 N):=q15 (xt6 N) Tryz.func153 rfl (by kernel_rfl) fun (x:Els [q65,(.int .i64)])=>xd2 N x.1 x.2.1
def x73 :FH:=⟨[],[],[],[],false,[],[]⟩
noncomputable def zx2 (N:Nat):q48:=tab [(153,q52 N),(76,q91 N)]
theorem x21 (N:Nat):q13 Tryz.prog (zx2 N):=q06 (q49 N) <| q06 (q80 N) <| q27 _
def q82 (N:Nat)(k:q34)(i:Int):Option q03 :=
 (q58 N k i).bind fun r =>
 bif (r.2.1 == 0) then
  bif (r.1.1 != 4) then
   bif (r.1.1 != 0) then
    (qd7 N 8).bind fun r1 =>
    some r1
   else
    some r
  else
   some r
 else
  some r
noncomputable def xh7 (N:Nat)(k:q34)(i:Int):Option (RT [q07]):=q22 DR Tryz.prog N (zx2 N) x73 Tryz.f80 (q10 Tryz.f80) (RT [q07]) (qd2 [q65,(.int .i64)] (k,i,())) [] (q40 [q07])
theorem yj1 (N:Nat)(k:q34)(i:Int):xh7 N k i=q82 N k i:=by kernel_rfl
def ye2 (m:q34→Int→Option q03):Ent:=q35 [q65,(.int .i64)] [q07] fun (x:Els [q65,(.int .i64)])=>m x.1 x.2.1
def ql0 (N:Nat):Ent:=ye2 (q82 N)
theorem qn3 (N:Nat):q16 Tryz.prog 80 (ql0 N):=q15 (x21 N) Tryz.func80 rfl (by kernel_rfl) fun (x:Els [q65,(.int .i64)])=>yj1 N x.1 x.2.1
def ug8 :FH:=⟨[],[],[],[],false,[],[]⟩
noncomputable def x19 (N:Nat):q48:=tab []
theorem vq2 (N:Nat):q13 Tryz.prog (x19 N):=q27 _
def q94 (N:Nat)(is_:Bool):Option q00 :=
 bif is_ then
  some (4,1,[],())
 else
  some (4,0,[],())
noncomputable def ui0 (N:Nat)(is_:Bool):Option (RT [q05]):=q22 DR Tryz.prog N (x19 N) ug8 Tryz.f90 (q10 Tryz.f90) (RT [q05]) (qd2 [.bool] (is_,())) [] (q40 [q05])
theorem vf2 (N:Nat)(is_:Bool):ui0 N is_=q94 N is_:=by kernel_rfl
def xv6 (m:Bool→Option q00):Ent:=q35 [.bool] [q05] fun (x:Els [.bool])=>m x.1
def qc8 (N:Nat):Ent:=xv6 (q94 N)
theorem qb9 (N:Nat):q16 Tryz.prog 90 (qc8 N):=q15 (vq2 N) Tryz.func90 rfl (by kernel_rfl) fun (x:Els [.bool])=>vf2 N x.1
def xk7 :LH:=⟨[(2,.asis),(3,.asis),(7,.lst q05),(8,.int .i64),(9,.int .i64)],[],[.cells [.int .u8,.int .i64,.str],.cells [.int .u8,.int .i64,.str]]⟩
def jg3 :FH:=⟨[xk7],[],[(5,⟨2,25,0,[],[]⟩)],[],false,[],[]⟩
noncomputable def yi7 (N:Nat):q48:=tab [(90,qc8 N)]
theorem uj7 (N:Nat):q13 Tryz.prog (yi7 N):=q06 (qb9 N) <| q27 _
noncomputable def xl1 :Sc:=wl6 Tryz.prog jg3
noncomputable def xl0 (N:Nat):Cfg:=⟨N,yi7 N,0⟩
noncomputable def ub0 (N:Nat):Exit→List TV→List TOb→Option q00:=fin Tryz.prog 0 Tryz.f78.results.toList (q40 [q05])
def jw8 (l:List q00)(t8 qd8 x60:Int)(yu1:List UInt8)(e:Int×Int×Int×List UInt8):List TV:=match e with
 | (t9,out_Kind,out_N,out_S)=>frm 25 [(2,.ref 0 0),(3,.ref 1 0),(7,.tl q05 l .unk),(8,.int .i64 t8),(9,.int .i64 t9)]
def jv9 (l:List q00)(t8 qd8 x60:Int)(yu1:List UInt8)(e:Int×Int×Int×List UInt8):List TOb:=match e with
 | (t9,out_Kind,out_N,out_S)=>[.cells [.int .u8 qd8,.int .i64 x60,.str yu1] 26 true,.cells [.int .u8 out_Kind,.int .i64 out_N,.str out_S] 26 true]
noncomputable def xq4 (N:Nat):(List TV→List TOb→Option q00)→List TV→List TOb→Option q00:=w54 DR xl1 (xl0 N) (ql6 (qc4 (q08 (q87 (q08 (q08 (q10 Tryz.f78))))))) xk7 (jg3.loops.drop 1) (qk0 0 (qc3 DR xl1 (xl0 N) (q08 (q08 (q08 (q10 Tryz.f78)))) (jg3.loops.drop 1) (ub0 N)))
def wy1 (N:Nat)(l:List q00)(t8 qd8 x60:Int)(yu1:List UInt8)(K0:(Int×Int×Int×List UInt8)→Option q00)(e:Int×Int×Int×List UInt8):Option q00 :=
 match e with
 | (t9,out_Kind,out_N,out_S) =>
  bif decide (t9 < t8) then
   bif inR t9 l.length then
   (q94 N false).bind fun r1 =>
   bif ((((q24 l t9 q29).1) == r1.1) && ((((q24 l t9 q29).2.1) == r1.2.1) && ((((q24 l t9 q29).2.2.1) == r1.2.2.1) && true))) then
    some (q24 l t9 q29)
   else
    bif (((q24 l t9 q29).1) != 4) then
     bif q26 (t9 + 1) then
     K0 (t9 + 1,0,0,[])
     else none
    else
     bif q26 (t9 + 1) then
     K0 (t9 + 1,out_Kind,out_N,out_S)
     else none
   else none
  else
   some (out_Kind,out_N,out_S,())
theorem un3 (N:Nat)(l:List q00)(t8 qd8 x60:Int)(yu1:List UInt8)(n_:Nat)(e:Int×Int×Int×List UInt8):q57 (xq4 N ) n_ ((jw8 l t8 qd8 x60 yu1) e) ((jv9 l t8 qd8 x60 yu1) e)=q86 (wy1 N l t8 qd8 x60 yu1 ) n_ e :=
 q39 (jw8 l t8 qd8 x60 yu1) (jv9 l t8 qd8 x60 yu1) (by intro K e; obtain ⟨t9,out_Kind,out_N,out_S⟩:=e; kernel_rfl) n_ e
def yo5 (N:Nat)(l:List q00)(l1:(List q00)→Int→Int→Int→(List UInt8)→(Int×Int×Int×List UInt8)→Option q00):Option q00 :=
 (q94 N true).bind fun r =>
 l1 l (l.length:Int) 0 0 [] (0,r.1,r.2.1,r.2.2.1)
def wj8 (N:Nat)(l:List q00):Option q00:=yo5 N l (fun l t8 qd8 x60 yu1 e=>q86 (wy1 N l t8 qd8 x60 yu1) N e)
noncomputable def ve8 (N:Nat)(l:List q00):Option (RT [q05]):=q22 DR Tryz.prog N (yi7 N) jg3 Tryz.f78 (q10 Tryz.f78) (RT [q05]) (qd2 [(.list q05)] (l,())) [] (q40 [q05])
theorem ud4 (N:Nat)(l:List q00):ve8 N l=wj8 N l:=by
 have h:ve8 N l=yo5 N l (fun l t8 qd8 x60 yu1 e=>q57 (xq4 N ) N (jw8 l t8 qd8 x60 yu1 e) (jv9 l t8 qd8 x60 yu1 e)):=by kernel_rfl
 rw [h]
 simp only [wj8,un3] <;> rfl
def vv1 (m:(List q00)→Option q00):Ent:=q35 [(.list q05)] [q05] fun (x:Els [(.list q05)])=>m x.1
def je6 (N:Nat):Ent:=vv1 (wj8 N)
theorem y55 (N:Nat):q16 Tryz.prog 78 (je6 N):=q15 (uj7 N) Tryz.func78 rfl (by kernel_rfl) fun (x:Els [(.list q05)])=>ud4 N x.1
def xt5 :FH:=⟨[],[],[],[],false,[],[]⟩
noncomputable def ji9 (N:Nat):q48:=tab [(80,ql0 N),(78,je6 N)]
theorem x67 (N:Nat):q13 Tryz.prog (ji9 N):=q06 (qn3 N) <| q06 (y55 N) <| q27 _
def wa7 (N:Nat)(k:q34)(ends:Int):Option q03 :=
 (q82 N k 0).bind fun r =>
 bif (r.2.1 != 0) then
  some r
 else
  bif (r.1.1 == 4) then
   bif (r.1.2.1 == ends) then
    some r
   else
    (q82 N k 1).bind fun r1 =>
    bif (r1.2.1 != 0) then
     some r1
    else
     (wj8 N ([r.1,r1.1]:List q00)).bind fun r2 =>
     some (r2,0,())
  else
   (q82 N k 1).bind fun r3 =>
   bif (r3.2.1 != 0) then
    some r3
   else
    (wj8 N ([r.1,r3.1]:List q00)).bind fun r4 =>
    some (r4,0,())
abbrev zy5 :List PK:=[.val q65,.val (.int .i64),.fn 78 0]
noncomputable def xv3 (N:Nat)(k:q34)(ends:Int):Option (RT [q07]):=q22 DR Tryz.prog N (ji9 N) xt5 Tryz.f77 (q10 Tryz.f77) (RT [q07]) (qx9 zy5 (k,ends,())) [] (q40 [q07])
theorem x46 (N:Nat)(k:q34)(ends:Int):xv3 N k ends=wa7 N k ends:=by kernel_rfl
def yn4 (m:q34→Int→Option q03):Ent:=qf1 zy5 [q07] fun (x:Els [q65,(.int .i64)])=>m x.1 x.2.1
def zp6 (N:Nat):Ent:=yn4 (wa7 N)
theorem yb6 (N:Nat):q16 Tryz.prog 77 (zp6 N):=q51 (x67 N) Tryz.func77 rfl (by kernel_rfl) (by kernel_rfl) fun (x:Els [q65,(.int .i64)])=>x46 N x.1 x.2.1
def ke1 :FH:=⟨[],[],[],[],false,[],[]⟩
noncomputable def v88 (N:Nat):q48:=tab [(90,qc8 N)]
theorem uz5 (N:Nat):q13 Tryz.prog (v88 N):=q06 (qb9 N) <| q27 _
def zm1 (N:Nat)(a:q00):Option q00 :=
 bif (a.1 != 4) then
  some (0,0,[],())
 else
  (q94 N (a.2.1 == 0)).bind fun r =>
  some r
noncomputable def k55 (N:Nat)(a:q00):Option (RT [q05]):=q22 DR Tryz.prog N (v88 N) ke1 Tryz.f81 (q10 Tryz.f81) (RT [q05]) (qd2 [q05] (a,())) [] (q40 [q05])
theorem uc5 (N:Nat)(a:q00):k55 N a=zm1 N a:=by kernel_rfl
def vt4 (m:q00→Option q00):Ent:=q35 [q05] [q05] fun (x:Els [q05])=>m x.1
def jc1 (N:Nat):Ent:=vt4 (zm1 N)
theorem jv0 (N:Nat):q16 Tryz.prog 81 (jc1 N):=q15 (uz5 N) Tryz.func81 rfl (by kernel_rfl) fun (x:Els [q05])=>uc5 N x.1
def xm7 :LH:=⟨[(2,.asis),(3,.own q05 503 26 3),(6,.lst q05),(7,.int .i64),(8,.int .i64)],[],[.cells [.int .u8,.int .i64,.str]]⟩
def jf7 :FH:=⟨[xm7],[],[],[],false,[],[]⟩
noncomputable def yl1 (N:Nat):q48:=tab [(81,jc1 N),(78,je6 N)]
theorem uz2 (N:Nat):q13 Tryz.prog (yl1 N):=q06 (jv0 N) <| q06 (y55 N) <| q27 _
noncomputable def xl3 :Sc:=wl6 Tryz.prog jf7
noncomputable def xp2 (N:Nat):Cfg:=⟨N,yl1 N,0⟩
noncomputable def uf3 (N:Nat):Exit→List TV→List TOb→Option q00:=fin Tryz.prog 0 Tryz.f79.results.toList (q40 [q05])
def jt6 (l:List q00)(t7 qd8 x60:Int)(yu1:List UInt8)(e:List q00×Int):List TV:=match e with
 | (others,t8)=>frm 21 [(2,.ref 0 0),(3,.tl q05 others (.own 503 26 3)),(6,.tl q05 l .unk),(7,.int .i64 t7),(8,.int .i64 t8)]
def jp6 (l:List q00)(t7 qd8 x60:Int)(yu1:List UInt8)(e:List q00×Int):List TOb:=match e with
 | (others,t8)=>[.cells [.int .u8 qd8,.int .i64 x60,.str yu1] 26 true]
noncomputable def xr6 (N:Nat):(List TV→List TOb→Option q00)→List TV→List TOb→Option q00:=w54 DR xl3 (xp2 N) (ql6 (qc4 (q08 (q87 (q08 (q08 (q10 Tryz.f79))))))) xm7 (jf7.loops.drop 1) (qk0 0 (qc3 DR xl3 (xp2 N) (q08 (q08 (q08 (q10 Tryz.f79)))) (jf7.loops.drop 1) (uf3 N)))
def z02 (N:Nat)(l:List q00)(t7 qd8 x60:Int)(yu1:List UInt8)(K0:(List q00×Int)→Option q00)(e:List q00×Int):Option q00 :=
 match e with
 | (others,t8) =>
  bif decide (t8 < t7) then
   bif inR t8 l.length then
   (zm1 N (q24 l t8 q29)).bind fun r =>
   bif w23 (others.length + ([r]:List q00).length) 4398046511104 then
   bif q26 (t8 + 1) then
   K0 ((others ++ ([r]:List q00)),t8 + 1)
   else none
   else none
   else none
  else
   (wj8 N others).bind fun r1 =>
   (zm1 N r1).bind fun r2 =>
   some r2
theorem un8 (N:Nat)(l:List q00)(t7 qd8 x60:Int)(yu1:List UInt8)(n_:Nat)(e:List q00×Int):q57 (xr6 N ) n_ ((jt6 l t7 qd8 x60 yu1) e) ((jp6 l t7 qd8 x60 yu1) e)=q86 (z02 N l t7 qd8 x60 yu1 ) n_ e :=
 q39 (jt6 l t7 qd8 x60 yu1) (jp6 l t7 qd8 x60 yu1) (by intro K e; obtain ⟨others,t8⟩:=e; kernel_rfl) n_ e
def yl4 (N:Nat)(l:List q00)(l1:(List q00)→Int→Int→Int→(List UInt8)→(List q00×Int)→Option q00):Option q00 :=
 l1 l (l.length:Int) 0 0 [] ([],0)
def wt7 (N:Nat)(l:List q00):Option q00:=yl4 N l (fun l t7 qd8 x60 yu1 e=>q86 (z02 N l t7 qd8 x60 yu1) N e)
noncomputable def vb5 (N:Nat)(l:List q00):Option (RT [q05]):=q22 DR Tryz.prog N (yl1 N) jf7 Tryz.f79 (q10 Tryz.f79) (RT [q05]) (qd2 [(.list q05)] (l,())) [] (q40 [q05])
theorem uf4 (N:Nat)(l:List q00):vb5 N l=wt7 N l:=by
 have h:vb5 N l=yl4 N l (fun l t7 qd8 x60 yu1 e=>q57 (xr6 N ) N (jt6 l t7 qd8 x60 yu1 e) (jp6 l t7 qd8 x60 yu1 e)):=by kernel_rfl
 rw [h]
 simp only [wt7,un8] <;> rfl
def vt8 (m:(List q00)→Option q00):Ent:=q35 [(.list q05)] [q05] fun (x:Els [(.list q05)])=>m x.1
def yw4 (N:Nat):Ent:=vt8 (wt7 N)
theorem ve2 (N:Nat):q16 Tryz.prog 79 (yw4 N):=q15 (uz2 N) Tryz.func79 rfl (by kernel_rfl) fun (x:Els [(.list q05)])=>uf4 N x.1
def yr7 :FH:=⟨[],[],[],[],false,[],[]⟩
noncomputable def zm7 (N:Nat):q48:=tab [(80,ql0 N),(79,yw4 N)]
theorem yd0 (N:Nat):q13 Tryz.prog (zm7 N):=q06 (qn3 N) <| q06 (ve2 N) <| q27 _
def qr4 (N:Nat)(k:q34)(ends:Int):Option q03 :=
 (q82 N k 0).bind fun r =>
 bif (r.2.1 != 0) then
  some r
 else
  bif (r.1.1 == 4) then
   bif (r.1.2.1 == ends) then
    some r
   else
    (q82 N k 1).bind fun r1 =>
    bif (r1.2.1 != 0) then
     some r1
    else
     (wt7 N ([r.1,r1.1]:List q00)).bind fun r2 =>
     some (r2,0,())
  else
   (q82 N k 1).bind fun r3 =>
   bif (r3.2.1 != 0) then
    some r3
   else
    (wt7 N ([r.1,r3.1]:List q00)).bind fun r4 =>
    some (r4,0,())
abbrev z79 :List PK:=[.val q65,.val (.int .i64),.fn 79 0]
noncomputable def yi3 (N:Nat)(k:q34)(ends:Int):Option (RT [q07]):=q22 DR Tryz.prog N (zm7 N) yr7 Tryz.f77 (q10 Tryz.f77) (RT [q07]) (qx9 z79 (k,ends,())) [] (q40 [q07])
theorem jt5 (N:Nat)(k:q34)(ends:Int):yi3 N k ends=qr4 N k ends:=by kernel_rfl
def jm2 (m:q34→Int→Option q03):Ent:=qf1 z79 [q07] fun (x:Els [q65,(.int .i64)])=>m x.1 x.2.1
def z20 (N:Nat):Ent:=jm2 (qr4 N)
theorem jc6 (N:Nat):q16 Tryz.prog 77 (z20 N):=q51 (yd0 N) Tryz.func77 rfl (by kernel_rfl) (by kernel_rfl) fun (x:Els [q65,(.int .i64)])=>jt5 N x.1 x.2.1
def xu7 :FH:=⟨[],[],[],[],false,[],[]⟩
noncomputable def jh7 (N:Nat):q48:=tab []
theorem xb5 (N:Nat):q13 Tryz.prog (jh7 N):=q27 _
def q71 (N:Nat)(v:q00):Option Bool :=
 bif (v.1 == 1) then
  some true
 else
  some (v.1 == 2)
noncomputable def xv5 (N:Nat)(v:q00):Option (RT [.bool]):=q22 DR Tryz.prog N (jh7 N) xu7 Tryz.f211 (q10 Tryz.f211) (RT [.bool]) (qd2 [q05] (v,())) [] (q40 [.bool])
theorem ys4 (N:Nat)(v:q00):xv5 N v=q71 N v:=by kernel_rfl
def yo7 (m:q00→Option Bool):Ent:=q35 [q05] [.bool] fun (x:Els [q05])=>m x.1
def wi4 (N:Nat):Ent:=yo7 (q71 N)
theorem z94 (N:Nat):q16 Tryz.prog 211 (wi4 N):=q15 (xb5 N) Tryz.func211 rfl (by kernel_rfl) fun (x:Els [q05])=>ys4 N x.1
def ut4 :FH:=⟨[],[],[],[],false,[],[]⟩
noncomputable def xn2 (N:Nat):q48:=tab []
theorem u92 (N:Nat):q13 Tryz.prog (xn2 N):=q27 _
def qx5 (N:Nat)(x y:Int):Option (Int×Int×Unit) :=
 some ((IntKind.u64.wrap ((IntKind.u64.wrap ((IntKind.u64.wrap ((qm4 .u64 x (32:Int)) * (qm4 .u64 y (32:Int)))) + (qm4 .u64 (IntKind.u64.wrap ((IntKind.u64.wrap ((qm4 .u64 x (32:Int)) * (z32 .and .u64 y 4294967295))) + (qm4 .u64 (IntKind.u64.wrap ((z32 .and .u64 x 4294967295) * (z32 .and .u64 y 4294967295))) (32:Int)))) (32:Int)))) + (qm4 .u64 (IntKind.u64.wrap ((z32 .and .u64 (IntKind.u64.wrap ((IntKind.u64.wrap ((qm4 .u64 x (32:Int)) * (z32 .and .u64 y 4294967295))) + (qm4 .u64 (IntKind.u64.wrap ((z32 .and .u64 x 4294967295) * (z32 .and .u64 y 4294967295))) (32:Int)))) 4294967295) + (IntKind.u64.wrap ((z32 .and .u64 x 4294967295) * (qm4 .u64 y (32:Int)))))) (32:Int)))),(IntKind.u64.wrap (x * y)),())
noncomputable def k03 (N:Nat)(x y:Int):Option (RT [(.int .u64),(.int .u64)]):=q22 DR Tryz.prog N (xn2 N) ut4 Tryz.f219 (q10 Tryz.f219) (RT [(.int .u64),(.int .u64)]) (qd2 [(.int .u64),(.int .u64)] (x,y,())) [] (q40 [(.int .u64),(.int .u64)])
theorem vp8 (N:Nat)(x y:Int):k03 N x y=qx5 N x y:=by kernel_rfl
def vl5 (m:Int→Int→Option (Int×Int×Unit)):Ent:=q35 [(.int .u64),(.int .u64)] [(.int .u64),(.int .u64)] fun (x:Els [(.int .u64),(.int .u64)])=>m x.1 x.2.1
def ws1 (N:Nat):Ent:=vl5 (qx5 N)
theorem z46 (N:Nat):q16 Tryz.prog 219 (ws1 N):=q15 (u92 N) Tryz.func219 rfl (by kernel_rfl) fun (x:Els [(.int .u64),(.int .u64)])=>vp8 N x.1 x.2.1
def ue4 :FH:=⟨[],[],[],[],false,[],[]⟩
noncomputable def yz9 (N:Nat):q48:=tab [(219,ws1 N)]
theorem vp9 (N:Nat):q13 Tryz.prog (yz9 N):=q06 (z46 N) <| q27 _
def wo7 (N:Nat)(v:q00):Option (Bool×Int×Int×Unit) :=
 bif decide (v.2.1 < 0) then
  bif (v.1 == 1) then
   (qx5 N (IntKind.u64.wrap (0 - (IntKind.u64.wrap v.2.1))) 10000).bind fun r =>
   some (decide (v.2.1 < 0),r.1,r.2.1,())
  else
   (qx5 N (IntKind.u64.wrap (0 - (IntKind.u64.wrap v.2.1))) 1).bind fun r1 =>
   some (decide (v.2.1 < 0),r1.1,r1.2.1,())
 else
  bif (v.1 == 1) then
   (qx5 N (IntKind.u64.wrap v.2.1) 10000).bind fun r2 =>
   some (decide (v.2.1 < 0),r2.1,r2.2.1,())
  else
   (qx5 N (IntKind.u64.wrap v.2.1) 1).bind fun r3 =>
   some (decide (v.2.1 < 0),r3.1,r3.2.1,())
noncomputable def u34 (N:Nat)(v:q00):Option (RT [.bool,(.int .u64),(.int .u64)]):=q22 DR Tryz.prog N (yz9 N) ue4 Tryz.f212 (q10 Tryz.f212) (RT [.bool,(.int .u64),(.int .u64)]) (qd2 [q05] (v,())) [] (q40 [.bool,(.int .u64),(.int .u64)])
theorem v66 (N:Nat)(v:q00):u34 N v=wo7 N v:=by kernel_rfl
def xs5 (m:q00→Option (Bool×Int×Int×Unit)):Ent:=q35 [q05] [.bool,(.int .u64),(.int .u64)] fun (x:Els [q05])=>m x.1
def jt1 (N:Nat):Ent:=xs5 (wo7 N)
theorem xc5 (N:Nat):q16 Tryz.prog 212 (jt1 N):=q15 (vp9 N) Tryz.func212 rfl (by kernel_rfl) fun (x:Els [q05])=>v66 N x.1
def x28 :FH:=⟨[],[],[],[],false,[],[]⟩
noncomputable def zp4 (N:Nat):q48:=tab []
theorem yp7 (N:Nat):q13 Tryz.prog (zp4 N):=q27 _
def qw3 (N:Nat)(x:Int):Option Bool :=
 some (x != x)
noncomputable def x57 (N:Nat)(x:Int):Option (RT [.bool]):=q22 DR Tryz.prog N (zp4 N) x28 Tryz.f250 (q10 Tryz.f250) (RT [.bool]) (qd2 [(.int .u64)] (x,())) [] (q40 [.bool])
theorem y97 (N:Nat)(x:Int):x57 N x=qw3 N x:=by kernel_rfl
def jv6 (m:Int→Option Bool):Ent:=q35 [(.int .u64)] [.bool] fun (x:Els [(.int .u64)])=>m x.1
def zc1 (N:Nat):Ent:=jv6 (qw3 N)
theorem jm8 (N:Nat):q16 Tryz.prog 250 (zc1 N):=q15 (yp7 N) Tryz.func250 rfl (by kernel_rfl) fun (x:Els [(.int .u64)])=>y97 N x.1
def y89 :FH:=⟨[],[],[],[],false,[],[]⟩
noncomputable def zc2 (N:Nat):q48:=tab [(250,zc1 N)]
theorem jt7 (N:Nat):q13 Tryz.prog (zc2 N):=q06 (jm8 N) <| q27 _
def qh6 (N:Nat)(x y:Int):Option Int :=
 (qw3 N x).bind fun r =>
 (qw3 N y).bind fun r1 =>
 bif r then
  bif r1 then
   some 0
  else
   some (-1)
 else
  bif r1 then
   some 1
  else
   bif decide (x < y) then
    some (-1)
   else
    bif decide (x > y) then
     some 1
    else
     some 0
noncomputable def yb3 (N:Nat)(x y:Int):Option (RT [(.int .i64)]):=q22 DR Tryz.prog N (zc2 N) y89 Tryz.f214 (q10 Tryz.f214) (RT [(.int .i64)]) (qd2 [(.int .u64),(.int .u64)] (x,y,())) [] (q40 [(.int .i64)])
theorem jj3 (N:Nat)(x y:Int):yb3 N x y=qh6 N x y:=by kernel_rfl
def j95 (m:Int→Int→Option Int):Ent:=q35 [(.int .u64),(.int .u64)] [(.int .i64)] fun (x:Els [(.int .u64),(.int .u64)])=>m x.1 x.2.1
def wl9 (N:Nat):Ent:=j95 (qh6 N)
theorem zx9 (N:Nat):q16 Tryz.prog 214 (wl9 N):=q15 (jt7 N) Tryz.func214 rfl (by kernel_rfl) fun (x:Els [(.int .u64),(.int .u64)])=>jj3 N x.1 x.2.1
def yz8 :LH:=⟨[(3,.int .i64),(6,.lst (.int .i64)),(7,.int .i64),(8,.int .i64)],[],[]⟩
def zq7 :FH:=⟨[yz8],[],[],[],false,[],[]⟩
noncomputable def jp0 (N:Nat):q48:=tab []
theorem u71 (N:Nat):q13 Tryz.prog (jp0 N):=q27 _
noncomputable def yv8 :Sc:=wl6 Tryz.prog zq7
noncomputable def ys7 (N:Nat):Cfg:=⟨N,jp0 N,0⟩
noncomputable def vq9 (N:Nat):Exit→List TV→List TOb→Option Int:=fin Tryz.prog 0 Tryz.f213.results.toList (q40 [(.int .i64)])
def j70 (zero:Int)(vals:List Int)(t7 e:Int):List TV:=match e with
 | t8=>frm 18 [(3,.int .i64 zero),(6,.tl (.int .i64) vals .unk),(7,.int .i64 t7),(8,.int .i64 t8)]
def je2 (zero:Int)(vals:List Int)(t7 e:Int):List TOb:=match e with
 | t8=>[]
noncomputable def ys8 (N:Nat):(List TV→List TOb→Option Int)→List TV→List TOb→Option Int:=w54 DR yv8 (ys7 N) (ql6 (qc4 (q08 (q87 (q08 (q08 (q10 Tryz.f213))))))) yz8 (zq7.loops.drop 1) (qk0 0 (qc3 DR yv8 (ys7 N) (q08 (q08 (q08 (q10 Tryz.f213)))) (zq7.loops.drop 1) (vq9 N)))
def qu5 (N:Nat)(zero:Int)(vals:List Int)(t7:Int)(K0:Int→Option Int)(e:Int):Option Int :=
 match e with
 | t8 =>
  bif decide (t8 < t7) then
   bif inR t8 vals.length then
   bif ((q24 vals t8 0) != zero) then
    some (q24 vals t8 0)
   else
    bif q26 (t8 + 1) then
    K0 (t8 + 1)
    else none
   else none
  else
   some zero
theorem u78 (N:Nat)(zero:Int)(vals:List Int)(t7:Int)(n_:Nat)(e:Int):q57 (ys8 N ) n_ ((j70 zero vals t7) e) ((je2 zero vals t7) e)=q86 (qu5 N zero vals t7 ) n_ e :=
 q39 (j70 zero vals t7) (je2 zero vals t7) (by intro K e; kernel_rfl) n_ e
def zr9 (N:Nat)(vals:List Int)(l1:Int→(List Int)→Int→Int→Option Int):Option Int :=
 l1 0 vals (vals.length:Int) 0
def w25 (N:Nat)(vals:List Int):Option Int:=zr9 N vals (fun zero vals t7 e=>q86 (qu5 N zero vals t7) N e)
noncomputable def xm9 (N:Nat)(vals:List Int):Option (RT [(.int .i64)]):=q22 DR Tryz.prog N (jp0 N) zq7 Tryz.f213 (q10 Tryz.f213) (RT [(.int .i64)]) (qd2 [(.list (.int .i64))] (vals,())) [] (q40 [(.int .i64)])
theorem vt3 (N:Nat)(vals:List Int):xm9 N vals=w25 N vals:=by
 have h:xm9 N vals=zr9 N vals (fun zero vals t7 e=>q57 (ys8 N ) N (j70 zero vals t7 e) (je2 zero vals t7 e)):=by kernel_rfl
 rw [h]
 simp only [w25,u78] <;> rfl
def v31 (m:(List Int)→Option Int):Ent:=q35 [(.list (.int .i64))] [(.int .i64)] fun (x:Els [(.list (.int .i64))])=>m x.1
def zs6 (N:Nat):Ent:=v31 (w25 N)
theorem jh5 (N:Nat):q16 Tryz.prog 213 (zs6 N):=q15 (u71 N) Tryz.func213 rfl (by kernel_rfl) fun (x:Els [(.list (.int .i64))])=>vt3 N x.1
def xd9 :FH:=⟨[],[],[],[],false,[],[]⟩
noncomputable def zw3 (N:Nat):q48:=tab []
theorem yy1 (N:Nat):q13 Tryz.prog (zw3 N):=q27 _
def w01 (N:Nat)(x:Int):Option Bool :=
 some (x != x)
noncomputable def x83 (N:Nat)(x:Int):Option (RT [.bool]):=q22 DR Tryz.prog N (zw3 N) xd9 Tryz.f279 (q10 Tryz.f279) (RT [.bool]) (qd2 [(.int .u8)] (x,())) [] (q40 [.bool])
theorem yp6 (N:Nat)(x:Int):x83 N x=w01 N x:=by kernel_rfl
def ya7 (m:Int→Option Bool):Ent:=q35 [(.int .u8)] [.bool] fun (x:Els [(.int .u8)])=>m x.1
def zl0 (N:Nat):Ent:=ya7 (w01 N)
theorem jv1 (N:Nat):q16 Tryz.prog 279 (zl0 N):=q15 (yy1 N) Tryz.func279 rfl (by kernel_rfl) fun (x:Els [(.int .u8)])=>yp6 N x.1
def yn6 :FH:=⟨[],[],[],[],false,[],[]⟩
noncomputable def zj3 (N:Nat):q48:=tab [(279,zl0 N)]
theorem yb8 (N:Nat):q13 Tryz.prog (zj3 N):=q06 (jv1 N) <| q27 _
def qs1 (N:Nat)(x y:Int):Option Int :=
 (w01 N x).bind fun r =>
 (w01 N y).bind fun r1 =>
 bif r then
  bif r1 then
   some 0
  else
   some (-1)
 else
  bif r1 then
   some 1
  else
   bif decide (x < y) then
    some (-1)
   else
    bif decide (x > y) then
     some 1
    else
     some 0
noncomputable def yk5 (N:Nat)(x y:Int):Option (RT [(.int .i64)]):=q22 DR Tryz.prog N (zj3 N) yn6 Tryz.f251 (q10 Tryz.f251) (RT [(.int .i64)]) (qd2 [(.int .u8),(.int .u8)] (x,y,())) [] (q40 [(.int .i64)])
theorem y50 (N:Nat)(x y:Int):yk5 N x y=qs1 N x y:=by kernel_rfl
def jm5 (m:Int→Int→Option Int):Ent:=q35 [(.int .u8),(.int .u8)] [(.int .i64)] fun (x:Els [(.int .u8),(.int .u8)])=>m x.1 x.2.1
def ww4 (N:Nat):Ent:=jm5 (qs1 N)
theorem j68 (N:Nat):q16 Tryz.prog 251 (ww4 N):=q15 (yb8 N) Tryz.func251 rfl (by kernel_rfl) fun (x:Els [(.int .u8),(.int .u8)])=>y50 N x.1 x.2.1
def x90 :FH:=⟨[],[],[],[],false,[],[]⟩
noncomputable def j15 (N:Nat):q48:=tab []
theorem yt8 (N:Nat):q13 Tryz.prog (j15 N):=q27 _
def w12 (N:Nat)(x:Int):Option Bool :=
 some (x != x)
noncomputable def xg5 (N:Nat)(x:Int):Option (RT [.bool]):=q22 DR Tryz.prog N (j15 N) x90 Tryz.f260 (q10 Tryz.f260) (RT [.bool]) (qd2 [(.int .i64)] (x,())) [] (q40 [.bool])
theorem yn2 (N:Nat)(x:Int):xg5 N x=w12 N x:=by kernel_rfl
def y98 (m:Int→Option Bool):Ent:=q35 [(.int .i64)] [.bool] fun (x:Els [(.int .i64)])=>m x.1
def zl7 (N:Nat):Ent:=y98 (w12 N)
theorem jx8 (N:Nat):q16 Tryz.prog 260 (zl7 N):=q15 (yt8 N) Tryz.func260 rfl (by kernel_rfl) fun (x:Els [(.int .i64)])=>yn2 N x.1
def yp2 :FH:=⟨[],[],[],[],false,[],[]⟩
noncomputable def zl2 (N:Nat):q48:=tab [(260,zl7 N)]
theorem yc1 (N:Nat):q13 Tryz.prog (zl2 N):=q06 (jx8 N) <| q27 _
def qj9 (N:Nat)(x y:Int):Option Int :=
 (w12 N x).bind fun r =>
 (w12 N y).bind fun r1 =>
 bif r then
  bif r1 then
   some 0
  else
   some (-1)
 else
  bif r1 then
   some 1
  else
   bif decide (x < y) then
    some (-1)
   else
    bif decide (x > y) then
     some 1
    else
     some 0
noncomputable def yo1 (N:Nat)(x y:Int):Option (RT [(.int .i64)]):=q22 DR Tryz.prog N (zl2 N) yp2 Tryz.f223 (q10 Tryz.f223) (RT [(.int .i64)]) (qd2 [(.int .i64),(.int .i64)] (x,y,())) [] (q40 [(.int .i64)])
theorem jx1 (N:Nat)(x y:Int):yo1 N x y=qj9 N x y:=by kernel_rfl
def jj1 (m:Int→Int→Option Int):Ent:=q35 [(.int .i64),(.int .i64)] [(.int .i64)] fun (x:Els [(.int .i64),(.int .i64)])=>m x.1 x.2.1
def w06 (N:Nat):Ent:=jj1 (qj9 N)
theorem wk7 (N:Nat):q16 Tryz.prog 223 (w06 N):=q15 (yc1 N) Tryz.func223 rfl (by kernel_rfl) fun (x:Els [(.int .i64),(.int .i64)])=>jx1 N x.1 x.2.1
def yz0 :FH:=⟨[],[],[],[],false,[],[]⟩
noncomputable def zp3 (N:Nat):q48:=tab []
theorem yr6 (N:Nat):q13 Tryz.prog (zp3 N):=q27 _
def qw6 (N:Nat)(x:List UInt8):Option Bool :=
 some (!(x == x))
noncomputable def yx7 (N:Nat)(x:List UInt8):Option (RT [.bool]):=q22 DR Tryz.prog N (zp3 N) yz0 Tryz.f280 (q10 Tryz.f280) (RT [.bool]) (qd2 [.str] (x,())) [] (q40 [.bool])
theorem yd4 (N:Nat)(x:List UInt8):yx7 N x=qw6 N x:=by kernel_rfl
def jw7 (m:(List UInt8)→Option Bool):Ent:=q35 [.str] [.bool] fun (x:Els [.str])=>m x.1
def za8 (N:Nat):Ent:=jw7 (qw6 N)
theorem jo1 (N:Nat):q16 Tryz.prog 280 (za8 N):=q15 (yr6 N) Tryz.func280 rfl (by kernel_rfl) fun (x:Els [.str])=>yd4 N x.1
def yd3 :FH:=⟨[],[],[],[],false,[],[]⟩
noncomputable def z59 (N:Nat):q48:=tab [(280,za8 N)]
theorem jq3 (N:Nat):q13 Tryz.prog (z59 N):=q06 (jo1 N) <| q27 _
def qo2 (N:Nat)(x y:List UInt8):Option Int :=
 (qw6 N x).bind fun r =>
 (qw6 N y).bind fun r1 =>
 bif r then
  bif r1 then
   some 0
  else
   some (-1)
 else
  bif r1 then
   some 1
  else
   bif (Op.bytesLess x y) then
    some (-1)
   else
    bif (!(Op.bytesLess x y || x == y)) then
     some 1
    else
     some 0
noncomputable def ya6 (N:Nat)(x y:List UInt8):Option (RT [(.int .i64)]):=q22 DR Tryz.prog N (z59 N) yd3 Tryz.f252 (q10 Tryz.f252) (RT [(.int .i64)]) (qd2 [.str,.str] (x,y,())) [] (q40 [(.int .i64)])
theorem jk3 (N:Nat)(x y:List UInt8):ya6 N x y=qo2 N x y:=by kernel_rfl
def je9 (m:(List UInt8)→(List UInt8)→Option Int):Ent:=q35 [.str,.str] [(.int .i64)] fun (x:Els [.str,.str])=>m x.1 x.2.1
def wn2 (N:Nat):Ent:=je9 (qo2 N)
theorem j47 (N:Nat):q16 Tryz.prog 252 (wn2 N):=q15 (jq3 N) Tryz.func252 rfl (by kernel_rfl) fun (x:Els [.str,.str])=>jk3 N x.1 x.2.1
def u79 :FH:=⟨[],[],[(1,⟨14,22,0,[],[]⟩)],[],false,[],[]⟩
noncomputable def yu7 (N:Nat):q48:=tab [(251,ww4 N),(223,w06 N),(252,wn2 N),(213,zs6 N)]
theorem vu7 (N:Nat):q13 Tryz.prog (yu7 N):=q06 (j68 N) <| q06 (wk7 N) <| q06 (j47 N) <| q06 (jh5 N) <| q27 _
def wp8 (N:Nat)(a b:q00):Option Int :=
 (qs1 N a.1 b.1).bind fun r =>
 (qj9 N a.2.1 b.2.1).bind fun r1 =>
 (qo2 N a.2.2.1 b.2.2.1).bind fun r2 =>
 (w25 N [r,r1,r2]).bind fun r3 =>
 some r3
noncomputable def ua9 (N:Nat)(a b:q00):Option (RT [(.int .i64)]):=q22 DR Tryz.prog N (yu7 N) u79 Tryz.f215 (q10 Tryz.f215) (RT [(.int .i64)]) (qd2 [q05,q05] (a,b,())) [] (q40 [(.int .i64)])
theorem vf4 (N:Nat)(a b:q00):ua9 N a b=wp8 N a b:=by kernel_rfl
def xu3 (m:q00→q00→Option Int):Ent:=q35 [q05,q05] [(.int .i64)] fun (x:Els [q05,q05])=>m x.1 x.2.1
def ju0 (N:Nat):Ent:=xu3 (wp8 N)
theorem x97 (N:Nat):q16 Tryz.prog 215 (ju0 N):=q15 (vu7 N) Tryz.func215 rfl (by kernel_rfl) fun (x:Els [q05,q05])=>vf4 N x.1 x.2.1
def wg8 :FH:=⟨[],[],[],[],false,[],[(12,⟨[(2,.asis),(3,.asis)],[],[.cells [.int .u8,.int .i64,.str],.cells [.int .u8,.int .i64,.str]]⟩)]⟩
noncomputable def zl9 (N:Nat):q48:=tab [(211,wi4 N),(212,jt1 N),(214,wl9 N),(213,zs6 N),(215,ju0 N)]
theorem xt3 (N:Nat):q13 Tryz.prog (zl9 N):=q06 (z94 N) <| q06 (xc5 N) <| q06 (zx9 N) <| q06 (jh5 N) <| q06 (x97 N) <| q27 _
noncomputable def z43 :Sc:=wl6 Tryz.prog wg8
noncomputable def z47 (N:Nat):Cfg:=⟨N,zl9 N,0⟩
noncomputable def xe3 (N:Nat):Exit→List TV→List TOb→Option (Int×Bool×Unit):=fin Tryz.prog 0 Tryz.f155.results.toList (q40 [(.int .i64),.bool])
def jh3 (za4 a_N:Int)(a_S:List UInt8)(zs4 b_N:Int)(b_S:List UInt8)(e:Unit):List TV:=frm 65 [(2,.ref 0 0),(3,.ref 1 0)]
def jh2 (za4 a_N:Int)(a_S:List UInt8)(zs4 b_N:Int)(b_S:List UInt8)(e:Unit):List TOb:=[.cells [.int .u8 za4,.int .i64 a_N,.str a_S] 26 true,.cells [.int .u8 zs4,.int .i64 b_N,.str b_S] 26 true]
noncomputable def jg8 (N:Nat):List TV→List TOb→Option (Int×Bool×Unit):=ys5 DR z43 (z47 N) (q87 (q87 (q08 (q08 (q10 Tryz.f155))))) (qc3 DR z43 (z47 N) (q08 (q87 (q08 (q08 (q10 Tryz.f155))))) (wg8.loops.drop 0) (qc3 DR z43 (z47 N) (q08 (q08 (q08 (q10 Tryz.f155)))) (wg8.loops.drop 0) (xe3 N)))
def wc0 (N:Nat)(za4 a_N:Int)(a_S:List UInt8)(zs4 b_N:Int)(b_S:List UInt8)(e:Unit):Option (Int×Bool×Unit) :=
 bif (za4 != zs4) then
  some (0,false,())
 else
  bif decide (za4 < 3) then
   some (0,false,())
  else
   bif decide (za4 > 5) then
    some (0,false,())
   else
    (wp8 N (za4,a_N,a_S,()) (zs4,b_N,b_S,())).bind fun r7 =>
    some (r7,true,())
theorem xu2 (N:Nat)(za4 a_N:Int)(a_S:List UInt8)(zs4 b_N:Int)(b_S:List UInt8)(e:Unit):jmp N (jg8 N ) ((jh3 za4 a_N a_S zs4 b_N b_S) e) ((jh2 za4 a_N a_S zs4 b_N b_S) e)=at1 N (wc0 N za4 a_N a_S zs4 b_N b_S e):=qn4 (by kernel_rfl) N
def zn8 (N:Nat)(a b:q00)(l1:Int→Int→(List UInt8)→Int→Int→(List UInt8)→Unit→Option (Int×Bool×Unit)):Option (Int×Bool×Unit) :=
 (q71 N a).bind fun r =>
 bif r then
  (q71 N b).bind fun r1 =>
  bif r1 then
   (wo7 N a).bind fun r2 =>
   (wo7 N b).bind fun r3 =>
   bif (!(r2.1 == r3.1)) then
    bif r2.1 then
     some ((-1),true,())
    else
     some (1,true,())
   else
    (qh6 N r2.2.1 r3.2.1).bind fun r4 =>
    (qh6 N r2.2.2.1 r3.2.2.1).bind fun r5 =>
    (w25 N [r4,r5]).bind fun r6 =>
    bif r2.1 then
     bif q26 (0 - r6) then
     some (0 - r6,true,())
     else none
    else
     some (r6,true,())
  else
   l1 a.1 a.2.1 a.2.2.1 b.1 b.2.1 b.2.2.1 ()
 else
  l1 a.1 a.2.1 a.2.2.1 b.1 b.2.1 b.2.2.1 ()
def q92 (N:Nat)(a b:q00):Option (Int×Bool×Unit):=zn8 N a b (fun za4 a_N a_S zs4 b_N b_S e=>at1 N (wc0 N za4 a_N a_S zs4 b_N b_S e))
noncomputable def y31 (N:Nat)(a b:q00):Option (RT [(.int .i64),.bool]):=q22 DR Tryz.prog N (zl9 N) wg8 Tryz.f155 (q10 Tryz.f155) (RT [(.int .i64),.bool]) (qd2 [q05,q05] (a,b,())) [] (q40 [(.int .i64),.bool])
theorem xa8 (N:Nat)(a b:q00):y31 N a b=q92 N a b:=by
 have h:y31 N a b=zn8 N a b (fun za4 a_N a_S zs4 b_N b_S e=>jmp N (jg8 N ) (jh3 za4 a_N a_S zs4 b_N b_S e) (jh2 za4 a_N a_S zs4 b_N b_S e)):=by kernel_rfl
 rw [h]
 simp only [q92,xu2] <;> rfl
def yv1 (m:q00→q00→Option (Int×Bool×Unit)):Ent:=q35 [q05,q05] [(.int .i64),.bool] fun (x:Els [q05,q05])=>m x.1 x.2.1
def qj8 (N:Nat):Ent:=yv1 (q92 N)
theorem qk8 (N:Nat):q16 Tryz.prog 155 (qj8 N):=q15 (xt3 N) Tryz.func155 rfl (by kernel_rfl) fun (x:Els [q05,q05])=>xa8 N x.1 x.2.1
def yf7 :LH:=⟨[(5,.lst q05),(6,.int .i64),(7,.int .i64)],[],[]⟩
def zf2 :FH:=⟨[yf7],[],[],[],false,[],[]⟩
noncomputable def jd1 (N:Nat):q48:=tab []
theorem vr2 (N:Nat):q13 Tryz.prog (jd1 N):=q27 _
noncomputable def yf4 :Sc:=wl6 Tryz.prog zf2
noncomputable def yf6 (N:Nat):Cfg:=⟨N,jd1 N,0⟩
noncomputable def v89 (N:Nat):Exit→List TV→List TOb→Option Bool:=fin Tryz.prog 0 Tryz.f157.results.toList (q40 [.bool])
def zv2 (l:List q00)(t6 e:Int):List TV:=match e with
 | t7=>frm 15 [(5,.tl q05 l .unk),(6,.int .i64 t6),(7,.int .i64 t7)]
def zu5 (l:List q00)(t6 e:Int):List TOb:=match e with
 | t7=>[]
noncomputable def yg1 (N:Nat):(List TV→List TOb→Option Bool)→List TV→List TOb→Option Bool:=w54 DR yf4 (yf6 N) (ql6 (qc4 (q08 (q87 (q08 (q10 Tryz.f157)))))) yf7 (zf2.loops.drop 1) (qk0 0 (qc3 DR yf4 (yf6 N) (q08 (q08 (q10 Tryz.f157))) (zf2.loops.drop 1) (v89 N)))
def zt0 (N:Nat)(l:List q00)(t6:Int)(K0:Int→Option Bool)(e:Int):Option Bool :=
 match e with
 | t7 =>
  bif decide (t7 < t6) then
   bif inR t7 l.length then
   bif (((q24 l t7 q29).1) == 0) then
    some true
   else
    bif q26 (t7 + 1) then
    K0 (t7 + 1)
    else none
   else none
  else
   some false
theorem vo9 (N:Nat)(l:List q00)(t6:Int)(n_:Nat)(e:Int):q57 (yg1 N ) n_ ((zv2 l t6) e) ((zu5 l t6) e)=q86 (zt0 N l t6 ) n_ e :=
 q39 (zv2 l t6) (zu5 l t6) (by intro K e; kernel_rfl) n_ e
def jg1 (N:Nat)(l:List q00)(l1:(List q00)→Int→Int→Option Bool):Option Bool :=
 l1 l (l.length:Int) 0
def q83 (N:Nat)(l:List q00):Option Bool:=jg1 N l (fun l t6 e=>q86 (zt0 N l t6) N e)
noncomputable def x26 (N:Nat)(l:List q00):Option (RT [.bool]):=q22 DR Tryz.prog N (jd1 N) zf2 Tryz.f157 (q10 Tryz.f157) (RT [.bool]) (qd2 [(.list q05)] (l,())) [] (q40 [.bool])
theorem v18 (N:Nat)(l:List q00):x26 N l=q83 N l:=by
 have h:x26 N l=jg1 N l (fun l t6 e=>q57 (yg1 N ) N (zv2 l t6 e) (zu5 l t6 e)):=by kernel_rfl
 rw [h]
 simp only [q83,vo9] <;> rfl
def xv7 (m:(List q00)→Option Bool):Ent:=q35 [(.list q05)] [.bool] fun (x:Els [(.list q05)])=>m x.1
def qb2 (N:Nat):Ent:=xv7 (q83 N)
theorem qa5 (N:Nat):q16 Tryz.prog 157 (qb2 N):=q15 (vr2 N) Tryz.func157 rfl (by kernel_rfl) fun (x:Els [(.list q05)])=>v18 N x.1
noncomputable def wh0 (N:Nat):q48:=tab []
theorem zw7 (N:Nat):q13 Tryz.prog (wh0 N):=q27 _
noncomputable def wa4 (N:Nat):Ent:=zn6 Tryz.prog N (wh0 N) ⟨[],[],[],[],false,[],[]⟩ Tryz.f156 (q10 Tryz.f156)
theorem zl3 (N:Nat):q16 Tryz.prog 156 (wa4 N):=qc2 (zw7 N) Tryz.func156 rfl (by kernel_rfl)
def qf6 :FH:=⟨[],[],[(1,⟨11,53,0,[],[]⟩),(4,⟨10,53,0,[],[]⟩)],[],false,[],[(4,⟨[(0,.lst q05),(2,.asis),(4,.asis)],[],[.cells [.int .u8,.int .i64,.str,.int .i64]]⟩),(5,⟨[(0,.lst q05),(2,.asis),(4,.asis),(5,.int .i64),(6,.bool)],[],[.cells [.int .u8,.int .i64,.str,.int .i64]]⟩)]⟩
noncomputable def wc5 (N:Nat):q48:=tab [(155,qj8 N),(156,wa4 N),(90,qc8 N),(157,qb2 N),(76,q91 N)]
theorem ya0 (N:Nat):q13 Tryz.prog (wc5 N):=q06 (qk8 N) <| q06 (zl3 N) <| q06 (qb9 N) <| q06 (qa5 N) <| q06 (q80 N) <| q27 _
noncomputable def qe4 :Sc:=wl6 Tryz.prog qf6
noncomputable def qe5 (N:Nat):Cfg:=⟨N,wc5 N,0⟩
noncomputable def wz7 (N:Nat):Exit→List TV→List TOb→Option q03:=fin Tryz.prog 0 Tryz.f154.results.toList (q40 [q07])
def z67 (l:List q00)(c:Int)(ok t2:Bool)(e:Unit):List TV:=frm 53 [(0,.tl q05 l .unk),(2,.ep [.bool t2] 0),(4,.ref 0 0),(5,.int .i64 c),(6,.bool ok)]
def z69 (l:List q00)(c:Int)(ok t2:Bool)(e:Unit):List TOb:=[.cells [.int .u8 0,.int .i64 0,.str [],.int .i64 0] 115 true]
def za5 (l:List q00)(t2:Bool)(e:Unit):List TV:=frm 53 [(0,.tl q05 l .unk),(2,.ep [.bool t2] 0),(4,.ref 0 0)]
def zc0 (l:List q00)(t2:Bool)(e:Unit):List TOb:=[.cells [.int .u8 0,.int .i64 0,.str [],.int .i64 0] 115 true]
noncomputable def zc9 (N:Nat):List TV→List TOb→Option q03:=ys5 DR qe4 (qe5 N) (q87 (ys1 (q08 (qc4 (q87 (q08 (q08 (q08 (q10 Tryz.f154))))))))) (qc3 DR qe4 (qe5 N) (q08 (ys1 (q08 (qc4 (q87 (q08 (q08 (q08 (q10 Tryz.f154))))))))) (qf6.loops.drop 0) (qk0 0 (qc3 DR qe4 (qe5 N) (q08 (q08 (q08 (q08 (q10 Tryz.f154))))) (qf6.loops.drop 0) (wz7 N))))
def qq4 (N:Nat)(l:List q00)(t2:Bool)(e:Unit):Option q03 :=
 bif inR 0 l.length then
 bif inR 1 l.length then
 (q94 N ((((q24 l 0 q29).1) == ((q24 l 1 q29).1)) == t2)).bind fun r1 =>
 some (r1,0,())
 else none
 else none
theorem y91 (N:Nat)(l:List q00)(t2:Bool)(e:Unit):jmp N (zc9 N ) ((za5 l t2) e) ((zc0 l t2) e)=at1 N (qq4 N l t2 e):=qn4 (by kernel_rfl) N
noncomputable def z82 (N:Nat):List TV→List TOb→Option q03:=ys5 DR qe4 (qe5 N) (q87 (zf9 (q08 (qc4 (q87 (q08 (q08 (q08 (q10 Tryz.f154))))))))) (qc3 DR qe4 (qe5 N) (q08 (zf9 (q08 (qc4 (q87 (q08 (q08 (q08 (q10 Tryz.f154))))))))) (qf6.loops.drop 0) (qk0 0 (qc3 DR qe4 (qe5 N) (q08 (q08 (q08 (q08 (q10 Tryz.f154))))) (qf6.loops.drop 0) (wz7 N))))
def qp5 (N:Nat)(l:List q00)(c:Int)(ok t2:Bool)(e:Unit):Option q03 :=
 (q83 N l).bind fun r2 =>
 bif r2 then
  some ((0,0,[],()),0,())
 else
  bif (!ok) then
   (qd7 N 8).bind fun r3 =>
   some r3
  else
   (q94 N ((c == 0) == t2)).bind fun r4 =>
   some (r4,0,())
theorem yd7 (N:Nat)(l:List q00)(c:Int)(ok t2:Bool)(e:Unit):jmp N (z82 N ) ((z67 l c ok t2) e) ((z69 l c ok t2) e)=at1 N (qp5 N l c ok t2 e):=qn4 (by kernel_rfl) N
def wd3 (N:Nat)(l:List q00)(t1:List q03)(t11:List Bool)(t2:Bool)(l1:(List q00)→Bool→Unit→Option q03)(l2:(List q00)→Int→Bool→Bool→Unit→Option q03):Option q03 :=
 bif inR 0 l.length then
 bif inR 1 l.length then
 (q92 N (q24 l 0 q29) (q24 l 1 q29)).bind fun r =>
 bif decide ((0:Int) < (t11.length:Int)) then
  bif inR 0 t11.length then
  bif (q24 t11 0 false) then
   l1 l t2 ()
  else
   bif decide ((1:Int) < (t11.length:Int)) then
    bif inR 1 t11.length then
    bif (q24 t11 1 false) then
     l1 l t2 ()
    else
     l2 l r.1 r.2.1 t2 ()
    else none
   else
    l2 l r.1 r.2.1 t2 ()
  else none
 else
  bif decide ((1:Int) < (t11.length:Int)) then
   bif inR 1 t11.length then
   bif (q24 t11 1 false) then
    l1 l t2 ()
   else
    l2 l r.1 r.2.1 t2 ()
   else none
  else
   l2 l r.1 r.2.1 t2 ()
 else none
 else none
def qg0 (N:Nat)(l:List q00)(t1:List q03)(t11:List Bool)(t2:Bool):Option q03:=wd3 N l t1 t11 t2 (fun l t2 e=>at1 N (qq4 N l t2 e)) (fun l c ok t2 e=>at1 N (qp5 N l c ok t2 e))
abbrev z99 :List PK:=[.val (.list q05),.ep 2,.val (.list q07),.val (.list .bool),.ep 1,.val .bool]
noncomputable def zh4 (N:Nat)(l:List q00)(t1:List q03)(t11:List Bool)(t2:Bool):Option (RT [q07]):=q22 DR Tryz.prog N (wc5 N) qf6 Tryz.f154 (q10 Tryz.f154) (RT [q07]) (qx9 z99 (l,t1,t11,t2,())) [] (q40 [q07])
theorem jz3 (N:Nat)(l:List q00)(t1:List q03)(t11:List Bool)(t2:Bool):zh4 N l t1 t11 t2=qg0 N l t1 t11 t2:=by
 have h:zh4 N l t1 t11 t2=wd3 N l t1 t11 t2 (fun l t2 e=>jmp N (zc9 N ) (za5 l t2 e) (zc0 l t2 e)) (fun l c ok t2 e=>jmp N (z82 N ) (z67 l c ok t2 e) (z69 l c ok t2 e)):=by kernel_rfl
 rw [h]
 simp only [qg0,y91,yd7] <;> rfl
def jo0 (m:(List q00)→(List q03)→(List Bool)→Bool→Option q03):Ent:=qf1 z99 [q07] fun (x:Els [(.list q05),(.list q07),(.list .bool),.bool])=>m x.1 x.2.1 x.2.2.1 x.2.2.2.1
def wy6 (N:Nat):Ent:=jo0 (qg0 N)
theorem j64 (N:Nat):q16 Tryz.prog 154 (wy6 N):=q51 (ya0 N) Tryz.func154 rfl (by kernel_rfl) (by kernel_rfl) fun (x:Els [(.list q05),(.list q07),(.list .bool),.bool])=>jz3 N x.1 x.2.1 x.2.2.1 x.2.2.2.1
def zx6 :LH:=⟨[(2,.asis),(3,.asis),(6,.asis),(7,.own q05 507 26 3),(10,.int .i64),(11,.int .i64)],[],[.cells [.lst q07,.lst .bool],.cells [.int .u8,.int .i64,.str,.int .i64]]⟩
def wb4 :FH:=⟨[zx6],[],[],[],false,[],[]⟩
noncomputable def z37 (N:Nat):q48:=tab [(153,q52 N),(154,wy6 N)]
theorem xd8 (N:Nat):q13 Tryz.prog (z37 N):=q06 (q49 N) <| q06 (j64 N) <| q27 _
noncomputable def j29 :Sc:=wl6 Tryz.prog wb4
noncomputable def zy8 (N:Nat):Cfg:=⟨N,z37 N,0⟩
noncomputable def yw7 (N:Nat):Exit→List TV→List TOb→Option q03:=fin Tryz.prog 0 Tryz.f99.results.toList (q40 [q07])
def wq3 (n:Int)(k_l:List q03)(q09:List Bool)(q04 q20:Int)(q19:List UInt8)(q62:Int)(ya5:List q03)(q90:List Bool)(t2:Bool)(e:List q00×Int):List TV:=match e with
 | (l,t11)=>frm 30 [(2,.func (.func 154) [.ep [.tl q07 ya5 .unk,.tl .bool q90 .unk] 0,.ep [.bool t2] 0]),(3,.ref 0 0),(6,.ref 1 0),(7,.tl q05 l (.own 507 26 3)),(10,.int .i64 n),(11,.int .i64 t11)]
def wr7 (n:Int)(k_l:List q03)(q09:List Bool)(q04 q20:Int)(q19:List UInt8)(q62:Int)(ya5:List q03)(q90:List Bool)(t2:Bool)(e:List q00×Int):List TOb:=match e with
 | (l,t11)=>[.cells [.tl q07 k_l .unk,.tl .bool q09 .unk] 118 true,.cells [.int .u8 q04,.int .i64 q20,.str q19,.int .i64 q62] 115 true]
noncomputable def zw4 (N:Nat):(List TV→List TOb→Option q03)→List TV→List TOb→Option q03:=w54 DR j29 (zy8 N) (ql6 (qc4 (q08 (q87 (q08 (q08 (q10 Tryz.f99))))))) zx6 (wb4.loops.drop 1) (qk0 0 (qc3 DR j29 (zy8 N) (q08 (q08 (q08 (q10 Tryz.f99)))) (wb4.loops.drop 1) (yw7 N)))
def wr1 (N:Nat)(n:Int)(k_l:List q03)(q09:List Bool)(q04 q20:Int)(q19:List UInt8)(q62:Int)(ya5:List q03)(q90:List Bool)(t2:Bool)(K0:(List q00×Int)→Option q03)(e:List q00×Int):Option q03 :=
 match e with
 | (l,t11) =>
  bif decide (t11 < n) then
   (q58 N (k_l,q09,()) t11).bind fun r =>
   bif (r.2.1 != 0) then
    some r
   else
    bif w23 (l.length + ([r.1]:List q00).length) 4398046511104 then
    bif q26 (t11 + 1) then
    K0 ((l ++ ([r.1]:List q00)),t11 + 1)
    else none
    else none
  else
   (qg0 N l ya5 q90 t2).bind fun r1 =>
   some r1
theorem xi5 (N:Nat)(n:Int)(k_l:List q03)(q09:List Bool)(q04 q20:Int)(q19:List UInt8)(q62:Int)(ya5:List q03)(q90:List Bool)(t2:Bool)(n_:Nat)(e:List q00×Int):q57 (zw4 N ) n_ ((wq3 n k_l q09 q04 q20 q19 q62 ya5 q90 t2) e) ((wr7 n k_l q09 q04 q20 q19 q62 ya5 q90 t2) e)=q86 (wr1 N n k_l q09 q04 q20 q19 q62 ya5 q90 t2 ) n_ e :=
 q39 (wq3 n k_l q09 q04 q20 q19 q62 ya5 q90 t2) (wr7 n k_l q09 q04 q20 q19 q62 ya5 q90 t2) (by intro K e; obtain ⟨l,t11⟩:=e; kernel_rfl) n_ e
def jh4 (N:Nat)(k:q34)(n:Int)(ya5:List q03)(q90:List Bool)(t2:Bool)(l1:Int→(List q03)→(List Bool)→Int→Int→(List UInt8)→Int→(List q03)→(List Bool)→Bool→(List q00×Int)→Option q03):Option q03 :=
 l1 n k.1 k.2.1 0 0 [] 0 ya5 q90 t2 ([],0)
def wa3 (N:Nat)(k:q34)(n:Int)(ya5:List q03)(q90:List Bool)(t2:Bool):Option q03:=jh4 N k n ya5 q90 t2 (fun n k_l q09 q04 q20 q19 q62 ya5 q90 t2 e=>q86 (wr1 N n k_l q09 q04 q20 q19 q62 ya5 q90 t2) N e)
abbrev j45 :List PK:=[.val q65,.val (.int .i64),.fn 154 2,.ep 2,.val (.list q07),.val (.list .bool),.ep 1,.val .bool]
noncomputable def jh0 (N:Nat)(k:q34)(n:Int)(ya5:List q03)(q90:List Bool)(t2:Bool):Option (RT [q07]):=q22 DR Tryz.prog N (z37 N) wb4 Tryz.f99 (q10 Tryz.f99) (RT [q07]) (qx9 j45 (k,n,ya5,q90,t2,())) [] (q40 [q07])
theorem x61 (N:Nat)(k:q34)(n:Int)(ya5:List q03)(q90:List Bool)(t2:Bool):jh0 N k n ya5 q90 t2=wa3 N k n ya5 q90 t2:=by
 have h:jh0 N k n ya5 q90 t2=jh4 N k n ya5 q90 t2 (fun n k_l q09 q04 q20 q19 q62 ya5 q90 t2 e=>q57 (zw4 N ) N (wq3 n k_l q09 q04 q20 q19 q62 ya5 q90 t2 e) (wr7 n k_l q09 q04 q20 q19 q62 ya5 q90 t2 e)):=by kernel_rfl
 rw [h]
 simp only [wa3,xi5] <;> rfl
def yj4 (m:q34→Int→(List q03)→(List Bool)→Bool→Option q03):Ent:=qf1 j45 [q07] fun (x:Els [q65,(.int .i64),(.list q07),(.list .bool),.bool])=>m x.1 x.2.1 x.2.2.1 x.2.2.2.1 x.2.2.2.2.1
def zp7 (N:Nat):Ent:=yj4 (wa3 N)
theorem yb4 (N:Nat):q16 Tryz.prog 99 (zp7 N):=q51 (xd8 N) Tryz.func99 rfl (by kernel_rfl) (by kernel_rfl) fun (x:Els [q65,(.int .i64),(.list q07),(.list .bool),.bool])=>x61 N x.1 x.2.1 x.2.2.1 x.2.2.2.1 x.2.2.2.2.1
def xa7 :FH:=⟨[],[],[],[],false,[99],[]⟩
noncomputable def j51 (N:Nat):q48:=tab [(99,zp7 N)]
theorem yy4 (N:Nat):q13 Tryz.prog (j51 N):=q06 (yb4 N) <| q27 _
def qz3 (N:Nat)(k:q34)(as_:Bool):Option q03 :=
 (wa3 N k 2 k.1 k.2.1 as_).bind fun r =>
 some r
noncomputable def x82 (N:Nat)(k:q34)(as_:Bool):Option (RT [q07]):=q22 DR Tryz.prog N (j51 N) xa7 Tryz.f82 (q10 Tryz.f82) (RT [q07]) (qd2 [q65,.bool] (k,as_,())) [] (q40 [q07])
theorem yk8 (N:Nat)(k:q34)(as_:Bool):x82 N k as_=qz3 N k as_:=by kernel_rfl
def yd9 (m:q34→Bool→Option q03):Ent:=q35 [q65,.bool] [q07] fun (x:Els [q65,.bool])=>m x.1 x.2.1
def zj9 (N:Nat):Ent:=yd9 (qz3 N)
theorem y39 (N:Nat):q16 Tryz.prog 82 (zj9 N):=q15 (yy4 N) Tryz.func82 rfl (by kernel_rfl) fun (x:Els [q65,.bool])=>yk8 N x.1 x.2.1
def xo0 :LH:=⟨[(0,.int .u8),(1,.int .u8),(9,.lst q05),(10,.int .i64),(11,.int .i64)],[],[]⟩
def jf6 :FH:=⟨[xo0],[],[],[],false,[],[]⟩
noncomputable def yn5 (N:Nat):q48:=tab []
theorem ur8 (N:Nat):q13 Tryz.prog (yn5 N):=q27 _
noncomputable def xk1 :Sc:=wl6 Tryz.prog jf6
noncomputable def xr7 (N:Nat):Cfg:=⟨N,yn5 N,0⟩
noncomputable def u67 (N:Nat):Exit→List TV→List TOb→Option Bool:=fin Tryz.prog 0 Tryz.f159.results.toList (q40 [.bool])
def jr8 (least most:Int)(l:List q00)(t10 e:Int):List TV:=match e with
 | t11=>frm 31 [(0,.int .u8 least),(1,.int .u8 most),(9,.tl q05 l .unk),(10,.int .i64 t10),(11,.int .i64 t11)]
def js0 (least most:Int)(l:List q00)(t10 e:Int):List TOb:=match e with
 | t11=>[]
noncomputable def xn7 (N:Nat):(List TV→List TOb→Option Bool)→List TV→List TOb→Option Bool:=w54 DR xk1 (xr7 N) (ql6 (qc4 (q08 (q87 (q08 (q10 Tryz.f159)))))) xo0 (jf6.loops.drop 1) (qk0 0 (qc3 DR xk1 (xr7 N) (q08 (q08 (q10 Tryz.f159))) (jf6.loops.drop 1) (u67 N)))
def js8 (N:Nat)(least most:Int)(l:List q00)(t10:Int)(K0:Int→Option Bool)(e:Int):Option Bool :=
 match e with
 | t11 =>
  bif decide (t11 < t10) then
   bif inR t11 l.length then
   bif (((q24 l t11 q29).1) != 0) then
    bif decide (((q24 l t11 q29).1) < least) then
     some false
    else
     bif decide (((q24 l t11 q29).1) > most) then
      some false
     else
      bif q26 (t11 + 1) then
      K0 (t11 + 1)
      else none
   else
    bif q26 (t11 + 1) then
    K0 (t11 + 1)
    else none
   else none
  else
   some true
theorem ux6 (N:Nat)(least most:Int)(l:List q00)(t10:Int)(n_:Nat)(e:Int):q57 (xn7 N ) n_ ((jr8 least most l t10) e) ((js0 least most l t10) e)=q86 (js8 N least most l t10 ) n_ e :=
 q39 (jr8 least most l t10) (js0 least most l t10) (by intro K e; kernel_rfl) n_ e
def yp4 (N:Nat)(least most:Int)(l:List q00)(l1:Int→Int→(List q00)→Int→Int→Option Bool):Option Bool :=
 l1 least most l (l.length:Int) 0
def qa8 (N:Nat)(least most:Int)(l:List q00):Option Bool:=yp4 N least most l (fun least most l t10 e=>q86 (js8 N least most l t10) N e)
noncomputable def vc7 (N:Nat)(least most:Int)(l:List q00):Option (RT [.bool]):=q22 DR Tryz.prog N (yn5 N) jf6 Tryz.f159 (q10 Tryz.f159) (RT [.bool]) (qd2 [(.int .u8),(.int .u8),(.list q05)] (least,most,l,())) [] (q40 [.bool])
theorem u60 (N:Nat)(least most:Int)(l:List q00):vc7 N least most l=qa8 N least most l:=by
 have h:vc7 N least most l=yp4 N least most l (fun least most l t10 e=>q57 (xn7 N ) N (jr8 least most l t10 e) (js0 least most l t10 e)):=by kernel_rfl
 rw [h]
 simp only [qa8,ux6] <;> rfl
def vr6 (m:Int→Int→(List q00)→Option Bool):Ent:=q35 [(.int .u8),(.int .u8),(.list q05)] [.bool] fun (x:Els [(.int .u8),(.int .u8),(.list q05)])=>m x.1 x.2.1 x.2.2.1
def qe3 (N:Nat):Ent:=vr6 (qa8 N)
theorem qc6 (N:Nat):q16 Tryz.prog 159 (qe3 N):=q15 (ur8 N) Tryz.func159 rfl (by kernel_rfl) fun (x:Els [(.int .u8),(.int .u8),(.list q05)])=>u60 N x.1 x.2.1 x.2.2.1
def vj8 :FH:=⟨[],[],[],[],false,[],[]⟩
noncomputable def js3 (N:Nat):q48:=tab []
theorem xt9 (N:Nat):q13 Tryz.prog (js3 N):=q27 _
def wh3 (N:Nat)(c:Int):Option Bool :=
 some (decide (c < 0))
noncomputable def v80 (N:Nat)(c:Int):Option (RT [.bool]):=q22 DR Tryz.prog N (js3 N) vj8 Tryz.f84 (q10 Tryz.f84) (RT [.bool]) (qd2 [(.int .i64)] (c,())) [] (q40 [.bool])
theorem xh1 (N:Nat)(c:Int):v80 N c=wh3 N c:=by kernel_rfl
def yv5 (m:Int→Option Bool):Ent:=q35 [(.int .i64)] [.bool] fun (x:Els [(.int .i64)])=>m x.1
def j56 (N:Nat):Ent:=yv5 (wh3 N)
theorem yr1 (N:Nat):q16 Tryz.prog 84 (j56 N):=q15 (xt9 N) Tryz.func84 rfl (by kernel_rfl) fun (x:Els [(.int .i64)])=>xh1 N x.1
def yj0 :FH:=⟨[],[],[(5,⟨11,35,0,[],[]⟩)],[],false,[],[]⟩
noncomputable def zj4 (N:Nat):q48:=tab [(159,qe3 N),(76,q91 N),(157,qb2 N),(155,qj8 N),(84,j56 N),(90,qc8 N)]
theorem ye0 (N:Nat):q13 Tryz.prog (zj4 N):=q06 (qc6 N) <| q06 (q80 N) <| q06 (qa5 N) <| q06 (qk8 N) <| q06 (yr1 N) <| q06 (qb9 N) <| q27 _
def qr0 (N:Nat)(l:List q00):Option q03 :=
 (qa8 N 1 2 l).bind fun r =>
 bif (!r) then
  (qa8 N 3 3 l).bind fun r1 =>
  bif (!r1) then
   (qd7 N 8).bind fun r2 =>
   some r2
  else
   (q83 N l).bind fun r3 =>
   bif r3 then
    some ((0,0,[],()),0,())
   else
    bif inR 0 l.length then
    bif inR 1 l.length then
    (q92 N (q24 l 0 q29) (q24 l 1 q29)).bind fun r4 =>
    (wh3 N r4.1).bind fun r5 =>
    (q94 N r5).bind fun r6 =>
    some (r6,0,())
    else none
    else none
 else
  (q83 N l).bind fun r7 =>
  bif r7 then
   some ((0,0,[],()),0,())
  else
   bif inR 0 l.length then
   bif inR 1 l.length then
   (q92 N (q24 l 0 q29) (q24 l 1 q29)).bind fun r8 =>
   (wh3 N r8.1).bind fun r9 =>
   (q94 N r9).bind fun r10 =>
   some (r10,0,())
   else none
   else none
abbrev z56 :List PK:=[.val (.list q05),.ep 1,.fn 84 0]
noncomputable def yi8 (N:Nat)(l:List q00):Option (RT [q07]):=q22 DR Tryz.prog N (zj4 N) yj0 Tryz.f158 (q10 Tryz.f158) (RT [q07]) (qx9 z56 (l,())) [] (q40 [q07])
theorem jw6 (N:Nat)(l:List q00):yi8 N l=qr0 N l:=by kernel_rfl
def jl8 (m:(List q00)→Option q03):Ent:=qf1 z56 [q07] fun (x:Els [(.list q05)])=>m x.1
def wv6 (N:Nat):Ent:=jl8 (qr0 N)
theorem je0 (N:Nat):q16 Tryz.prog 158 (wv6 N):=q51 (ye0 N) Tryz.func158 rfl (by kernel_rfl) (by kernel_rfl) fun (x:Els [(.list q05)])=>jw6 N x.1
end Go.Proofs.YtgicljncknbgcaaGreat.Abs
