/- The functions of the program, told on typed values, printed by a program: each tells what the reckoning of its body tells. -/
import Derived.Test.YtgicljncknbgcaaGreatL7
import Derived.Test.YtgicljncknbgcaaGreatG3
import Derived.Test.YtgicljncknbgcaaGreatLA
import Derived.Test.YtgicljncknbgcaaGreatProg
set_option linter.unusedVariables false
set_option linter.unusedSimpArgs false
set_option linter.unusedSectionVars false
namespace Go.Proofs.YtgicljncknbgcaaGreat.Abs
set_option maxRecDepth 100000
open Go Go.Proofs
def j56 :FH:=⟨[],[],[(3,⟨4,51,0,[(3,.store true 0)],[]⟩),(10,⟨8,51,0,[(7,.store true 0)],[]⟩)],[],false,[],[(7,⟨[(3,.asis),(5,.lst qd2),(7,.int .i64),(9,.int .i64)],[],[.cells [.int .i64,.int .i64],.cells [.int .i64,.int .i64]]⟩),(9,⟨[(3,.asis),(5,.lst qd2),(7,.int .i64),(9,.int .i64)],[],[.cells [.int .i64,.int .i64],.cells [.int .i64,.int .i64]]⟩)]⟩
noncomputable def v82 (N:Nat):q49:=tab [(29,vz4 N),(30,xt2 N),(31,yw5 N)]
theorem kx5 (N:Nat):q14 Tryz.prog (v82 N):=q06 (uw4 N) <| q06 (vx2 N) <| q06 (vc3 N) <| q28 _
noncomputable def zh8 :Sc:=wm4 Tryz.prog j56
noncomputable def zh2 (N:Nat):Cfg:=⟨N,v82 N,0⟩
noncomputable def vi4 (N:Nat):Exit→List TV→List TOb→Option ((List q20)×qi2×Int×Unit):=fin Tryz.prog 0 Tryz.f11.results.toList (q42 [(.list q81),w78,(.int .i64)])
def xh3 (l:List q33)(e_ n qc8 qj8:Int)(e:Unit):List TV:=frm 51 [(3,.ref 0 0),(5,.tl qd2 l .unk),(7,.int .i64 e_),(9,.int .i64 n)]
def xa5 (l:List q33)(e_ n qc8 qj8:Int)(e:Unit):List TOb:=[.cells [.int .i64 0,.int .i64 0] 31 true,.cells [.int .i64 qc8,.int .i64 qj8] 31 true]
def u34 (l:List q33)(n qc8 qj8 e:Int):List TV:=match e with
 | e_1=>frm 51 [(3,.ref 0 0),(5,.tl qd2 l .unk),(7,.int .i64 e_1),(9,.int .i64 n)]
def vz6 (l:List q33)(n qc8 qj8 e:Int):List TOb:=match e with
 | e_1=>[.cells [.int .i64 0,.int .i64 0] 31 true,.cells [.int .i64 qc8,.int .i64 qj8] 31 true]
noncomputable def u36 (N:Nat):List TV→List TOb→Option ((List q20)×qi2×Int×Unit):=x83 DR zh8 (zh2 N) (q88 (q88 (q08 (q08 (q08 (q08 (q08 (q08 (q13 Tryz.f11))))))))) (qc5 DR zh8 (zh2 N) (q08 (q88 (q08 (q08 (q08 (q08 (q08 (q08 (q13 Tryz.f11))))))))) (j56.loops.drop 0) (qc5 DR zh8 (zh2 N) (q08 (q08 (q08 (q08 (q08 (q08 (q08 (q13 Tryz.f11)))))))) (j56.loops.drop 0) (vi4 N)))
def zh7 (N:Nat)(l:List q33)(n qc8 qj8 e:Int):Option ((List q20)×qi2×Int×Unit) :=
 match e with
 | e_1 =>
  bif decide (n < (l.length:Int)) then
   bif inR n l.length then
   some ([],((q25 l n q31).2.2.2.1),e_1,())
   else none
  else
   (j65 N l).bind fun r2 =>
   some ([],r2,e_1,())
theorem kv4 (N:Nat)(l:List q33)(n qc8 qj8 e:Int):jmp N (u36 N ) ((u34 l n qc8 qj8) e) ((vz6 l n qc8 qj8) e)=at1 N (zh7 N l n qc8 qj8 e):=qn7 (by kernel_rfl) N
noncomputable def xd5 (N:Nat):List TV→List TOb→Option ((List q20)×qi2×Int×Unit):=x83 DR zh8 (zh2 N) (q88 (q88 (q08 (q08 (q08 (q08 (q08 (q13 Tryz.f11)))))))) (qc5 DR zh8 (zh2 N) (q08 (q88 (q08 (q08 (q08 (q08 (q08 (q13 Tryz.f11)))))))) (j56.loops.drop 0) (qc5 DR zh8 (zh2 N) (q08 (q08 (q08 (q08 (q08 (q08 (q13 Tryz.f11))))))) (j56.loops.drop 0) (vi4 N)))
def j85 (N:Nat)(l:List q33)(e_ n qc8 qj8:Int)(l2:(List q33)→Int→Int→Int→Int→Option ((List q20)×qi2×Int×Unit))(e:Unit):Option ((List q20)×qi2×Int×Unit) :=
 bif (e_ == 0) then
  l2 l n qc8 qj8 4
 else
  l2 l n qc8 qj8 e_
def wg2 (N:Nat)(l:List q33)(e_ n qc8 qj8:Int)(e:Unit):Option ((List q20)×qi2×Int×Unit):=j85 N l e_ n qc8 qj8 (fun l n qc8 qj8 e=>at1 N (zh7 N l n qc8 qj8 e)) e
theorem ku4 (N:Nat)(l:List q33)(e_ n qc8 qj8:Int)(e:Unit):jmp N (xd5 N ) ((xh3 l e_ n qc8 qj8) e) ((xa5 l e_ n qc8 qj8) e)=at1 N (wg2 N l e_ n qc8 qj8 e):=qn7 (by
 have h:(xd5 N ) ((xh3 l e_ n qc8 qj8) e) ((xa5 l e_ n qc8 qj8) e)=j85 N l e_ n qc8 qj8 (fun l n qc8 qj8 e=>jmp N (u36 N ) (u34 l n qc8 qj8 e) (vz6 l n qc8 qj8 e)) e:=by kernel_rfl
 rw [h]
 simp only [wg2,kv4] <;> rfl) N
def x33 (N:Nat)(s:List UInt8)(l1:(List q33)→Int→Int→Int→Int→Unit→Option ((List q20)×qi2×Int×Unit)):Option ((List q20)×qi2×Int×Unit) :=
 (jk4 N s).bind fun r =>
 bif (r.2.2.1 != 0) then
  some ([],r.2.1,r.2.2.1,())
 else
  (y83 N r.1 0).bind fun r1 =>
  bif (r1.2.2.1 == 0) then
   bif (r1.2.1 == (r.1.length:Int)) then
    some (r1.1,(0,0,()),0,())
   else
    l1 r.1 r1.2.2.1 r1.2.1 r.2.1.1 r.2.1.2.1 ()
  else
   l1 r.1 r1.2.2.1 r1.2.1 r.2.1.1 r.2.1.2.1 ()
def wf0 (N:Nat)(s:List UInt8):Option ((List q20)×qi2×Int×Unit):=x33 N s (fun l e_ n qc8 qj8 e=>at1 N (wg2 N l e_ n qc8 qj8 e))
noncomputable def uv6 (N:Nat)(s:List UInt8):Option (RT [(.list q81),w78,(.int .i64)]):=q24 DR Tryz.prog N (v82 N) j56 Tryz.f11 (q13 Tryz.f11) (RT [(.list q81),w78,(.int .i64)]) (qd4 [.str] (s,())) [] (q42 [(.list q81),w78,(.int .i64)])
theorem kf6 (N:Nat)(s:List UInt8):uv6 N s=wf0 N s:=by
 have h:uv6 N s=x33 N s (fun l e_ n qc8 qj8 e=>jmp N (xd5 N ) (xh3 l e_ n qc8 qj8 e) (xa5 l e_ n qc8 qj8 e)):=by kernel_rfl
 rw [h]
 simp only [wf0,ku4] <;> rfl
def us0 (m:(List UInt8)→Option ((List q20)×qi2×Int×Unit)):Ent:=q37 [.str] [(.list q81),w78,(.int .i64)] fun (x:Els [.str])=>m x.1
def jf6 (N:Nat):Ent:=us0 (wf0 N)
theorem jc2 (N:Nat):q17 Tryz.prog 11 (jf6 N):=q16 (kx5 N) Tryz.func11 rfl (by kernel_rfl) fun (x:Els [.str])=>kf6 N x.1
def ke8 :FH:=⟨[],[],[],[],false,[],[]⟩
noncomputable def v40 (N:Nat):q49:=tab [(180,ji0 N),(181,ji3 N)]
theorem up8 (N:Nat):q14 Tryz.prog (v40 N):=q06 (x59 N) <| q06 (x91 N) <| q28 _
def qx7 (N:Nat)(v:q00):Option Bool :=
 bif (v.1 == 0) then
  some ((v.1 == (0:Int)) && ((v.2.1 == (0:Int)) && ((v.2.2.1 == ([]:List UInt8)) && true)))
 else
  bif (v.1 == 1) then
   some (v.2.2.1 == ([]:List UInt8))
  else
   bif (v.1 == 2) then
    some (v.2.2.1 == ([]:List UInt8))
   else
    bif (v.1 == 3) then
     bif (v.2.1 == 0) then
      (wx4 N v.2.2.1).bind fun r =>
      some r
     else
      some false
    else
     bif (v.1 == 4) then
      bif (v.2.2.1 == ([]:List UInt8)) then
       bif (v.2.1 == 0) then
        some true
       else
        some (v.2.1 == 1)
      else
       some false
     else
      bif (v.1 == 5) then
       bif (v.2.1 == 0) then
        (wy0 N v.2.2.1).bind fun r1 =>
        some r1
       else
        some false
      else
       some false
noncomputable def k76 (N:Nat)(v:q00):Option (RT [.bool]):=q24 DR Tryz.prog N (v40 N) ke8 Tryz.f120 (q13 Tryz.f120) (RT [.bool]) (qd4 [q05] (v,())) [] (q42 [.bool])
theorem ui2 (N:Nat)(v:q00):k76 N v=qx7 N v:=by kernel_rfl
def vs6 (m:q00→Option Bool):Ent:=q37 [q05] [.bool] fun (x:Els [q05])=>m x.1
def yv8 (N:Nat):Ent:=vs6 (qx7 N)
theorem vc5 (N:Nat):q17 Tryz.prog 120 (yv8 N):=q16 (up8 N) Tryz.func120 rfl (by kernel_rfl) fun (x:Els [q05])=>ui2 N x.1
def k75 :FH:=⟨[],[],[],[],false,[],[]⟩
noncomputable def vo9 (N:Nat):q49:=tab []
theorem uz2 (N:Nat):q14 Tryz.prog (vo9 N):=q28 _
def qd8 (N:Nat)(e_:Int):Option q03 :=
 some ((0,0,[],()),e_,())
noncomputable def ka5 (N:Nat)(e_:Int):Option (RT [q07]):=q24 DR Tryz.prog N (vo9 N) k75 Tryz.f76 (q13 Tryz.f76) (RT [q07]) (qd4 [(.int .i64)] (e_,())) [] (q42 [q07])
theorem u93 (N:Nat)(e_:Int):ka5 N e_=qd8 N e_:=by kernel_rfl
def vt0 (m:Int→Option q03):Ent:=q37 [(.int .i64)] [q07] fun (x:Els [(.int .i64)])=>m x.1
def q93 (N:Nat):Ent:=vt0 (qd8 N)
theorem q82 (N:Nat):q17 Tryz.prog 76 (q93 N):=q16 (uz2 N) Tryz.func76 rfl (by kernel_rfl) fun (x:Els [(.int .i64)])=>u93 N x.1
def kf4 :FH:=⟨[],[],[],[],false,[],[]⟩
noncomputable def ve7 (N:Nat):q49:=tab [(120,yv8 N),(76,q93 N)]
theorem k11 (N:Nat):q14 Tryz.prog (ve7 N):=q06 (vc5 N) <| q06 (q82 N) <| q28 _
def zp2 (N:Nat)(v:q00):Option q03 :=
 (qx7 N v).bind fun r =>
 bif (!r) then
  (qd8 N 2).bind fun r1 =>
  some r1
 else
  some (v,0,())
noncomputable def k62 (N:Nat)(v:q00):Option (RT [q07]):=q24 DR Tryz.prog N (ve7 N) kf4 Tryz.f75 (q13 Tryz.f75) (RT [q07]) (qd4 [q05] (v,())) [] (q42 [q07])
theorem u81 (N:Nat)(v:q00):k62 N v=zp2 N v:=by kernel_rfl
def vw7 (m:q00→Option q03):Ent:=q37 [q05] [q07] fun (x:Els [q05])=>m x.1
def yz8 (N:Nat):Ent:=vw7 (zp2 N)
theorem vk7 (N:Nat):q17 Tryz.prog 75 (yz8 N):=q16 (k11 N) Tryz.func75 rfl (by kernel_rfl) fun (x:Els [q05])=>u81 N x.1
def xr2 :LH:=⟨[(3,.asis),(6,.asis),(23,.lst qa6),(24,.int .i64),(25,.int .i64)],[],[.cells [.int .u8,.int .u8,.int .i64,.str,.str,.lst (.int .i64),.int .i64,.int .i64],.cells [.int .u8,.int .i64,.str],.cells [.int .u8,.int .i64,.str,.int .i64]]⟩
def zo7 :FH:=⟨[xr2],[],[],[],false,[],[]⟩
noncomputable def ym1 (N:Nat):q49:=tab [(75,yz8 N),(76,q93 N)]
theorem uv7 (N:Nat):q14 Tryz.prog (ym1 N):=q06 (vk7 N) <| q06 (q82 N) <| q28 _
noncomputable def jx7 :Sc:=wm4 Tryz.prog zo7
noncomputable def y04 (N:Nat):Cfg:=⟨N,ym1 N,0⟩
noncomputable def ud7 (N:Nat):Exit→List TV→List TOb→Option (q03×Bool×Unit):=fin Tryz.prog 0 Tryz.f36.results.toList (q42 [q07,.bool])
def y47 (vars:List q40)(t24 jh1 q26 q61:Int)(q62 q39:List UInt8)(qb2:List Int)(q15 q18 qg8 kk5:Int)(km5:List UInt8)(qz3 x49:Int)(yy8:List UInt8)(a_e e:Int):List TV:=match e with
 | t25=>frm 40 [(3,.ref 0 0),(6,.ref 2 0),(23,.tl qa6 vars .unk),(24,.int .i64 t24),(25,.int .i64 t25)]
def y65 (vars:List q40)(t24 jh1 q26 q61:Int)(q62 q39:List UInt8)(qb2:List Int)(q15 q18 qg8 kk5:Int)(km5:List UInt8)(qz3 x49:Int)(yy8:List UInt8)(a_e e:Int):List TOb:=match e with
 | t25=>[.cells [.int .u8 jh1,.int .u8 q26,.int .i64 q61,.str q62,.str q39,.tl (.int .i64) qb2 .unk,.int .i64 q15,.int .i64 q18] 54 true,.cells [.int .u8 qg8,.int .i64 kk5,.str km5] 26 true,.cells [.int .u8 qz3,.int .i64 x49,.str yy8,.int .i64 a_e] 115 true]
noncomputable def xr6 (N:Nat):(List TV→List TOb→Option (q03×Bool×Unit))→List TV→List TOb→Option (q03×Bool×Unit):=w66 DR jx7 (y04 N) (qm3 (qc6 (q08 (q88 (yu6 (q08 (zh9 (q08 (zh9 (q08 (qc6 (q08 (q88 (q08 (q13 Tryz.f36))))))))))))))) xr2 (zo7.loops.drop 1) (qj9 1 (qc5 DR jx7 (y04 N) (q08 (yu6 (q08 (zh9 (q08 (zh9 (q08 (qc6 (q08 (q88 (q08 (q13 Tryz.f36)))))))))))) (zo7.loops.drop 1) (qj9 0 (qc5 DR jx7 (y04 N) (q08 (q08 (q13 Tryz.f36))) (zo7.loops.drop 1) (ud7 N)))))
def y30 (N:Nat)(vars:List q40)(t24 jh1 q26 q61:Int)(q62 q39:List UInt8)(qb2:List Int)(q15 q18 qg8 kk5:Int)(km5:List UInt8)(qz3 x49:Int)(yy8:List UInt8)(a_e:Int)(K0:Int→Option (q03×Bool×Unit))(e:Int):Option (q03×Bool×Unit) :=
 match e with
 | t25 =>
  bif decide (t25 < t24) then
   bif inR t25 vars.length then
   bif (((q25 vars t25 vl5).1) == q39) then
    (zp2 N ((q25 vars t25 vl5).2.1)).bind fun r2 =>
    some (r2,true,())
   else
    bif q27 (t25 + 1) then
    K0 (t25 + 1)
    else none
   else none
  else
   (qd8 N 11).bind fun r3 =>
   some (r3,true,())
theorem up7 (N:Nat)(vars:List q40)(t24 jh1 q26 q61:Int)(q62 q39:List UInt8)(qb2:List Int)(q15 q18 qg8 kk5:Int)(km5:List UInt8)(qz3 x49:Int)(yy8:List UInt8)(a_e:Int)(n_:Nat)(e:Int):q58 (xr6 N ) n_ ((y47 vars t24 jh1 q26 q61 q62 q39 qb2 q15 q18 qg8 kk5 km5 qz3 x49 yy8 a_e) e) ((y65 vars t24 jh1 q26 q61 q62 q39 qb2 q15 q18 qg8 kk5 km5 qz3 x49 yy8 a_e) e)=q87 (y30 N vars t24 jh1 q26 q61 q62 q39 qb2 q15 q18 qg8 kk5 km5 qz3 x49 yy8 a_e ) n_ e :=
 q41 (y47 vars t24 jh1 q26 q61 q62 q39 qb2 q15 q18 qg8 kk5 km5 qz3 x49 yy8 a_e) (y65 vars t24 jh1 q26 q61 q62 q39 qb2 q15 q18 qg8 kk5 km5 qz3 x49 yy8 a_e) (by intro K e; kernel_rfl) n_ e
def j77 (N:Nat)(n:q20)(self:q00)(vars:List q40)(l1:(List q40)→Int→Int→Int→Int→(List UInt8)→(List UInt8)→(List Int)→Int→Int→Int→Int→(List UInt8)→Int→Int→(List UInt8)→Int→Int→Option (q03×Bool×Unit)):Option (q03×Bool×Unit) :=
 bif (n.1 == 1) then
  (zp2 N n.2.1).bind fun r =>
  some (r,true,())
 else
  bif (n.1 == 3) then
   (zp2 N self).bind fun r1 =>
   some (r1,true,())
  else
   bif (n.1 == 2) then
    l1 vars (vars.length:Int) n.1 n.2.1.1 n.2.1.2.1 n.2.1.2.2.1 n.2.2.1 n.2.2.2.1 n.2.2.2.2.1.1 n.2.2.2.2.1.2.1 self.1 self.2.1 self.2.2.1 0 0 [] 0 0
   else
    some (((0,0,[],()),0,()),false,())
def wz0 (N:Nat)(n:q20)(self:q00)(vars:List q40):Option (q03×Bool×Unit):=j77 N n self vars (fun vars t24 jh1 q26 q61 q62 q39 qb2 q15 q18 qg8 kk5 km5 qz3 x49 yy8 a_e e=>q87 (y30 N vars t24 jh1 q26 q61 q62 q39 qb2 q15 q18 qg8 kk5 km5 qz3 x49 yy8 a_e) N e)
noncomputable def vf2 (N:Nat)(n:q20)(self:q00)(vars:List q40):Option (RT [q07,.bool]):=q24 DR Tryz.prog N (ym1 N) zo7 Tryz.f36 (q13 Tryz.f36) (RT [q07,.bool]) (qd4 [q81,q05,(.list qa6)] (n,self,vars,())) [] (q42 [q07,.bool])
theorem um2 (N:Nat)(n:q20)(self:q00)(vars:List q40):vf2 N n self vars=wz0 N n self vars:=by
 have h:vf2 N n self vars=j77 N n self vars (fun vars t24 jh1 q26 q61 q62 q39 qb2 q15 q18 qg8 kk5 km5 qz3 x49 yy8 a_e e=>q58 (xr6 N ) N (y47 vars t24 jh1 q26 q61 q62 q39 qb2 q15 q18 qg8 kk5 km5 qz3 x49 yy8 a_e e) (y65 vars t24 jh1 q26 q61 q62 q39 qb2 q15 q18 qg8 kk5 km5 qz3 x49 yy8 a_e e)):=by kernel_rfl
 rw [h]
 simp only [wz0,up7] <;> rfl
def vw5 (m:q20→q00→(List q40)→Option (q03×Bool×Unit)):Ent:=q37 [q81,q05,(.list qa6)] [q07,.bool] fun (x:Els [q81,q05,(.list qa6)])=>m x.1 x.2.1 x.2.2.1
def x87 (N:Nat):Ent:=vw5 (wz0 N)
theorem vq1 (N:Nat):q17 Tryz.prog 36 (x87 N):=q16 (uv7 N) Tryz.func36 rfl (by kernel_rfl) fun (x:Els [q81,q05,(.list qa6)])=>um2 N x.1 x.2.1 x.2.2.1
def vg9 :FH:=⟨[],[],[],[],false,[],[]⟩
noncomputable def jw7 (N:Nat):q49:=tab []
theorem xz3 (N:Nat):q14 Tryz.prog (jw7 N):=q28 _
def q59 (N:Nat)(k:q34)(i:Int):Option q03 :=
 bif decide (i ≥ (k.1.length:Int)) then
  some ((0,0,[],()),0,())
 else
  bif inR i k.1.length then
  some (((q25 k.1 i wt6).1),(q25 k.1 i wt6).2.1,())
  else none
noncomputable def vo0 (N:Nat)(k:q34)(i:Int):Option (RT [q07]):=q24 DR Tryz.prog N (jw7 N) vg9 Tryz.f153 (q13 Tryz.f153) (RT [q07]) (qd4 [q66,(.int .i64)] (k,i,())) [] (q42 [q07])
theorem xa9 (N:Nat)(k:q34)(i:Int):vo0 N k i=q59 N k i:=by kernel_rfl
def x90 (m:q34→Int→Option q03):Ent:=q37 [q66,(.int .i64)] [q07] fun (x:Els [q66,(.int .i64)])=>m x.1 x.2.1
def q53 (N:Nat):Ent:=x90 (q59 N)
theorem q50 (N:Nat):q17 Tryz.prog 153 (q53 N):=q16 (xz3 N) Tryz.func153 rfl (by kernel_rfl) fun (x:Els [q66,(.int .i64)])=>xa9 N x.1 x.2.1
def xb7 :FH:=⟨[],[],[],[],false,[],[]⟩
noncomputable def zz2 (N:Nat):q49:=tab [(153,q53 N),(76,q93 N)]
theorem x44 (N:Nat):q14 Tryz.prog (zz2 N):=q06 (q50 N) <| q06 (q82 N) <| q28 _
def q84 (N:Nat)(k:q34)(i:Int):Option q03 :=
 (q59 N k i).bind fun r =>
 bif (r.2.1 == 0) then
  bif (r.1.1 != 4) then
   bif (r.1.1 != 0) then
    (qd8 N 8).bind fun r1 =>
    some r1
   else
    some r
  else
   some r
 else
  some r
noncomputable def xl8 (N:Nat)(k:q34)(i:Int):Option (RT [q07]):=q24 DR Tryz.prog N (zz2 N) xb7 Tryz.f80 (q13 Tryz.f80) (RT [q07]) (qd4 [q66,(.int .i64)] (k,i,())) [] (q42 [q07])
theorem yt4 (N:Nat)(k:q34)(i:Int):xl8 N k i=q84 N k i:=by kernel_rfl
def yf5 (m:q34→Int→Option q03):Ent:=q37 [q66,(.int .i64)] [q07] fun (x:Els [q66,(.int .i64)])=>m x.1 x.2.1
def ql0 (N:Nat):Ent:=yf5 (q84 N)
theorem qp2 (N:Nat):q17 Tryz.prog 80 (ql0 N):=q16 (x44 N) Tryz.func80 rfl (by kernel_rfl) fun (x:Els [q66,(.int .i64)])=>yt4 N x.1 x.2.1
def uf3 :FH:=⟨[],[],[],[],false,[],[]⟩
noncomputable def yz2 (N:Nat):q49:=tab []
theorem vt4 (N:Nat):q14 Tryz.prog (yz2 N):=q28 _
def q97 (N:Nat)(is_:Bool):Option q00 :=
 bif is_ then
  some (4,1,[],())
 else
  some (4,0,[],())
noncomputable def ub0 (N:Nat)(is_:Bool):Option (RT [q05]):=q24 DR Tryz.prog N (yz2 N) uf3 Tryz.f90 (q13 Tryz.f90) (RT [q05]) (qd4 [.bool] (is_,())) [] (q42 [q05])
theorem vf3 (N:Nat)(is_:Bool):ub0 N is_=q97 N is_:=by kernel_rfl
def xx4 (m:Bool→Option q00):Ent:=q37 [.bool] [q05] fun (x:Els [.bool])=>m x.1
def qd0 (N:Nat):Ent:=xx4 (q97 N)
theorem qb9 (N:Nat):q17 Tryz.prog 90 (qd0 N):=q16 (vt4 N) Tryz.func90 rfl (by kernel_rfl) fun (x:Els [.bool])=>vf3 N x.1
def xn8 :LH:=⟨[(2,.asis),(3,.asis),(7,.lst q05),(8,.int .i64),(9,.int .i64)],[],[.cells [.int .u8,.int .i64,.str],.cells [.int .u8,.int .i64,.str]]⟩
def je0 :FH:=⟨[xn8],[],[(5,⟨2,25,0,[],[]⟩)],[],false,[],[]⟩
noncomputable def yk6 (N:Nat):q49:=tab [(90,qd0 N)]
theorem k42 (N:Nat):q14 Tryz.prog (yk6 N):=q06 (qb9 N) <| q28 _
noncomputable def xv2 :Sc:=wm4 Tryz.prog je0
noncomputable def xn5 (N:Nat):Cfg:=⟨N,yk6 N,0⟩
noncomputable def uc7 (N:Nat):Exit→List TV→List TOb→Option q00:=fin Tryz.prog 0 Tryz.f78.results.toList (q42 [q05])
def jr7 (l:List q00)(t8 qe3 x71:Int)(yv9:List UInt8)(e:Int×Int×Int×List UInt8):List TV:=match e with
 | (t9,out_Kind,out_N,out_S)=>frm 25 [(2,.ref 0 0),(3,.ref 1 0),(7,.tl q05 l .unk),(8,.int .i64 t8),(9,.int .i64 t9)]
def y44 (l:List q00)(t8 qe3 x71:Int)(yv9:List UInt8)(e:Int×Int×Int×List UInt8):List TOb:=match e with
 | (t9,out_Kind,out_N,out_S)=>[.cells [.int .u8 qe3,.int .i64 x71,.str yv9] 26 true,.cells [.int .u8 out_Kind,.int .i64 out_N,.str out_S] 26 true]
noncomputable def xm9 (N:Nat):(List TV→List TOb→Option q00)→List TV→List TOb→Option q00:=w66 DR xv2 (xn5 N) (qm3 (qc6 (q08 (q88 (q08 (q08 (q13 Tryz.f78))))))) xn8 (je0.loops.drop 1) (qj9 0 (qc5 DR xv2 (xn5 N) (q08 (q08 (q08 (q13 Tryz.f78)))) (je0.loops.drop 1) (uc7 N)))
def ww6 (N:Nat)(l:List q00)(t8 qe3 x71:Int)(yv9:List UInt8)(K0:(Int×Int×Int×List UInt8)→Option q00)(e:Int×Int×Int×List UInt8):Option q00 :=
 match e with
 | (t9,out_Kind,out_N,out_S) =>
  bif decide (t9 < t8) then
   bif inR t9 l.length then
   (q97 N false).bind fun r1 =>
   bif ((((q25 l t9 q30).1) == r1.1) && ((((q25 l t9 q30).2.1) == r1.2.1) && ((((q25 l t9 q30).2.2.1) == r1.2.2.1) && true))) then
    some (q25 l t9 q30)
   else
    bif (((q25 l t9 q30).1) != 4) then
     bif q27 (t9 + 1) then
     K0 (t9 + 1,0,0,[])
     else none
    else
     bif q27 (t9 + 1) then
     K0 (t9 + 1,out_Kind,out_N,out_S)
     else none
   else none
  else
   some (out_Kind,out_N,out_S,())
theorem us2 (N:Nat)(l:List q00)(t8 qe3 x71:Int)(yv9:List UInt8)(n_:Nat)(e:Int×Int×Int×List UInt8):q58 (xm9 N ) n_ ((jr7 l t8 qe3 x71 yv9) e) ((y44 l t8 qe3 x71 yv9) e)=q87 (ww6 N l t8 qe3 x71 yv9 ) n_ e :=
 q41 (jr7 l t8 qe3 x71 yv9) (y44 l t8 qe3 x71 yv9) (by intro K e; obtain ⟨t9,out_Kind,out_N,out_S⟩:=e; kernel_rfl) n_ e
def yp8 (N:Nat)(l:List q00)(l1:(List q00)→Int→Int→Int→(List UInt8)→(Int×Int×Int×List UInt8)→Option q00):Option q00 :=
 (q97 N true).bind fun r =>
 l1 l (l.length:Int) 0 0 [] (0,r.1,r.2.1,r.2.2.1)
def wl5 (N:Nat)(l:List q00):Option q00:=yp8 N l (fun l t8 qe3 x71 yv9 e=>q87 (ww6 N l t8 qe3 x71 yv9) N e)
noncomputable def vm1 (N:Nat)(l:List q00):Option (RT [q05]):=q24 DR Tryz.prog N (yk6 N) je0 Tryz.f78 (q13 Tryz.f78) (RT [q05]) (qd4 [(.list q05)] (l,())) [] (q42 [q05])
theorem uc4 (N:Nat)(l:List q00):vm1 N l=wl5 N l:=by
 have h:vm1 N l=yp8 N l (fun l t8 qe3 x71 yv9 e=>q58 (xm9 N ) N (jr7 l t8 qe3 x71 yv9 e) (y44 l t8 qe3 x71 yv9 e)):=by kernel_rfl
 rw [h]
 simp only [wl5,us2] <;> rfl
def vw4 (m:(List q00)→Option q00):Ent:=q37 [(.list q05)] [q05] fun (x:Els [(.list q05)])=>m x.1
def j95 (N:Nat):Ent:=vw4 (wl5 N)
theorem y32 (N:Nat):q17 Tryz.prog 78 (j95 N):=q16 (k42 N) Tryz.func78 rfl (by kernel_rfl) fun (x:Els [(.list q05)])=>uc4 N x.1
def xz0 :FH:=⟨[],[],[],[],false,[],[]⟩
noncomputable def jj4 (N:Nat):q49:=tab [(80,ql0 N),(78,j95 N)]
theorem xg0 (N:Nat):q14 Tryz.prog (jj4 N):=q06 (qp2 N) <| q06 (y32 N) <| q28 _
def wb3 (N:Nat)(k:q34)(ends:Int):Option q03 :=
 (q84 N k 0).bind fun r =>
 bif (r.2.1 != 0) then
  some r
 else
  bif (r.1.1 == 4) then
   bif (r.1.2.1 == ends) then
    some r
   else
    (q84 N k 1).bind fun r1 =>
    bif (r1.2.1 != 0) then
     some r1
    else
     (wl5 N ([r.1,r1.1]:List q00)).bind fun r2 =>
     some (r2,0,())
  else
   (q84 N k 1).bind fun r3 =>
   bif (r3.2.1 != 0) then
    some r3
   else
    (wl5 N ([r.1,r3.1]:List q00)).bind fun r4 =>
    some (r4,0,())
abbrev j17 :List PK:=[.val q66,.val (.int .i64),.fn 78 0]
noncomputable def v07 (N:Nat)(k:q34)(ends:Int):Option (RT [q07]):=q24 DR Tryz.prog N (jj4 N) xz0 Tryz.f77 (q13 Tryz.f77) (RT [q07]) (qy6 j17 (k,ends,())) [] (q42 [q07])
theorem x19 (N:Nat)(k:q34)(ends:Int):v07 N k ends=wb3 N k ends:=by kernel_rfl
def yt7 (m:q34→Int→Option q03):Ent:=qf3 j17 [q07] fun (x:Els [q66,(.int .i64)])=>m x.1 x.2.1
def zs0 (N:Nat):Ent:=yt7 (wb3 N)
theorem yb6 (N:Nat):q17 Tryz.prog 77 (zs0 N):=q52 (xg0 N) Tryz.func77 rfl (by kernel_rfl) (by kernel_rfl) fun (x:Els [q66,(.int .i64)])=>x19 N x.1 x.2.1
def kb4 :FH:=⟨[],[],[],[],false,[],[]⟩
noncomputable def vo1 (N:Nat):q49:=tab [(90,qd0 N)]
theorem k13 (N:Nat):q14 Tryz.prog (vo1 N):=q06 (qb9 N) <| q28 _
def zk2 (N:Nat)(a:q00):Option q00 :=
 bif (a.1 != 4) then
  some (0,0,[],())
 else
  (q97 N (a.2.1 == 0)).bind fun r =>
  some r
noncomputable def k85 (N:Nat)(a:q00):Option (RT [q05]):=q24 DR Tryz.prog N (vo1 N) kb4 Tryz.f81 (q13 Tryz.f81) (RT [q05]) (qd4 [q05] (a,())) [] (q42 [q05])
theorem ua3 (N:Nat)(a:q00):k85 N a=zk2 N a:=by kernel_rfl
def vt3 (m:q00→Option q00):Ent:=q37 [q05] [q05] fun (x:Els [q05])=>m x.1
def j91 (N:Nat):Ent:=vt3 (zk2 N)
theorem jz8 (N:Nat):q17 Tryz.prog 81 (j91 N):=q16 (k13 N) Tryz.func81 rfl (by kernel_rfl) fun (x:Els [q05])=>ua3 N x.1
def xs6 :LH:=⟨[(2,.asis),(3,.own q05 503 26 3),(6,.lst q05),(7,.int .i64),(8,.int .i64)],[],[.cells [.int .u8,.int .i64,.str]]⟩
def jd0 :FH:=⟨[xs6],[],[],[],false,[],[]⟩
noncomputable def ym2 (N:Nat):q49:=tab [(81,j91 N),(78,j95 N)]
theorem uw3 (N:Nat):q14 Tryz.prog (ym2 N):=q06 (jz8 N) <| q06 (y32 N) <| q28 _
noncomputable def xr1 :Sc:=wm4 Tryz.prog jd0
noncomputable def xt3 (N:Nat):Cfg:=⟨N,ym2 N,0⟩
noncomputable def uh3 (N:Nat):Exit→List TV→List TOb→Option q00:=fin Tryz.prog 0 Tryz.f79.results.toList (q42 [q05])
def js9 (l:List q00)(t7 qe3 x71:Int)(yv9:List UInt8)(e:List q00×Int):List TV:=match e with
 | (others,t8)=>frm 21 [(2,.ref 0 0),(3,.tl q05 others (.own 503 26 3)),(6,.tl q05 l .unk),(7,.int .i64 t7),(8,.int .i64 t8)]
def y72 (l:List q00)(t7 qe3 x71:Int)(yv9:List UInt8)(e:List q00×Int):List TOb:=match e with
 | (others,t8)=>[.cells [.int .u8 qe3,.int .i64 x71,.str yv9] 26 true]
noncomputable def xs0 (N:Nat):(List TV→List TOb→Option q00)→List TV→List TOb→Option q00:=w66 DR xr1 (xt3 N) (qm3 (qc6 (q08 (q88 (q08 (q08 (q13 Tryz.f79))))))) xs6 (jd0.loops.drop 1) (qj9 0 (qc5 DR xr1 (xt3 N) (q08 (q08 (q08 (q13 Tryz.f79)))) (jd0.loops.drop 1) (uh3 N)))
def wv6 (N:Nat)(l:List q00)(t7 qe3 x71:Int)(yv9:List UInt8)(K0:(List q00×Int)→Option q00)(e:List q00×Int):Option q00 :=
 match e with
 | (others,t8) =>
  bif decide (t8 < t7) then
   bif inR t8 l.length then
   (zk2 N (q25 l t8 q30)).bind fun r =>
   bif w33 (others.length + ([r]:List q00).length) 4398046511104 then
   bif q27 (t8 + 1) then
   K0 ((others ++ ([r]:List q00)),t8 + 1)
   else none
   else none
   else none
  else
   (wl5 N others).bind fun r1 =>
   (zk2 N r1).bind fun r2 =>
   some r2
theorem uu9 (N:Nat)(l:List q00)(t7 qe3 x71:Int)(yv9:List UInt8)(n_:Nat)(e:List q00×Int):q58 (xs0 N ) n_ ((js9 l t7 qe3 x71 yv9) e) ((y72 l t7 qe3 x71 yv9) e)=q87 (wv6 N l t7 qe3 x71 yv9 ) n_ e :=
 q41 (js9 l t7 qe3 x71 yv9) (y72 l t7 qe3 x71 yv9) (by intro K e; obtain ⟨others,t8⟩:=e; kernel_rfl) n_ e
def yp9 (N:Nat)(l:List q00)(l1:(List q00)→Int→Int→Int→(List UInt8)→(List q00×Int)→Option q00):Option q00 :=
 l1 l (l.length:Int) 0 0 [] ([],0)
def z10 (N:Nat)(l:List q00):Option q00:=yp9 N l (fun l t7 qe3 x71 yv9 e=>q87 (wv6 N l t7 qe3 x71 yv9) N e)
noncomputable def ve5 (N:Nat)(l:List q00):Option (RT [q05]):=q24 DR Tryz.prog N (ym2 N) jd0 Tryz.f79 (q13 Tryz.f79) (RT [q05]) (qd4 [(.list q05)] (l,())) [] (q42 [q05])
theorem um5 (N:Nat)(l:List q00):ve5 N l=z10 N l:=by
 have h:ve5 N l=yp9 N l (fun l t7 qe3 x71 yv9 e=>q58 (xs0 N ) N (js9 l t7 qe3 x71 yv9 e) (y72 l t7 qe3 x71 yv9 e)):=by kernel_rfl
 rw [h]
 simp only [z10,uu9] <;> rfl
def vv7 (m:(List q00)→Option q00):Ent:=q37 [(.list q05)] [q05] fun (x:Els [(.list q05)])=>m x.1
def x61 (N:Nat):Ent:=vv7 (z10 N)
theorem vj9 (N:Nat):q17 Tryz.prog 79 (x61 N):=q16 (uw3 N) Tryz.func79 rfl (by kernel_rfl) fun (x:Els [(.list q05)])=>um5 N x.1
def yr9 :FH:=⟨[],[],[],[],false,[],[]⟩
noncomputable def zj1 (N:Nat):q49:=tab [(80,ql0 N),(79,x61 N)]
theorem yc0 (N:Nat):q14 Tryz.prog (zj1 N):=q06 (qp2 N) <| q06 (vj9 N) <| q28 _
def qs1 (N:Nat)(k:q34)(ends:Int):Option q03 :=
 (q84 N k 0).bind fun r =>
 bif (r.2.1 != 0) then
  some r
 else
  bif (r.1.1 == 4) then
   bif (r.1.2.1 == ends) then
    some r
   else
    (q84 N k 1).bind fun r1 =>
    bif (r1.2.1 != 0) then
     some r1
    else
     (z10 N ([r.1,r1.1]:List q00)).bind fun r2 =>
     some (r2,0,())
  else
   (q84 N k 1).bind fun r3 =>
   bif (r3.2.1 != 0) then
    some r3
   else
    (z10 N ([r.1,r3.1]:List q00)).bind fun r4 =>
    some (r4,0,())
abbrev z96 :List PK:=[.val q66,.val (.int .i64),.fn 79 0]
noncomputable def ys4 (N:Nat)(k:q34)(ends:Int):Option (RT [q07]):=q24 DR Tryz.prog N (zj1 N) yr9 Tryz.f77 (q13 Tryz.f77) (RT [q07]) (qy6 z96 (k,ends,())) [] (q42 [q07])
theorem y42 (N:Nat)(k:q34)(ends:Int):ys4 N k ends=qs1 N k ends:=by kernel_rfl
def jp0 (m:q34→Int→Option q03):Ent:=qf3 z96 [q07] fun (x:Els [q66,(.int .i64)])=>m x.1 x.2.1
def wx3 (N:Nat):Ent:=jp0 (qs1 N)
theorem je1 (N:Nat):q17 Tryz.prog 77 (wx3 N):=q52 (yc0 N) Tryz.func77 rfl (by kernel_rfl) (by kernel_rfl) fun (x:Els [q66,(.int .i64)])=>y42 N x.1 x.2.1
def xz8 :FH:=⟨[],[],[],[],false,[],[]⟩
noncomputable def ji6 (N:Nat):q49:=tab []
theorem xg1 (N:Nat):q14 Tryz.prog (ji6 N):=q28 _
def q72 (N:Nat)(v:q00):Option Bool :=
 bif (v.1 == 1) then
  some true
 else
  some (v.1 == 2)
noncomputable def xy1 (N:Nat)(v:q00):Option (RT [.bool]):=q24 DR Tryz.prog N (ji6 N) xz8 Tryz.f211 (q13 Tryz.f211) (RT [.bool]) (qd4 [q05] (v,())) [] (q42 [.bool])
theorem yy2 (N:Nat)(v:q00):xy1 N v=q72 N v:=by kernel_rfl
def yp3 (m:q00→Option Bool):Ent:=q37 [q05] [.bool] fun (x:Els [q05])=>m x.1
def wj3 (N:Nat):Ent:=yp3 (q72 N)
theorem zc7 (N:Nat):q17 Tryz.prog 211 (wj3 N):=q16 (xg1 N) Tryz.func211 rfl (by kernel_rfl) fun (x:Els [q05])=>yy2 N x.1
def k05 :FH:=⟨[],[],[],[],false,[],[]⟩
noncomputable def xr5 (N:Nat):q49:=tab []
theorem uj0 (N:Nat):q14 Tryz.prog (xr5 N):=q28 _
def qy3 (N:Nat)(x y:Int):Option (Int×Int×Unit) :=
 some ((IntKind.u64.wrap ((IntKind.u64.wrap ((IntKind.u64.wrap ((qm5 .u64 x (32:Int)) * (qm5 .u64 y (32:Int)))) + (qm5 .u64 (IntKind.u64.wrap ((IntKind.u64.wrap ((qm5 .u64 x (32:Int)) * (z43 .and .u64 y 4294967295))) + (qm5 .u64 (IntKind.u64.wrap ((z43 .and .u64 x 4294967295) * (z43 .and .u64 y 4294967295))) (32:Int)))) (32:Int)))) + (qm5 .u64 (IntKind.u64.wrap ((z43 .and .u64 (IntKind.u64.wrap ((IntKind.u64.wrap ((qm5 .u64 x (32:Int)) * (z43 .and .u64 y 4294967295))) + (qm5 .u64 (IntKind.u64.wrap ((z43 .and .u64 x 4294967295) * (z43 .and .u64 y 4294967295))) (32:Int)))) 4294967295) + (IntKind.u64.wrap ((z43 .and .u64 x 4294967295) * (qm5 .u64 y (32:Int)))))) (32:Int)))),(IntKind.u64.wrap (x * y)),())
noncomputable def un6 (N:Nat)(x y:Int):Option (RT [(.int .u64),(.int .u64)]):=q24 DR Tryz.prog N (xr5 N) k05 Tryz.f219 (q13 Tryz.f219) (RT [(.int .u64),(.int .u64)]) (qd4 [(.int .u64),(.int .u64)] (x,y,())) [] (q42 [(.int .u64),(.int .u64)])
theorem vs8 (N:Nat)(x y:Int):un6 N x y=qy3 N x y:=by kernel_rfl
def v47 (m:Int→Int→Option (Int×Int×Unit)):Ent:=q37 [(.int .u64),(.int .u64)] [(.int .u64),(.int .u64)] fun (x:Els [(.int .u64),(.int .u64)])=>m x.1 x.2.1
def wu2 (N:Nat):Ent:=v47 (qy3 N)
theorem z42 (N:Nat):q17 Tryz.prog 219 (wu2 N):=q16 (uj0 N) Tryz.func219 rfl (by kernel_rfl) fun (x:Els [(.int .u64),(.int .u64)])=>vs8 N x.1 x.2.1
def uc8 :FH:=⟨[],[],[],[],false,[],[]⟩
noncomputable def yv7 (N:Nat):q49:=tab [(219,wu2 N)]
theorem vw3 (N:Nat):q14 Tryz.prog (yv7 N):=q06 (z42 N) <| q28 _
def wp1 (N:Nat)(v:q00):Option (Bool×Int×Int×Unit) :=
 bif decide (v.2.1 < 0) then
  bif (v.1 == 1) then
   (qy3 N (IntKind.u64.wrap (0 - (IntKind.u64.wrap v.2.1))) 10000).bind fun r =>
   some (decide (v.2.1 < 0),r.1,r.2.1,())
  else
   (qy3 N (IntKind.u64.wrap (0 - (IntKind.u64.wrap v.2.1))) 1).bind fun r1 =>
   some (decide (v.2.1 < 0),r1.1,r1.2.1,())
 else
  bif (v.1 == 1) then
   (qy3 N (IntKind.u64.wrap v.2.1) 10000).bind fun r2 =>
   some (decide (v.2.1 < 0),r2.1,r2.2.1,())
  else
   (qy3 N (IntKind.u64.wrap v.2.1) 1).bind fun r3 =>
   some (decide (v.2.1 < 0),r3.1,r3.2.1,())
noncomputable def um6 (N:Nat)(v:q00):Option (RT [.bool,(.int .u64),(.int .u64)]):=q24 DR Tryz.prog N (yv7 N) uc8 Tryz.f212 (q13 Tryz.f212) (RT [.bool,(.int .u64),(.int .u64)]) (qd4 [q05] (v,())) [] (q42 [.bool,(.int .u64),(.int .u64)])
theorem vn0 (N:Nat)(v:q00):um6 N v=wp1 N v:=by kernel_rfl
def xy3 (m:q00→Option (Bool×Int×Int×Unit)):Ent:=q37 [q05] [.bool,(.int .u64),(.int .u64)] fun (x:Els [q05])=>m x.1
def jx4 (N:Nat):Ent:=xy3 (wp1 N)
theorem xh4 (N:Nat):q17 Tryz.prog 212 (jx4 N):=q16 (vw3 N) Tryz.func212 rfl (by kernel_rfl) fun (x:Els [q05])=>vn0 N x.1
def x58 :FH:=⟨[],[],[],[],false,[],[]⟩
noncomputable def zr8 (N:Nat):q49:=tab []
theorem yr5 (N:Nat):q14 Tryz.prog (zr8 N):=q28 _
def qw9 (N:Nat)(x:Int):Option Bool :=
 some (x != x)
noncomputable def x67 (N:Nat)(x:Int):Option (RT [.bool]):=q24 DR Tryz.prog N (zr8 N) x58 Tryz.f250 (q13 Tryz.f250) (RT [.bool]) (qd4 [(.int .u64)] (x,())) [] (q42 [.bool])
theorem yd5 (N:Nat)(x:Int):x67 N x=qw9 N x:=by kernel_rfl
def y14 (m:Int→Option Bool):Ent:=q37 [(.int .u64)] [.bool] fun (x:Els [(.int .u64)])=>m x.1
def z80 (N:Nat):Ent:=y14 (qw9 N)
theorem jm7 (N:Nat):q17 Tryz.prog 250 (z80 N):=q16 (yr5 N) Tryz.func250 rfl (by kernel_rfl) fun (x:Els [(.int .u64)])=>yd5 N x.1
def ya8 :FH:=⟨[],[],[],[],false,[],[]⟩
noncomputable def za8 (N:Nat):q49:=tab [(250,z80 N)]
theorem y56 (N:Nat):q14 Tryz.prog (za8 N):=q06 (jm7 N) <| q28 _
def qh7 (N:Nat)(x y:Int):Option Int :=
 (qw9 N x).bind fun r =>
 (qw9 N y).bind fun r1 =>
 bif r then
  bif r1 then
   some 0
  else
   some (-1)
 else
  bif r1 then
   some 1
  else
   bif decide (x < y) then
    some (-1)
   else
    bif decide (x > y) then
     some 1
    else
     some 0
noncomputable def yg7 (N:Nat)(x y:Int):Option (RT [(.int .i64)]):=q24 DR Tryz.prog N (za8 N) ya8 Tryz.f214 (q13 Tryz.f214) (RT [(.int .i64)]) (qd4 [(.int .u64),(.int .u64)] (x,y,())) [] (q42 [(.int .i64)])
theorem jo2 (N:Nat)(x y:Int):yg7 N x y=qh7 N x y:=by kernel_rfl
def je6 (m:Int→Int→Option Int):Ent:=q37 [(.int .u64),(.int .u64)] [(.int .i64)] fun (x:Els [(.int .u64),(.int .u64)])=>m x.1 x.2.1
def wn1 (N:Nat):Ent:=je6 (qh7 N)
theorem j23 (N:Nat):q17 Tryz.prog 214 (wn1 N):=q16 (y56 N) Tryz.func214 rfl (by kernel_rfl) fun (x:Els [(.int .u64),(.int .u64)])=>jo2 N x.1 x.2.1
def x10 :LH:=⟨[(3,.int .i64),(6,.lst (.int .i64)),(7,.int .i64),(8,.int .i64)],[],[]⟩
def zs6 :FH:=⟨[x10],[],[],[],false,[],[]⟩
noncomputable def js3 (N:Nat):q49:=tab []
theorem uf7 (N:Nat):q14 Tryz.prog (js3 N):=q28 _
noncomputable def x60 :Sc:=wm4 Tryz.prog zs6
noncomputable def x13 (N:Nat):Cfg:=⟨N,js3 N,0⟩
noncomputable def vv3 (N:Nat):Exit→List TV→List TOb→Option Int:=fin Tryz.prog 0 Tryz.f213.results.toList (q42 [(.int .i64)])
def jb4 (zero:Int)(vals:List Int)(t7 e:Int):List TV:=match e with
 | t8=>frm 18 [(3,.int .i64 zero),(6,.tl (.int .i64) vals .unk),(7,.int .i64 t7),(8,.int .i64 t8)]
def ja2 (zero:Int)(vals:List Int)(t7 e:Int):List TOb:=match e with
 | t8=>[]
noncomputable def yx0 (N:Nat):(List TV→List TOb→Option Int)→List TV→List TOb→Option Int:=w66 DR x60 (x13 N) (qm3 (qc6 (q08 (q88 (q08 (q08 (q13 Tryz.f213))))))) x10 (zs6.loops.drop 1) (qj9 0 (qc5 DR x60 (x13 N) (q08 (q08 (q08 (q13 Tryz.f213)))) (zs6.loops.drop 1) (vv3 N)))
def qw0 (N:Nat)(zero:Int)(vals:List Int)(t7:Int)(K0:Int→Option Int)(e:Int):Option Int :=
 match e with
 | t8 =>
  bif decide (t8 < t7) then
   bif inR t8 vals.length then
   bif ((q25 vals t8 0) != zero) then
    some (q25 vals t8 0)
   else
    bif q27 (t8 + 1) then
    K0 (t8 + 1)
    else none
   else none
  else
   some zero
theorem ui3 (N:Nat)(zero:Int)(vals:List Int)(t7:Int)(n_:Nat)(e:Int):q58 (yx0 N ) n_ ((jb4 zero vals t7) e) ((ja2 zero vals t7) e)=q87 (qw0 N zero vals t7 ) n_ e :=
 q41 (jb4 zero vals t7) (ja2 zero vals t7) (by intro K e; kernel_rfl) n_ e
def zs2 (N:Nat)(vals:List Int)(l1:Int→(List Int)→Int→Int→Option Int):Option Int :=
 l1 0 vals (vals.length:Int) 0
def w52 (N:Nat)(vals:List Int):Option Int:=zs2 N vals (fun zero vals t7 e=>q87 (qw0 N zero vals t7) N e)
noncomputable def xn3 (N:Nat)(vals:List Int):Option (RT [(.int .i64)]):=q24 DR Tryz.prog N (js3 N) zs6 Tryz.f213 (q13 Tryz.f213) (RT [(.int .i64)]) (qd4 [(.list (.int .i64))] (vals,())) [] (q42 [(.int .i64)])
theorem vu6 (N:Nat)(vals:List Int):xn3 N vals=w52 N vals:=by
 have h:xn3 N vals=zs2 N vals (fun zero vals t7 e=>q58 (yx0 N ) N (jb4 zero vals t7 e) (ja2 zero vals t7 e)):=by kernel_rfl
 rw [h]
 simp only [w52,ui3] <;> rfl
def v61 (m:(List Int)→Option Int):Ent:=q37 [(.list (.int .i64))] [(.int .i64)] fun (x:Els [(.list (.int .i64))])=>m x.1
def zx1 (N:Nat):Ent:=v61 (w52 N)
theorem jk8 (N:Nat):q17 Tryz.prog 213 (zx1 N):=q16 (uf7 N) Tryz.func213 rfl (by kernel_rfl) fun (x:Els [(.list (.int .i64))])=>vu6 N x.1
def xm4 :FH:=⟨[],[],[],[],false,[],[]⟩
noncomputable def zy2 (N:Nat):q49:=tab []
theorem x84 (N:Nat):q14 Tryz.prog (zy2 N):=q28 _
def w00 (N:Nat)(x:Int):Option Bool :=
 some (x != x)
noncomputable def xk7 (N:Nat)(x:Int):Option (RT [.bool]):=q24 DR Tryz.prog N (zy2 N) xm4 Tryz.f279 (q13 Tryz.f279) (RT [.bool]) (qd4 [(.int .u8)] (x,())) [] (q42 [.bool])
theorem yk4 (N:Nat)(x:Int):xk7 N x=w00 N x:=by kernel_rfl
def yb5 (m:Int→Option Bool):Ent:=q37 [(.int .u8)] [.bool] fun (x:Els [(.int .u8)])=>m x.1
def zo6 (N:Nat):Ent:=yb5 (w00 N)
theorem jw6 (N:Nat):q17 Tryz.prog 279 (zo6 N):=q16 (x84 N) Tryz.func279 rfl (by kernel_rfl) fun (x:Els [(.int .u8)])=>yk4 N x.1
def ym4 :FH:=⟨[],[],[],[],false,[],[]⟩
noncomputable def zl6 (N:Nat):q49:=tab [(279,zo6 N)]
theorem yg0 (N:Nat):q14 Tryz.prog (zl6 N):=q06 (jw6 N) <| q28 _
def qt7 (N:Nat)(x y:Int):Option Int :=
 (w00 N x).bind fun r =>
 (w00 N y).bind fun r1 =>
 bif r then
  bif r1 then
   some 0
  else
   some (-1)
 else
  bif r1 then
   some 1
  else
   bif decide (x < y) then
    some (-1)
   else
    bif decide (x > y) then
     some 1
    else
     some 0
noncomputable def yn7 (N:Nat)(x y:Int):Option (RT [(.int .i64)]):=q24 DR Tryz.prog N (zl6 N) ym4 Tryz.f251 (q13 Tryz.f251) (RT [(.int .i64)]) (qd4 [(.int .u8),(.int .u8)] (x,y,())) [] (q42 [(.int .i64)])
theorem jw9 (N:Nat)(x y:Int):yn7 N x y=qt7 N x y:=by kernel_rfl
def jn6 (m:Int→Int→Option Int):Ent:=q37 [(.int .u8),(.int .u8)] [(.int .i64)] fun (x:Els [(.int .u8),(.int .u8)])=>m x.1 x.2.1
def z09 (N:Nat):Ent:=jn6 (qt7 N)
theorem jb1 (N:Nat):q17 Tryz.prog 251 (z09 N):=q16 (yg0 N) Tryz.func251 rfl (by kernel_rfl) fun (x:Els [(.int .u8),(.int .u8)])=>jw9 N x.1 x.2.1
def xe4 :FH:=⟨[],[],[],[],false,[],[]⟩
noncomputable def j13 (N:Nat):q49:=tab []
theorem x17 (N:Nat):q14 Tryz.prog (j13 N):=q28 _
def qz7 (N:Nat)(x:Int):Option Bool :=
 some (x != x)
noncomputable def xh2 (N:Nat)(x:Int):Option (RT [.bool]):=q24 DR Tryz.prog N (j13 N) xe4 Tryz.f260 (q13 Tryz.f260) (RT [.bool]) (qd4 [(.int .i64)] (x,())) [] (q42 [.bool])
theorem yp0 (N:Nat)(x:Int):xh2 N x=qz7 N x:=by kernel_rfl
def yf8 (m:Int→Option Bool):Ent:=q37 [(.int .i64)] [.bool] fun (x:Els [(.int .i64)])=>m x.1
def zn2 (N:Nat):Ent:=yf8 (qz7 N)
theorem y28 (N:Nat):q17 Tryz.prog 260 (zn2 N):=q16 (x17 N) Tryz.func260 rfl (by kernel_rfl) fun (x:Els [(.int .i64)])=>yp0 N x.1
def yu2 :FH:=⟨[],[],[],[],false,[],[]⟩
noncomputable def zk0 (N:Nat):q49:=tab [(260,zn2 N)]
theorem yd4 (N:Nat):q14 Tryz.prog (zk0 N):=q06 (y28 N) <| q28 _
def qk1 (N:Nat)(x y:Int):Option Int :=
 (qz7 N x).bind fun r =>
 (qz7 N y).bind fun r1 =>
 bif r then
  bif r1 then
   some 0
  else
   some (-1)
 else
  bif r1 then
   some 1
  else
   bif decide (x < y) then
    some (-1)
   else
    bif decide (x > y) then
     some 1
    else
     some 0
noncomputable def ys2 (N:Nat)(x y:Int):Option (RT [(.int .i64)]):=q24 DR Tryz.prog N (zk0 N) yu2 Tryz.f223 (q13 Tryz.f223) (RT [(.int .i64)]) (qd4 [(.int .i64),(.int .i64)] (x,y,())) [] (q42 [(.int .i64)])
theorem jy8 (N:Nat)(x y:Int):ys2 N x y=qk1 N x y:=by kernel_rfl
def jq2 (m:Int→Int→Option Int):Ent:=q37 [(.int .i64),(.int .i64)] [(.int .i64)] fun (x:Els [(.int .i64),(.int .i64)])=>m x.1 x.2.1
def w22 (N:Nat):Ent:=jq2 (qk1 N)
theorem wm0 (N:Nat):q17 Tryz.prog 223 (w22 N):=q16 (yd4 N) Tryz.func223 rfl (by kernel_rfl) fun (x:Els [(.int .i64),(.int .i64)])=>jy8 N x.1 x.2.1
def x85 :FH:=⟨[],[],[],[],false,[],[]⟩
noncomputable def zt4 (N:Nat):q49:=tab []
theorem yq7 (N:Nat):q14 Tryz.prog (zt4 N):=q28 _
def qx0 (N:Nat)(x:List UInt8):Option Bool :=
 some (!(x == x))
noncomputable def yz9 (N:Nat)(x:List UInt8):Option (RT [.bool]):=q24 DR Tryz.prog N (zt4 N) x85 Tryz.f280 (q13 Tryz.f280) (RT [.bool]) (qd4 [.str] (x,())) [] (q42 [.bool])
theorem ye4 (N:Nat)(x:List UInt8):yz9 N x=qx0 N x:=by kernel_rfl
def js2 (m:(List UInt8)→Option Bool):Ent:=q37 [.str] [.bool] fun (x:Els [.str])=>m x.1
def ze2 (N:Nat):Ent:=js2 (qx0 N)
theorem jl0 (N:Nat):q17 Tryz.prog 280 (ze2 N):=q16 (yq7 N) Tryz.func280 rfl (by kernel_rfl) fun (x:Els [.str])=>ye4 N x.1
def yf3 :FH:=⟨[],[],[],[],false,[],[]⟩
noncomputable def z78 (N:Nat):q49:=tab [(280,ze2 N)]
theorem jy5 (N:Nat):q14 Tryz.prog (z78 N):=q06 (jl0 N) <| q28 _
def qo2 (N:Nat)(x y:List UInt8):Option Int :=
 (qx0 N x).bind fun r =>
 (qx0 N y).bind fun r1 =>
 bif r then
  bif r1 then
   some 0
  else
   some (-1)
 else
  bif r1 then
   some 1
  else
   bif (Op.bytesLess x y) then
    some (-1)
   else
    bif (!(Op.bytesLess x y || x == y)) then
     some 1
    else
     some 0
noncomputable def yb8 (N:Nat)(x y:List UInt8):Option (RT [(.int .i64)]):=q24 DR Tryz.prog N (z78 N) yf3 Tryz.f252 (q13 Tryz.f252) (RT [(.int .i64)]) (qd4 [.str,.str] (x,y,())) [] (q42 [(.int .i64)])
theorem jp6 (N:Nat)(x y:List UInt8):yb8 N x y=qo2 N x y:=by kernel_rfl
def ja3 (m:(List UInt8)→(List UInt8)→Option Int):Ent:=q37 [.str,.str] [(.int .i64)] fun (x:Els [.str,.str])=>m x.1 x.2.1
def wn2 (N:Nat):Ent:=ja3 (qo2 N)
theorem j36 (N:Nat):q17 Tryz.prog 252 (wn2 N):=q16 (jy5 N) Tryz.func252 rfl (by kernel_rfl) fun (x:Els [.str,.str])=>jp6 N x.1 x.2.1
def ud4 :FH:=⟨[],[],[(1,⟨14,22,0,[],[]⟩)],[],false,[],[]⟩
noncomputable def yy5 (N:Nat):q49:=tab [(251,z09 N),(223,w22 N),(252,wn2 N),(213,zx1 N)]
theorem vw9 (N:Nat):q14 Tryz.prog (yy5 N):=q06 (jb1 N) <| q06 (wm0 N) <| q06 (j36 N) <| q06 (jk8 N) <| q28 _
def wp9 (N:Nat)(a b:q00):Option Int :=
 (qt7 N a.1 b.1).bind fun r =>
 (qk1 N a.2.1 b.2.1).bind fun r1 =>
 (qo2 N a.2.2.1 b.2.2.1).bind fun r2 =>
 (w52 N [r,r1,r2]).bind fun r3 =>
 some r3
noncomputable def uk6 (N:Nat)(a b:q00):Option (RT [(.int .i64)]):=q24 DR Tryz.prog N (yy5 N) ud4 Tryz.f215 (q13 Tryz.f215) (RT [(.int .i64)]) (qd4 [q05,q05] (a,b,())) [] (q42 [(.int .i64)])
theorem v90 (N:Nat)(a b:q00):uk6 N a b=wp9 N a b:=by kernel_rfl
def xz9 (m:q00→q00→Option Int):Ent:=q37 [q05,q05] [(.int .i64)] fun (x:Els [q05,q05])=>m x.1 x.2.1
def jv1 (N:Nat):Ent:=xz9 (wp9 N)
theorem xc1 (N:Nat):q17 Tryz.prog 215 (jv1 N):=q16 (vw9 N) Tryz.func215 rfl (by kernel_rfl) fun (x:Els [q05,q05])=>v90 N x.1 x.2.1
def wi8 :FH:=⟨[],[],[],[],false,[],[(12,⟨[(2,.asis),(3,.asis)],[],[.cells [.int .u8,.int .i64,.str],.cells [.int .u8,.int .i64,.str]]⟩)]⟩
noncomputable def zp0 (N:Nat):q49:=tab [(211,wj3 N),(212,jx4 N),(214,wn1 N),(213,zx1 N),(215,jv1 N)]
theorem xy4 (N:Nat):q14 Tryz.prog (zp0 N):=q06 (zc7 N) <| q06 (xh4 N) <| q06 (j23 N) <| q06 (jk8 N) <| q06 (xc1 N) <| q28 _
noncomputable def z58 :Sc:=wm4 Tryz.prog wi8
noncomputable def z41 (N:Nat):Cfg:=⟨N,zp0 N,0⟩
noncomputable def xl7 (N:Nat):Exit→List TV→List TOb→Option (Int×Bool×Unit):=fin Tryz.prog 0 Tryz.f155.results.toList (q42 [(.int .i64),.bool])
def jj5 (zb6 a_N:Int)(a_S:List UInt8)(zr3 b_N:Int)(b_S:List UInt8)(e:Unit):List TV:=frm 65 [(2,.ref 0 0),(3,.ref 1 0)]
def jk2 (zb6 a_N:Int)(a_S:List UInt8)(zr3 b_N:Int)(b_S:List UInt8)(e:Unit):List TOb:=[.cells [.int .u8 zb6,.int .i64 a_N,.str a_S] 26 true,.cells [.int .u8 zr3,.int .i64 b_N,.str b_S] 26 true]
noncomputable def jj2 (N:Nat):List TV→List TOb→Option (Int×Bool×Unit):=x83 DR z58 (z41 N) (q88 (q88 (q08 (q08 (q13 Tryz.f155))))) (qc5 DR z58 (z41 N) (q08 (q88 (q08 (q08 (q13 Tryz.f155))))) (wi8.loops.drop 0) (qc5 DR z58 (z41 N) (q08 (q08 (q08 (q13 Tryz.f155)))) (wi8.loops.drop 0) (xl7 N)))
def wc9 (N:Nat)(zb6 a_N:Int)(a_S:List UInt8)(zr3 b_N:Int)(b_S:List UInt8)(e:Unit):Option (Int×Bool×Unit) :=
 bif (zb6 != zr3) then
  some (0,false,())
 else
  bif decide (zb6 < 3) then
   some (0,false,())
  else
   bif decide (zb6 > 5) then
    some (0,false,())
   else
    (wp9 N (zb6,a_N,a_S,()) (zr3,b_N,b_S,())).bind fun r7 =>
    some (r7,true,())
theorem xx3 (N:Nat)(zb6 a_N:Int)(a_S:List UInt8)(zr3 b_N:Int)(b_S:List UInt8)(e:Unit):jmp N (jj2 N ) ((jj5 zb6 a_N a_S zr3 b_N b_S) e) ((jk2 zb6 a_N a_S zr3 b_N b_S) e)=at1 N (wc9 N zb6 a_N a_S zr3 b_N b_S e):=qn7 (by kernel_rfl) N
def zo2 (N:Nat)(a b:q00)(l1:Int→Int→(List UInt8)→Int→Int→(List UInt8)→Unit→Option (Int×Bool×Unit)):Option (Int×Bool×Unit) :=
 (q72 N a).bind fun r =>
 bif r then
  (q72 N b).bind fun r1 =>
  bif r1 then
   (wp1 N a).bind fun r2 =>
   (wp1 N b).bind fun r3 =>
   bif (!(r2.1 == r3.1)) then
    bif r2.1 then
     some ((-1),true,())
    else
     some (1,true,())
   else
    (qh7 N r2.2.1 r3.2.1).bind fun r4 =>
    (qh7 N r2.2.2.1 r3.2.2.1).bind fun r5 =>
    (w52 N [r4,r5]).bind fun r6 =>
    bif r2.1 then
     bif q27 (0 - r6) then
     some (0 - r6,true,())
     else none
    else
     some (r6,true,())
  else
   l1 a.1 a.2.1 a.2.2.1 b.1 b.2.1 b.2.2.1 ()
 else
  l1 a.1 a.2.1 a.2.2.1 b.1 b.2.1 b.2.2.1 ()
def q92 (N:Nat)(a b:q00):Option (Int×Bool×Unit):=zo2 N a b (fun zb6 a_N a_S zr3 b_N b_S e=>at1 N (wc9 N zb6 a_N a_S zr3 b_N b_S e))
noncomputable def y33 (N:Nat)(a b:q00):Option (RT [(.int .i64),.bool]):=q24 DR Tryz.prog N (zp0 N) wi8 Tryz.f155 (q13 Tryz.f155) (RT [(.int .i64),.bool]) (qd4 [q05,q05] (a,b,())) [] (q42 [(.int .i64),.bool])
theorem xb5 (N:Nat)(a b:q00):y33 N a b=q92 N a b:=by
 have h:y33 N a b=zo2 N a b (fun zb6 a_N a_S zr3 b_N b_S e=>jmp N (jj2 N ) (jj5 zb6 a_N a_S zr3 b_N b_S e) (jk2 zb6 a_N a_S zr3 b_N b_S e)):=by kernel_rfl
 rw [h]
 simp only [q92,xx3] <;> rfl
def x12 (m:q00→q00→Option (Int×Bool×Unit)):Ent:=q37 [q05,q05] [(.int .i64),.bool] fun (x:Els [q05,q05])=>m x.1 x.2.1
def qk3 (N:Nat):Ent:=x12 (q92 N)
theorem ql4 (N:Nat):q17 Tryz.prog 155 (qk3 N):=q16 (xy4 N) Tryz.func155 rfl (by kernel_rfl) fun (x:Els [q05,q05])=>xb5 N x.1 x.2.1
def yh5 :LH:=⟨[(5,.lst q05),(6,.int .i64),(7,.int .i64)],[],[]⟩
def zf3 :FH:=⟨[yh5],[],[],[],false,[],[]⟩
noncomputable def j86 (N:Nat):q49:=tab []
theorem vv2 (N:Nat):q14 Tryz.prog (j86 N):=q28 _
noncomputable def yi4 :Sc:=wm4 Tryz.prog zf3
noncomputable def yh2 (N:Nat):Cfg:=⟨N,j86 N,0⟩
noncomputable def vf1 (N:Nat):Exit→List TV→List TOb→Option Bool:=fin Tryz.prog 0 Tryz.f157.results.toList (q42 [.bool])
def zu7 (l:List q00)(t6 e:Int):List TV:=match e with
 | t7=>frm 15 [(5,.tl q05 l .unk),(6,.int .i64 t6),(7,.int .i64 t7)]
def zv0 (l:List q00)(t6 e:Int):List TOb:=match e with
 | t7=>[]
noncomputable def yj7 (N:Nat):(List TV→List TOb→Option Bool)→List TV→List TOb→Option Bool:=w66 DR yi4 (yh2 N) (qm3 (qc6 (q08 (q88 (q08 (q13 Tryz.f157)))))) yh5 (zf3.loops.drop 1) (qj9 0 (qc5 DR yi4 (yh2 N) (q08 (q08 (q13 Tryz.f157))) (zf3.loops.drop 1) (vf1 N)))
def zw5 (N:Nat)(l:List q00)(t6:Int)(K0:Int→Option Bool)(e:Int):Option Bool :=
 match e with
 | t7 =>
  bif decide (t7 < t6) then
   bif inR t7 l.length then
   bif (((q25 l t7 q30).1) == 0) then
    some true
   else
    bif q27 (t7 + 1) then
    K0 (t7 + 1)
    else none
   else none
  else
   some false
theorem vs7 (N:Nat)(l:List q00)(t6:Int)(n_:Nat)(e:Int):q58 (yj7 N ) n_ ((zu7 l t6) e) ((zv0 l t6) e)=q87 (zw5 N l t6 ) n_ e :=
 q41 (zu7 l t6) (zv0 l t6) (by intro K e; kernel_rfl) n_ e
def jh6 (N:Nat)(l:List q00)(l1:(List q00)→Int→Int→Option Bool):Option Bool :=
 l1 l (l.length:Int) 0
def q83 (N:Nat)(l:List q00):Option Bool:=jh6 N l (fun l t6 e=>q87 (zw5 N l t6) N e)
noncomputable def yy0 (N:Nat)(l:List q00):Option (RT [.bool]):=q24 DR Tryz.prog N (j86 N) zf3 Tryz.f157 (q13 Tryz.f157) (RT [.bool]) (qd4 [(.list q05)] (l,())) [] (q42 [.bool])
theorem vd4 (N:Nat)(l:List q00):yy0 N l=q83 N l:=by
 have h:yy0 N l=jh6 N l (fun l t6 e=>q58 (yj7 N ) N (zu7 l t6 e) (zv0 l t6 e)):=by kernel_rfl
 rw [h]
 simp only [q83,vs7] <;> rfl
def xw9 (m:(List q00)→Option Bool):Ent:=q37 [(.list q05)] [.bool] fun (x:Els [(.list q05)])=>m x.1
def qb3 (N:Nat):Ent:=xw9 (q83 N)
theorem qa7 (N:Nat):q17 Tryz.prog 157 (qb3 N):=q16 (vv2 N) Tryz.func157 rfl (by kernel_rfl) fun (x:Els [(.list q05)])=>vd4 N x.1
noncomputable def wh8 (N:Nat):q49:=tab []
theorem j11 (N:Nat):q14 Tryz.prog (wh8 N):=q28 _
noncomputable def wa9 (N:Nat):Ent:=z63 Tryz.prog N (wh8 N) ⟨[],[],[],[],false,[],[]⟩ Tryz.f156 (q13 Tryz.f156)
theorem zm9 (N:Nat):q17 Tryz.prog 156 (wa9 N):=qb4 (j11 N) Tryz.func156 rfl (by kernel_rfl)
def qf5 :FH:=⟨[],[],[(1,⟨11,53,0,[],[]⟩),(4,⟨10,53,0,[],[]⟩)],[],false,[],[(4,⟨[(0,.lst q05),(2,.asis),(4,.asis)],[],[.cells [.int .u8,.int .i64,.str,.int .i64]]⟩),(5,⟨[(0,.lst q05),(2,.asis),(4,.asis),(5,.int .i64),(6,.bool)],[],[.cells [.int .u8,.int .i64,.str,.int .i64]]⟩)]⟩
noncomputable def we3 (N:Nat):q49:=tab [(155,qk3 N),(156,wa9 N),(90,qd0 N),(157,qb3 N),(76,q93 N)]
theorem yc7 (N:Nat):q14 Tryz.prog (we3 N):=q06 (ql4 N) <| q06 (zm9 N) <| q06 (qb9 N) <| q06 (qa7 N) <| q06 (q82 N) <| q28 _
noncomputable def qe7 :Sc:=wm4 Tryz.prog qf5
noncomputable def qe6 (N:Nat):Cfg:=⟨N,we3 N,0⟩
noncomputable def wz4 (N:Nat):Exit→List TV→List TOb→Option q03:=fin Tryz.prog 0 Tryz.f154.results.toList (q42 [q07])
def zf0 (l:List q00)(c:Int)(ok t2:Bool)(e:Unit):List TV:=frm 53 [(0,.tl q05 l .unk),(2,.ep [.bool t2] 0),(4,.ref 0 0),(5,.int .i64 c),(6,.bool ok)]
def z94 (l:List q00)(c:Int)(ok t2:Bool)(e:Unit):List TOb:=[.cells [.int .u8 0,.int .i64 0,.str [],.int .i64 0] 115 true]
def z73 (l:List q00)(t2:Bool)(e:Unit):List TV:=frm 53 [(0,.tl q05 l .unk),(2,.ep [.bool t2] 0),(4,.ref 0 0)]
def z76 (l:List q00)(t2:Bool)(e:Unit):List TOb:=[.cells [.int .u8 0,.int .i64 0,.str [],.int .i64 0] 115 true]
noncomputable def z93 (N:Nat):List TV→List TOb→Option q03:=x83 DR qe7 (qe6 N) (q88 (yu6 (q08 (qc6 (q88 (q08 (q08 (q08 (q13 Tryz.f154))))))))) (qc5 DR qe7 (qe6 N) (q08 (yu6 (q08 (qc6 (q88 (q08 (q08 (q08 (q13 Tryz.f154))))))))) (qf5.loops.drop 0) (qj9 0 (qc5 DR qe7 (qe6 N) (q08 (q08 (q08 (q08 (q13 Tryz.f154))))) (qf5.loops.drop 0) (wz4 N))))
def qq8 (N:Nat)(l:List q00)(t2:Bool)(e:Unit):Option q03 :=
 bif inR 0 l.length then
 bif inR 1 l.length then
 (q97 N ((((q25 l 0 q30).1) == ((q25 l 1 q30).1)) == t2)).bind fun r1 =>
 some (r1,0,())
 else none
 else none
theorem yc5 (N:Nat)(l:List q00)(t2:Bool)(e:Unit):jmp N (z93 N ) ((z73 l t2) e) ((z76 l t2) e)=at1 N (qq8 N l t2 e):=qn7 (by kernel_rfl) N
noncomputable def zc2 (N:Nat):List TV→List TOb→Option q03:=x83 DR qe7 (qe6 N) (q88 (zh9 (q08 (qc6 (q88 (q08 (q08 (q08 (q13 Tryz.f154))))))))) (qc5 DR qe7 (qe6 N) (q08 (zh9 (q08 (qc6 (q88 (q08 (q08 (q08 (q13 Tryz.f154))))))))) (qf5.loops.drop 0) (qj9 0 (qc5 DR qe7 (qe6 N) (q08 (q08 (q08 (q08 (q13 Tryz.f154))))) (qf5.loops.drop 0) (wz4 N))))
def qq1 (N:Nat)(l:List q00)(c:Int)(ok t2:Bool)(e:Unit):Option q03 :=
 (q83 N l).bind fun r2 =>
 bif r2 then
  some ((0,0,[],()),0,())
 else
  bif (!ok) then
   (qd8 N 8).bind fun r3 =>
   some r3
  else
   (q97 N ((c == 0) == t2)).bind fun r4 =>
   some (r4,0,())
theorem yd9 (N:Nat)(l:List q00)(c:Int)(ok t2:Bool)(e:Unit):jmp N (zc2 N ) ((zf0 l c ok t2) e) ((z94 l c ok t2) e)=at1 N (qq1 N l c ok t2 e):=qn7 (by kernel_rfl) N
def we5 (N:Nat)(l:List q00)(t1:List q03)(t11:List Bool)(t2:Bool)(l1:(List q00)→Bool→Unit→Option q03)(l2:(List q00)→Int→Bool→Bool→Unit→Option q03):Option q03 :=
 bif inR 0 l.length then
 bif inR 1 l.length then
 (q92 N (q25 l 0 q30) (q25 l 1 q30)).bind fun r =>
 bif decide ((0:Int) < (t11.length:Int)) then
  bif inR 0 t11.length then
  bif (q25 t11 0 false) then
   l1 l t2 ()
  else
   bif decide ((1:Int) < (t11.length:Int)) then
    bif inR 1 t11.length then
    bif (q25 t11 1 false) then
     l1 l t2 ()
    else
     l2 l r.1 r.2.1 t2 ()
    else none
   else
    l2 l r.1 r.2.1 t2 ()
  else none
 else
  bif decide ((1:Int) < (t11.length:Int)) then
   bif inR 1 t11.length then
   bif (q25 t11 1 false) then
    l1 l t2 ()
   else
    l2 l r.1 r.2.1 t2 ()
   else none
  else
   l2 l r.1 r.2.1 t2 ()
 else none
 else none
def qg9 (N:Nat)(l:List q00)(t1:List q03)(t11:List Bool)(t2:Bool):Option q03:=we5 N l t1 t11 t2 (fun l t2 e=>at1 N (qq8 N l t2 e)) (fun l c ok t2 e=>at1 N (qq1 N l c ok t2 e))
abbrev z84 :List PK:=[.val (.list q05),.ep 2,.val (.list q07),.val (.list .bool),.ep 1,.val .bool]
noncomputable def zm1 (N:Nat)(l:List q00)(t1:List q03)(t11:List Bool)(t2:Bool):Option (RT [q07]):=q24 DR Tryz.prog N (we3 N) qf5 Tryz.f154 (q13 Tryz.f154) (RT [q07]) (qy6 z84 (l,t1,t11,t2,())) [] (q42 [q07])
theorem ju1 (N:Nat)(l:List q00)(t1:List q03)(t11:List Bool)(t2:Bool):zm1 N l t1 t11 t2=qg9 N l t1 t11 t2:=by
 have h:zm1 N l t1 t11 t2=we5 N l t1 t11 t2 (fun l t2 e=>jmp N (z93 N ) (z73 l t2 e) (z76 l t2 e)) (fun l c ok t2 e=>jmp N (zc2 N ) (zf0 l c ok t2 e) (z94 l c ok t2 e)):=by kernel_rfl
 rw [h]
 simp only [qg9,yc5,yd9] <;> rfl
def jp9 (m:(List q00)→(List q03)→(List Bool)→Bool→Option q03):Ent:=qf3 z84 [q07] fun (x:Els [(.list q05),(.list q07),(.list .bool),.bool])=>m x.1 x.2.1 x.2.2.1 x.2.2.2.1
def wx2 (N:Nat):Ent:=jp9 (qg9 N)
theorem j87 (N:Nat):q17 Tryz.prog 154 (wx2 N):=q52 (yc7 N) Tryz.func154 rfl (by kernel_rfl) (by kernel_rfl) fun (x:Els [(.list q05),(.list q07),(.list .bool),.bool])=>ju1 N x.1 x.2.1 x.2.2.1 x.2.2.2.1
def j26 :LH:=⟨[(2,.asis),(3,.asis),(6,.asis),(7,.own q05 507 26 3),(10,.int .i64),(11,.int .i64)],[],[.cells [.lst q07,.lst .bool],.cells [.int .u8,.int .i64,.str,.int .i64]]⟩
def wd1 :FH:=⟨[j26],[],[],[],false,[],[]⟩
noncomputable def z55 (N:Nat):q49:=tab [(153,q53 N),(154,wx2 N)]
theorem xi7 (N:Nat):q14 Tryz.prog (z55 N):=q06 (q50 N) <| q06 (j87 N) <| q28 _
noncomputable def j10 :Sc:=wm4 Tryz.prog wd1
noncomputable def zx3 (N:Nat):Cfg:=⟨N,z55 N,0⟩
noncomputable def x54 (N:Nat):Exit→List TV→List TOb→Option q03:=fin Tryz.prog 0 Tryz.f99.results.toList (q42 [q07])
def wp8 (n:Int)(k_l:List q03)(q09:List Bool)(q04 q21:Int)(q22:List UInt8)(q63:Int)(ye9:List q03)(q91:List Bool)(t2:Bool)(e:List q00×Int):List TV:=match e with
 | (l,t11)=>frm 30 [(2,.func (.func 154) [.ep [.tl q07 ye9 .unk,.tl .bool q91 .unk] 0,.ep [.bool t2] 0]),(3,.ref 0 0),(6,.ref 1 0),(7,.tl q05 l (.own 507 26 3)),(10,.int .i64 n),(11,.int .i64 t11)]
def wq2 (n:Int)(k_l:List q03)(q09:List Bool)(q04 q21:Int)(q22:List UInt8)(q63:Int)(ye9:List q03)(q91:List Bool)(t2:Bool)(e:List q00×Int):List TOb:=match e with
 | (l,t11)=>[.cells [.tl q07 k_l .unk,.tl .bool q09 .unk] 118 true,.cells [.int .u8 q04,.int .i64 q21,.str q22,.int .i64 q63] 115 true]
noncomputable def j45 (N:Nat):(List TV→List TOb→Option q03)→List TV→List TOb→Option q03:=w66 DR j10 (zx3 N) (qm3 (qc6 (q08 (q88 (q08 (q08 (q13 Tryz.f99))))))) j26 (wd1.loops.drop 1) (qj9 0 (qc5 DR j10 (zx3 N) (q08 (q08 (q08 (q13 Tryz.f99)))) (wd1.loops.drop 1) (x54 N)))
def wr0 (N:Nat)(n:Int)(k_l:List q03)(q09:List Bool)(q04 q21:Int)(q22:List UInt8)(q63:Int)(ye9:List q03)(q91:List Bool)(t2:Bool)(K0:(List q00×Int)→Option q03)(e:List q00×Int):Option q03 :=
 match e with
 | (l,t11) =>
  bif decide (t11 < n) then
   (q59 N (k_l,q09,()) t11).bind fun r =>
   bif (r.2.1 != 0) then
    some r
   else
    bif w33 (l.length + ([r.1]:List q00).length) 4398046511104 then
    bif q27 (t11 + 1) then
    K0 ((l ++ ([r.1]:List q00)),t11 + 1)
    else none
    else none
  else
   (qg9 N l ye9 q91 t2).bind fun r1 =>
   some r1
theorem xi5 (N:Nat)(n:Int)(k_l:List q03)(q09:List Bool)(q04 q21:Int)(q22:List UInt8)(q63:Int)(ye9:List q03)(q91:List Bool)(t2:Bool)(n_:Nat)(e:List q00×Int):q58 (j45 N ) n_ ((wp8 n k_l q09 q04 q21 q22 q63 ye9 q91 t2) e) ((wq2 n k_l q09 q04 q21 q22 q63 ye9 q91 t2) e)=q87 (wr0 N n k_l q09 q04 q21 q22 q63 ye9 q91 t2 ) n_ e :=
 q41 (wp8 n k_l q09 q04 q21 q22 q63 ye9 q91 t2) (wq2 n k_l q09 q04 q21 q22 q63 ye9 q91 t2) (by intro K e; obtain ⟨l,t11⟩:=e; kernel_rfl) n_ e
def ji9 (N:Nat)(k:q34)(n:Int)(ye9:List q03)(q91:List Bool)(t2:Bool)(l1:Int→(List q03)→(List Bool)→Int→Int→(List UInt8)→Int→(List q03)→(List Bool)→Bool→(List q00×Int)→Option q03):Option q03 :=
 l1 n k.1 k.2.1 0 0 [] 0 ye9 q91 t2 ([],0)
def wb7 (N:Nat)(k:q34)(n:Int)(ye9:List q03)(q91:List Bool)(t2:Bool):Option q03:=ji9 N k n ye9 q91 t2 (fun n k_l q09 q04 q21 q22 q63 ye9 q91 t2 e=>q87 (wr0 N n k_l q09 q04 q21 q22 q63 ye9 q91 t2) N e)
abbrev zx9 :List PK:=[.val q66,.val (.int .i64),.fn 154 2,.ep 2,.val (.list q07),.val (.list .bool),.ep 1,.val .bool]
noncomputable def jj8 (N:Nat)(k:q34)(n:Int)(ye9:List q03)(q91:List Bool)(t2:Bool):Option (RT [q07]):=q24 DR Tryz.prog N (z55 N) wd1 Tryz.f99 (q13 Tryz.f99) (RT [q07]) (qy6 zx9 (k,n,ye9,q91,t2,())) [] (q42 [q07])
theorem yv2 (N:Nat)(k:q34)(n:Int)(ye9:List q03)(q91:List Bool)(t2:Bool):jj8 N k n ye9 q91 t2=wb7 N k n ye9 q91 t2:=by
 have h:jj8 N k n ye9 q91 t2=ji9 N k n ye9 q91 t2 (fun n k_l q09 q04 q21 q22 q63 ye9 q91 t2 e=>q58 (j45 N ) N (wp8 n k_l q09 q04 q21 q22 q63 ye9 q91 t2 e) (wq2 n k_l q09 q04 q21 q22 q63 ye9 q91 t2 e)):=by kernel_rfl
 rw [h]
 simp only [wb7,xi5] <;> rfl
def yo2 (m:q34→Int→(List q03)→(List Bool)→Bool→Option q03):Ent:=qf3 zx9 [q07] fun (x:Els [q66,(.int .i64),(.list q07),(.list .bool),.bool])=>m x.1 x.2.1 x.2.2.1 x.2.2.2.1 x.2.2.2.2.1
def zq8 (N:Nat):Ent:=yo2 (wb7 N)
theorem yf0 (N:Nat):q17 Tryz.prog 99 (zq8 N):=q52 (xi7 N) Tryz.func99 rfl (by kernel_rfl) (by kernel_rfl) fun (x:Els [q66,(.int .i64),(.list q07),(.list .bool),.bool])=>yv2 N x.1 x.2.1 x.2.2.1 x.2.2.2.1 x.2.2.2.2.1
def xi9 :FH:=⟨[],[],[],[],false,[99],[]⟩
noncomputable def j19 (N:Nat):q49:=tab [(99,zq8 N)]
theorem x05 (N:Nat):q14 Tryz.prog (j19 N):=q06 (yf0 N) <| q28 _
def w21 (N:Nat)(k:q34)(as_:Bool):Option q03 :=
 (wb7 N k 2 k.1 k.2.1 as_).bind fun r =>
 some r
noncomputable def xa4 (N:Nat)(k:q34)(as_:Bool):Option (RT [q07]):=q24 DR Tryz.prog N (j19 N) xi9 Tryz.f82 (q13 Tryz.f82) (RT [q07]) (qd4 [q66,.bool] (k,as_,())) [] (q42 [q07])
theorem yr1 (N:Nat)(k:q34)(as_:Bool):xa4 N k as_=w21 N k as_:=by kernel_rfl
def yb4 (m:q34→Bool→Option q03):Ent:=q37 [q66,.bool] [q07] fun (x:Els [q66,.bool])=>m x.1 x.2.1
def zl5 (N:Nat):Ent:=yb4 (w21 N)
theorem jq8 (N:Nat):q17 Tryz.prog 82 (zl5 N):=q16 (x05 N) Tryz.func82 rfl (by kernel_rfl) fun (x:Els [q66,.bool])=>yr1 N x.1 x.2.1
def xv4 :LH:=⟨[(0,.int .u8),(1,.int .u8),(9,.lst q05),(10,.int .i64),(11,.int .i64)],[],[]⟩
def jb7 :FH:=⟨[xv4],[],[],[],false,[],[]⟩
noncomputable def yu1 (N:Nat):q49:=tab []
theorem uu4 (N:Nat):q14 Tryz.prog (yu1 N):=q28 _
noncomputable def xp4 :Sc:=wm4 Tryz.prog jb7
noncomputable def xo1 (N:Nat):Cfg:=⟨N,yu1 N,0⟩
noncomputable def um3 (N:Nat):Exit→List TV→List TOb→Option Bool:=fin Tryz.prog 0 Tryz.f159.results.toList (q42 [.bool])
def y40 (least most:Int)(l:List q00)(t10 e:Int):List TV:=match e with
 | t11=>frm 31 [(0,.int .u8 least),(1,.int .u8 most),(9,.tl q05 l .unk),(10,.int .i64 t10),(11,.int .i64 t11)]
def jw0 (least most:Int)(l:List q00)(t10 e:Int):List TOb:=match e with
 | t11=>[]
noncomputable def xu6 (N:Nat):(List TV→List TOb→Option Bool)→List TV→List TOb→Option Bool:=w66 DR xp4 (xo1 N) (qm3 (qc6 (q08 (q88 (q08 (q13 Tryz.f159)))))) xv4 (jb7.loops.drop 1) (qj9 0 (qc5 DR xp4 (xo1 N) (q08 (q08 (q13 Tryz.f159))) (jb7.loops.drop 1) (um3 N)))
def y12 (N:Nat)(least most:Int)(l:List q00)(t10:Int)(K0:Int→Option Bool)(e:Int):Option Bool :=
 match e with
 | t11 =>
  bif decide (t11 < t10) then
   bif inR t11 l.length then
   bif (((q25 l t11 q30).1) != 0) then
    bif decide (((q25 l t11 q30).1) < least) then
     some false
    else
     bif decide (((q25 l t11 q30).1) > most) then
      some false
     else
      bif q27 (t11 + 1) then
      K0 (t11 + 1)
      else none
   else
    bif q27 (t11 + 1) then
    K0 (t11 + 1)
    else none
   else none
  else
   some true
theorem ur6 (N:Nat)(least most:Int)(l:List q00)(t10:Int)(n_:Nat)(e:Int):q58 (xu6 N ) n_ ((y40 least most l t10) e) ((jw0 least most l t10) e)=q87 (y12 N least most l t10 ) n_ e :=
 q41 (y40 least most l t10) (jw0 least most l t10) (by intro K e; kernel_rfl) n_ e
def yr0 (N:Nat)(least most:Int)(l:List q00)(l1:Int→Int→(List q00)→Int→Int→Option Bool):Option Bool :=
 l1 least most l (l.length:Int) 0
def qb1 (N:Nat)(least most:Int)(l:List q00):Option Bool:=yr0 N least most l (fun least most l t10 e=>q87 (y12 N least most l t10) N e)
noncomputable def vm4 (N:Nat)(least most:Int)(l:List q00):Option (RT [.bool]):=q24 DR Tryz.prog N (yu1 N) jb7 Tryz.f159 (q13 Tryz.f159) (RT [.bool]) (qd4 [(.int .u8),(.int .u8),(.list q05)] (least,most,l,())) [] (q42 [.bool])
theorem uk3 (N:Nat)(least most:Int)(l:List q00):vm4 N least most l=qb1 N least most l:=by
 have h:vm4 N least most l=yr0 N least most l (fun least most l t10 e=>q58 (xu6 N ) N (y40 least most l t10 e) (jw0 least most l t10 e)):=by kernel_rfl
 rw [h]
 simp only [qb1,ur6] <;> rfl
def vx9 (m:Int→Int→(List q00)→Option Bool):Ent:=q37 [(.int .u8),(.int .u8),(.list q05)] [.bool] fun (x:Els [(.int .u8),(.int .u8),(.list q05)])=>m x.1 x.2.1 x.2.2.1
def qe5 (N:Nat):Ent:=vx9 (qb1 N)
theorem qc9 (N:Nat):q17 Tryz.prog 159 (qe5 N):=q16 (uu4 N) Tryz.func159 rfl (by kernel_rfl) fun (x:Els [(.int .u8),(.int .u8),(.list q05)])=>uk3 N x.1 x.2.1 x.2.2.1
def vh5 :FH:=⟨[],[],[],[],false,[],[]⟩
noncomputable def y59 (N:Nat):q49:=tab []
theorem xv8 (N:Nat):q14 Tryz.prog (y59 N):=q28 _
def wk3 (N:Nat)(c:Int):Option Bool :=
 some (decide (c < 0))
noncomputable def vb1 (N:Nat)(c:Int):Option (RT [.bool]):=q24 DR Tryz.prog N (y59 N) vh5 Tryz.f84 (q13 Tryz.f84) (RT [.bool]) (qd4 [(.int .i64)] (c,())) [] (q42 [.bool])
theorem xe1 (N:Nat)(c:Int):vb1 N c=wk3 N c:=by kernel_rfl
def x77 (m:Int→Option Bool):Ent:=q37 [(.int .i64)] [.bool] fun (x:Els [(.int .i64)])=>m x.1
def j42 (N:Nat):Ent:=x77 (wk3 N)
theorem ym3 (N:Nat):q17 Tryz.prog 84 (j42 N):=q16 (xv8 N) Tryz.func84 rfl (by kernel_rfl) fun (x:Els [(.int .i64)])=>xe1 N x.1
def yr4 :FH:=⟨[],[],[(5,⟨11,35,0,[],[]⟩)],[],false,[],[]⟩
noncomputable def zk6 (N:Nat):q49:=tab [(159,qe5 N),(76,q93 N),(157,qb3 N),(155,qk3 N),(84,j42 N),(90,qd0 N)]
theorem yb9 (N:Nat):q14 Tryz.prog (zk6 N):=q06 (qc9 N) <| q06 (q82 N) <| q06 (qa7 N) <| q06 (ql4 N) <| q06 (ym3 N) <| q06 (qb9 N) <| q28 _
def qs6 (N:Nat)(l:List q00):Option q03 :=
 (qb1 N 1 2 l).bind fun r =>
 bif (!r) then
  (qb1 N 3 3 l).bind fun r1 =>
  bif (!r1) then
   (qd8 N 8).bind fun r2 =>
   some r2
  else
   (q83 N l).bind fun r3 =>
   bif r3 then
    some ((0,0,[],()),0,())
   else
    bif inR 0 l.length then
    bif inR 1 l.length then
    (q92 N (q25 l 0 q30) (q25 l 1 q30)).bind fun r4 =>
    (wk3 N r4.1).bind fun r5 =>
    (q97 N r5).bind fun r6 =>
    some (r6,0,())
    else none
    else none
 else
  (q83 N l).bind fun r7 =>
  bif r7 then
   some ((0,0,[],()),0,())
  else
   bif inR 0 l.length then
   bif inR 1 l.length then
   (q92 N (q25 l 0 q30) (q25 l 1 q30)).bind fun r8 =>
   (wk3 N r8.1).bind fun r9 =>
   (q97 N r9).bind fun r10 =>
   some (r10,0,())
   else none
   else none
abbrev ze3 :List PK:=[.val (.list q05),.ep 1,.fn 84 0]
noncomputable def yo9 (N:Nat)(l:List q00):Option (RT [q07]):=q24 DR Tryz.prog N (zk6 N) yr4 Tryz.f158 (q13 Tryz.f158) (RT [q07]) (qy6 ze3 (l,())) [] (q42 [q07])
theorem y53 (N:Nat)(l:List q00):yo9 N l=qs6 N l:=by kernel_rfl
def jm4 (m:(List q00)→Option q03):Ent:=qf3 ze3 [q07] fun (x:Els [(.list q05)])=>m x.1
def z00 (N:Nat):Ent:=jm4 (qs6 N)
theorem jh5 (N:Nat):q17 Tryz.prog 158 (z00 N):=q52 (yb9 N) Tryz.func158 rfl (by kernel_rfl) (by kernel_rfl) fun (x:Els [(.list q05)])=>y53 N x.1
end Go.Proofs.YtgicljncknbgcaaGreat.Abs
