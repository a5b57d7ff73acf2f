/- The functions of the program, told on typed values, printed by a program: each tells what the reckoning of its body tells. -/
import Derived.Test.YtgicljncknbgcaaGreatL7
import Derived.Test.YtgicljncknbgcaaGreatG3
import Derived.Test.YtgicljncknbgcaaGreatLA
import Derived.Test.YtgicljncknbgcaaGreatProg
set_option linter.unusedVariables false
set_option linter.unusedSimpArgs false
set_option linter.unusedSectionVars false
namespace Go.Proofs.YtgicljncknbgcaaGreat.Abs
set_option maxRecDepth 100000
open Go Go.Proofs
def jb7 :FH:=⟨[],[],[(3,⟨4,51,0,[(3,.store true 0)],[]⟩),(10,⟨8,51,0,[(7,.store true 0)],[]⟩)],[],false,[],[(7,⟨[(3,.asis),(5,.lst qd2),(7,.int .i64),(9,.int .i64)],[],[.cells [.int .i64,.int .i64],.cells [.int .i64,.int .i64]]⟩),(9,⟨[(3,.asis),(5,.lst qd2),(7,.int .i64),(9,.int .i64)],[],[.cells [.int .i64,.int .i64],.cells [.int .i64,.int .i64]]⟩)]⟩
noncomputable def vy5 (N:Nat):q46:=tab [(29,uk8 N),(30,v79 N),(31,xg5 N)]
theorem w0q (N:Nat):q13 Tryz.prog (vy5 N):=q06 (kk9 N)<|q06 (uc1 N)<|q06 (vx9 N)<|q25 _
noncomputable def zo4 :Sc:=w89 Tryz.prog jb7
noncomputable def zo3 (N:Nat):Cfg:=⟨N,vy5 N,0⟩
noncomputable def vy6 (N:Nat):Exit→KT ((List q15)×qd5×Int×Unit):=fin Tryz.prog 0 Tryz.f11.results.toList (q38 [(.list q49),qr3,(.int .i64)])
def xu1 (l:List q39)(e_ n qc9 qk5:Int)(e:Unit):List TV:=frm 51 [(3,.ref 0 0),(5,.tl qd2 l .unk),(7,.int .i64 e_),(9,.int .i64 n)]
def xu3 (l:List q39)(e_ n qc9 qk5:Int)(e:Unit):List TOb:=[.cells [.int .i64 0,.int .i64 0] 31 true,.cells [.int .i64 qc9,.int .i64 qk5] 31 true]
def ul8 (l:List q39)(n qc9 qk5 e:Int):List TV:=match e with|e_1=>frm 51 [(3,.ref 0 0),(5,.tl qd2 l .unk),(7,.int .i64 e_1),(9,.int .i64 n)]
def um0 (l:List q39)(n qc9 qk5 e:Int):List TOb:=match e with|e_1=>[.cells [.int .i64 0,.int .i64 0] 31 true,.cells [.int .i64 qc9,.int .i64 qk5] 31 true]
noncomputable def ul9 (N:Nat):KT ((List q15)×qd5×Int×Unit):=yr0 DR zo4 (zo3 N) (nv [0,0,1,1,1,1,1,1] Tryz.f11) (qa6 DR zo4 (zo3 N) (nv [1,0,1,1,1,1,1,1] Tryz.f11) (jb7.loops.drop 0) (qa6 DR zo4 (zo3 N) (nv [1,1,1,1,1,1,1] Tryz.f11) (jb7.loops.drop 0) (vy6 N)))
def yj2 (N:Nat)(l:List q39)(n qc9 qk5 e:Int):Option ((List q15)×qd5×Int×Unit):=match e with|e_1=>bif decide (n<(l.length:Int)) then bif inR n l.length then some ([],((q17 l n q33).2.2.2.1),e_1,()) else none else (yd9 N l).bind fun r2=>some ([],r2,e_1,())
theorem w0s (N:Nat)(l:List q39)(n qc9 qk5 e:Int):jmp N (ul9 N ) ((ul8 l n qc9 qk5) e) ((um0 l n qc9 qk5) e)=at1 N (yj2 N l n qc9 qk5 e):=qj5 (by kernel_rfl) N
noncomputable def xu2 (N:Nat):KT ((List q15)×qd5×Int×Unit):=yr0 DR zo4 (zo3 N) (nv [0,0,1,1,1,1,1] Tryz.f11) (qa6 DR zo4 (zo3 N) (nv [1,0,1,1,1,1,1] Tryz.f11) (jb7.loops.drop 0) (qa6 DR zo4 (zo3 N) (nv [1,1,1,1,1,1] Tryz.f11) (jb7.loops.drop 0) (vy6 N)))
def x23 (N:Nat)(l:List q39)(e_ n qc9 qk5:Int)(l2:(List q39)→Int→Int→Int→Int→Option ((List q15)×qd5×Int×Unit))(e:Unit):Option ((List q15)×qd5×Int×Unit):=bif (e_==0) then l2 l n qc9 qk5 4 else l2 l n qc9 qk5 e_
def jb6 (N:Nat)(l:List q39)(e_ n qc9 qk5:Int)(e:Unit):Option ((List q15)×qd5×Int×Unit):=x23 N l e_ n qc9 qk5 (fun l n qc9 qk5 e=>at1 N (yj2 N l n qc9 qk5 e)) e
theorem w0r (N:Nat)(l:List q39)(e_ n qc9 qk5:Int)(e:Unit):jmp N (xu2 N ) ((xu1 l e_ n qc9 qk5) e) ((xu3 l e_ n qc9 qk5) e)=at1 N (jb6 N l e_ n qc9 qk5 e):=qj5 (by
 have h:(xu2 N ) ((xu1 l e_ n qc9 qk5) e) ((xu3 l e_ n qc9 qk5) e)=x23 N l e_ n qc9 qk5 (fun l n qc9 qk5 e=>jmp N (ul9 N ) (ul8 l n qc9 qk5 e) (um0 l n qc9 qk5 e)) e:=by kernel_rfl
 rw[h]
 simp only[jb6,w0s]<;>rfl) N
def xg8 (N:Nat)(s:List UInt8)(l1:(List q39)→Int→Int→Int→Int→Unit→Option ((List q15)×qd5×Int×Unit)):Option ((List q15)×qd5×Int×Unit):=(ja9 N s).bind fun r=>bif (r.2.2.1 != 0) then some ([],r.2.1,r.2.2.1,()) else (xg7 N r.1 0).bind fun r1=>bif (r1.2.2.1==0) then bif (r1.2.1==(r.1.length:Int)) then some (r1.1,(0,0,()),0,()) else l1 r.1 r1.2.2.1 r1.2.1 r.2.1.1 r.2.1.2.1 () else l1 r.1 r1.2.2.1 r1.2.1 r.2.1.1 r.2.1.2.1 ()
def zb1 (N:Nat)(s:List UInt8):Option ((List q15)×qd5×Int×Unit):=xg8 N s (fun l e_ n qc9 qk5 e=>at1 N (jb6 N l e_ n qc9 qk5 e))
noncomputable def kn4 (N:Nat)(s:List UInt8):Option (RT [(.list q49),qr3,(.int .i64)]):=q20 DR Tryz.prog N (vy5 N) jb7 Tryz.f11 (q31 Tryz.f11) (RT [(.list q49),qr3,(.int .i64)]) (qb7 [.str] (s,())) [] (q38 [(.list q49),qr3,(.int .i64)])
theorem q1o (N:Nat)(s:List UInt8):kn4 N s=zb1 N s:=by
 have h:kn4 N s=xg8 N s (fun l e_ n qc9 qk5 e=>jmp N (xu2 N ) (xu1 l e_ n qc9 qk5 e) (xu3 l e_ n qc9 qk5 e)):=by kernel_rfl
 rw[h]
 simp only[zb1,w0r]<;>rfl
def kn5 (m:(List UInt8)→Option ((List q15)×qd5×Int×Unit)):Ent:=q29 [.str] [(.list q49),qr3,(.int .i64)] fun (x:Els [.str])=>m x.1
def jn8 (N:Nat):Ent:=kn5 (zb1 N)
theorem jn9 (N:Nat):q16 Tryz.prog 11 (jn8 N):=q10 (w0q N) Tryz.func11 rfl (by kernel_rfl) fun (x:Els [.str])=>q1o N x.1
def q3g :FH:=⟨[],[],[],[],false,[],[]⟩
noncomputable def u48 (N:Nat):q46:=tab [(180,js7 N),(181,js5 N)]
theorem kt1 (N:Nat):q13 Tryz.prog (u48 N):=q06 (xk7 N)<|q06 (xk5 N)<|q25 _
def qz3 (N:Nat)(v:q00):Option Bool:=bif (v.1==0) then some ((v.1==(0:Int))&&((v.2.1==(0:Int))&&((v.2.2.1==([]:List UInt8))&&true))) else bif (v.1==1) then some (v.2.2.1==([]:List UInt8)) else bif (v.1==2) then some (v.2.2.1==([]:List UInt8)) else bif (v.1==3) then bif (v.2.1==0) then (wl0 N v.2.2.1).bind fun r=>some r else some false else bif (v.1==4) then bif (v.2.2.1==([]:List UInt8)) then bif (v.2.1==0) then some true else some (v.2.1==1) else some false else bif (v.1==5) then bif (v.2.1==0) then (wk9 N v.2.2.1).bind fun r1=>some r1 else some false else some false
noncomputable def q3f (N:Nat)(v:q00):Option (RT [.bool]):=q20 DR Tryz.prog N (u48 N) q3g Tryz.f120 (q31 Tryz.f120) (RT [.bool]) (qb7 [q05] (v,())) [] (q38 [.bool])
theorem k63 (N:Nat)(v:q00):q3f N v=qz3 N v:=by kernel_rfl
def ud3 (m:q00→Option Bool):Ent:=q29 [q05] [.bool] fun (x:Els [q05])=>m x.1
def xj5 (N:Nat):Ent:=ud3 (qz3 N)
theorem u49 (N:Nat):q16 Tryz.prog 120 (xj5 N):=q10 (kt1 N) Tryz.func120 rfl (by kernel_rfl) fun (x:Els [q05])=>k63 N x.1
def kw9 :FH:=⟨[],[],[],[],false,[],[]⟩
noncomputable def vl1 (N:Nat):q46:=tab []
theorem kc3 (N:Nat):q13 Tryz.prog (vl1 N):=q25 _
def qd8 (N:Nat)(e_:Int):Option q03:=some ((0,0,[],()),e_,())
noncomputable def kw8 (N:Nat)(e_:Int):Option (RT [q08]):=q20 DR Tryz.prog N (vl1 N) kw9 Tryz.f76 (q31 Tryz.f76) (RT [q08]) (qb7 [(.int .i64)] (e_,())) [] (q38 [q08])
theorem ut7 (N:Nat)(e_:Int):kw8 N e_=qd8 N e_:=by kernel_rfl
def u90 (m:Int→Option q03):Ent:=q29 [(.int .i64)] [q08] fun (x:Els [(.int .i64)])=>m x.1
def q91 (N:Nat):Ent:=u90 (qd8 N)
theorem q81 (N:Nat):q16 Tryz.prog 76 (q91 N):=q10 (kc3 N) Tryz.func76 rfl (by kernel_rfl) fun (x:Els [(.int .i64)])=>ut7 N x.1
def kx1 :FH:=⟨[],[],[],[],false,[],[]⟩
noncomputable def vl3 (N:Nat):q46:=tab [(120,xj5 N),(76,q91 N)]
theorem kc6 (N:Nat):q13 Tryz.prog (vl3 N):=q06 (u49 N)<|q06 (q81 N)<|q25 _
def zq1 (N:Nat)(v:q00):Option q03:=(qz3 N v).bind fun r=>bif (!r) then (qd8 N 2).bind fun r1=>some r1 else some (v,0,())
noncomputable def kx0 (N:Nat)(v:q00):Option (RT [q08]):=q20 DR Tryz.prog N (vl3 N) kx1 Tryz.f75 (q31 Tryz.f75) (RT [q08]) (qb7 [q05] (v,())) [] (q38 [q08])
theorem uu0 (N:Nat)(v:q00):kx0 N v=zq1 N v:=by kernel_rfl
def u92 (m:q00→Option q03):Ent:=q29 [q05] [q08] fun (x:Els [q05])=>m x.1
def xa3 (N:Nat):Ent:=u92 (zq1 N)
theorem vl4 (N:Nat):q16 Tryz.prog 75 (xa3 N):=q10 (kc6 N) Tryz.func75 rfl (by kernel_rfl) fun (x:Els [q05])=>uu0 N x.1
def v32 :LH:=⟨[(3,.asis),(6,.asis),(23,.lst qf6),(24,.int .i64),(25,.int .i64)],[],[.cells [.int .u8,.int .u8,.int .i64,.str,.str,.lst (.int .i64),.int .i64,.int .i64],.cells [.int .u8,.int .i64,.str],.cells [.int .u8,.int .i64,.str,.int .i64]]⟩
def zt0 :FH:=⟨[v32],[],[],[],false,[],[]⟩
noncomputable def yx6 (N:Nat):q46:=tab [(75,xa3 N),(76,q91 N)]
theorem kc7 (N:Nat):q13 Tryz.prog (yx6 N):=q06 (vl4 N)<|q06 (q81 N)<|q25 _
noncomputable def y86 :Sc:=w89 Tryz.prog zt0
noncomputable def y85 (N:Nat):Cfg:=⟨N,yx6 N,0⟩
noncomputable def uu1 (N:Nat):Exit→KT (q03×Bool×Unit):=fin Tryz.prog 0 Tryz.f36.results.toList (q38 [q08,.bool])
def y83 (vars:List q30)(t24 qg3 q18 q44:Int)(q45 q28:List UInt8)(q56:List Int)(q07 q14 qg4 q5p:Int)(q5q:List UInt8)(w07 x71:Int)(x72:List UInt8)(a_e e:Int):List TV:=match e with|t25=>frm 40 [(3,.ref 0 0),(6,.ref 2 0),(23,.tl qf6 vars .unk),(24,.int .i64 t24),(25,.int .i64 t25)]
def y84 (vars:List q30)(t24 qg3 q18 q44:Int)(q45 q28:List UInt8)(q56:List Int)(q07 q14 qg4 q5p:Int)(q5q:List UInt8)(w07 x71:Int)(x72:List UInt8)(a_e e:Int):List TOb:=match e with|t25=>[.cells [.int .u8 qg3,.int .u8 q18,.int .i64 q44,.str q45,.str q28,.tl (.int .i64) q56 .unk,.int .i64 q07,.int .i64 q14] 54 true,.cells [.int .u8 qg4,.int .i64 q5p,.str q5q] 26 true,.cells [.int .u8 w07,.int .i64 x71,.str x72,.int .i64 a_e] 115 true]
noncomputable def v33 (N:Nat):(KT (q03×Bool×Unit))→KT (q03×Bool×Unit):=qy2 DR y86 (y85 N) (nv [5,4,1,0,2,1,3,1,3,1,4,1,0,1] Tryz.f36) v32 (zt0.loops.drop 1) (qd6 1 (qa6 DR y86 (y85 N) (nv [1,2,1,3,1,3,1,4,1,0,1] Tryz.f36) (zt0.loops.drop 1) (qd6 0 (qa6 DR y86 (y85 N) (nv [1,1] Tryz.f36) (zt0.loops.drop 1) (uu1 N)))))
def y82 (N:Nat)(vars:List q30)(t24 qg3 q18 q44:Int)(q45 q28:List UInt8)(q56:List Int)(q07 q14 qg4 q5p:Int)(q5q:List UInt8)(w07 x71:Int)(x72:List UInt8)(a_e:Int)(K0:Int→Option (q03×Bool×Unit))(e:Int):Option (q03×Bool×Unit):=match e with|t25=>bif decide (t25<t24) then bif inR t25 vars.length then bif (((q17 vars t25 kb4).1)==q28) then (zq1 N ((q17 vars t25 kb4).2.1)).bind fun r2=>some (r2,true,()) else bif q24 (t25+1) then K0 (t25+1) else none else none else (qd8 N 11).bind fun r3=>some (r3,true,())
theorem kc8 (N:Nat)(vars:List q30)(t24 qg3 q18 q44:Int)(q45 q28:List UInt8)(q56:List Int)(q07 q14 qg4 q5p:Int)(q5q:List UInt8)(w07 x71:Int)(x72:List UInt8)(a_e:Int)(n_:Nat)(e:Int):q55 (v33 N ) n_ ((y83 vars t24 qg3 q18 q44 q45 q28 q56 q07 q14 qg4 q5p q5q w07 x71 x72 a_e) e) ((y84 vars t24 qg3 q18 q44 q45 q28 q56 q07 q14 qg4 q5p q5q w07 x71 x72 a_e) e)=q80 (y82 N vars t24 qg3 q18 q44 q45 q28 q56 q07 q14 qg4 q5p q5q w07 x71 x72 a_e ) n_ e :=
 q36 (y83 vars t24 qg3 q18 q44 q45 q28 q56 q07 q14 qg4 q5p q5q w07 x71 x72 a_e) (y84 vars t24 qg3 q18 q44 q45 q28 q56 q07 q14 qg4 q5p q5q w07 x71 x72 a_e) (by intro K e;kernel_rfl) n_ e
def jl3 (N:Nat)(n:q15)(self:q00)(vars:List q30)(l1:(List q30)→Int→Int→Int→Int→(List UInt8)→(List UInt8)→(List Int)→Int→Int→Int→Int→(List UInt8)→Int→Int→(List UInt8)→Int→Int→Option (q03×Bool×Unit)):Option (q03×Bool×Unit):=bif (n.1==1) then (zq1 N n.2.1).bind fun r=>some (r,true,()) else bif (n.1==3) then (zq1 N self).bind fun r1=>some (r1,true,()) else bif (n.1==2) then l1 vars (vars.length:Int) n.1 n.2.1.1 n.2.1.2.1 n.2.1.2.2.1 n.2.2.1 n.2.2.2.1 n.2.2.2.2.1.1 n.2.2.2.2.1.2.1 self.1 self.2.1 self.2.2.1 0 0 [] 0 0 else some (((0,0,[],()),0,()),false,())
def z68 (N:Nat)(n:q15)(self:q00)(vars:List q30):Option (q03×Bool×Unit):=jl3 N n self vars (fun vars t24 qg3 q18 q44 q45 q28 q56 q07 q14 qg4 q5p q5q w07 x71 x72 a_e e=>q80 (y82 N vars t24 qg3 q18 q44 q45 q28 q56 q07 q14 qg4 q5p q5q w07 x71 x72 a_e) N e)
noncomputable def vl9 (N:Nat)(n:q15)(self:q00)(vars:List q30):Option (RT [q08,.bool]):=q20 DR Tryz.prog N (yx6 N) zt0 Tryz.f36 (q31 Tryz.f36) (RT [q08,.bool]) (qb7 [q49,q05,(.list qf6)] (n,self,vars,())) [] (q38 [q08,.bool])
theorem uu2 (N:Nat)(n:q15)(self:q00)(vars:List q30):vl9 N n self vars=z68 N n self vars:=by
 have h:vl9 N n self vars=jl3 N n self vars (fun vars t24 qg3 q18 q44 q45 q28 q56 q07 q14 qg4 q5p q5q w07 x71 x72 a_e e=>q55 (v33 N ) N (y83 vars t24 qg3 q18 q44 q45 q28 q56 q07 q14 qg4 q5p q5q w07 x71 x72 a_e e) (y84 vars t24 qg3 q18 q44 q45 q28 q56 q07 q14 qg4 q5p q5q w07 x71 x72 a_e e)):=by kernel_rfl
 rw[h]
 simp only[z68,kc8]<;>rfl
def u95 (m:q15→q00→(List q30)→Option (q03×Bool×Unit)):Ent:=q29 [q49,q05,(.list qf6)] [q08,.bool] fun (x:Els [q49,q05,(.list qf6)])=>m x.1 x.2.1 x.2.2.1
def xb6 (N:Nat):Ent:=u95 (z68 N)
theorem vm0 (N:Nat):q16 Tryz.prog 36 (xb6 N):=q10 (kc7 N) Tryz.func36 rfl (by kernel_rfl) fun (x:Els [q49,q05,(.list qf6)])=>uu2 N x.1 x.2.1 x.2.2.1
def vl8 :FH:=⟨[],[],[],[],false,[],[]⟩
noncomputable def y25 (N:Nat):q46:=tab []
theorem vb5 (N:Nat):q13 Tryz.prog (y25 N):=q25 _
def q65 (N:Nat)(k:q35)(i:Int):Option q03:=bif decide (i≥(k.1.length:Int)) then some ((0,0,[],()),0,()) else bif inR i k.1.length then some (((q17 k.1 i wz5).1),(q17 k.1 i wz5).2.1,()) else none
noncomputable def vl7 (N:Nat)(k:q35)(i:Int):Option (RT [q08]):=q20 DR Tryz.prog N (y25 N) vl8 Tryz.f153 (q31 Tryz.f153) (RT [q08]) (qb7 [q69,(.int .i64)] (k,i,())) [] (q38 [q08])
theorem xn4 (N:Nat)(k:q35)(i:Int):vl7 N k i=q65 N k i:=by kernel_rfl
def xa9 (m:q35→Int→Option q03):Ent:=q29 [q69,(.int .i64)] [q08] fun (x:Els [q69,(.int .i64)])=>m x.1 x.2.1
def q58 (N:Nat):Ent:=xa9 (q65 N)
theorem q53 (N:Nat):q16 Tryz.prog 153 (q58 N):=q10 (vb5 N) Tryz.func153 rfl (by kernel_rfl) fun (x:Els [q69,(.int .i64)])=>xn4 N x.1 x.2.1
def xn9 :FH:=⟨[],[],[],[],false,[],[]⟩
noncomputable def j83 (N:Nat):q46:=tab [(153,q58 N),(76,q91 N)]
theorem xb4 (N:Nat):q13 Tryz.prog (j83 N):=q06 (q53 N)<|q06 (q81 N)<|q25 _
def q83 (N:Nat)(k:q35)(i:Int):Option q03:=(q65 N k i).bind fun r=>bif (r.2.1==0) then bif (r.1.1 != 4) then bif (r.1.1 != 0) then (qd8 N 8).bind fun r1=>some r1 else some r else some r else some r
noncomputable def xn8 (N:Nat)(k:q35)(i:Int):Option (RT [q08]):=q20 DR Tryz.prog N (j83 N) xn9 Tryz.f80 (q31 Tryz.f80) (RT [q08]) (qb7 [q69,(.int .i64)] (k,i,())) [] (q38 [q08])
theorem yx5 (N:Nat)(k:q35)(i:Int):xn8 N k i=q83 N k i:=by kernel_rfl
def yq2 (m:q35→Int→Option q03):Ent:=q29 [q69,(.int .i64)] [q08] fun (x:Els [q69,(.int .i64)])=>m x.1 x.2.1
def ql8 (N:Nat):Ent:=yq2 (q83 N)
theorem qp6 (N:Nat):q16 Tryz.prog 80 (ql8 N):=q10 (xb4 N) Tryz.func80 rfl (by kernel_rfl) fun (x:Els [q69,(.int .i64)])=>yx5 N x.1 x.2.1
def k72 :FH:=⟨[],[],[],[],false,[],[]⟩
noncomputable def xj8 (N:Nat):q46:=tab []
theorem ue1 (N:Nat):q13 Tryz.prog (xj8 N):=q25 _
def q97 (N:Nat)(is_:Bool):Option q00:=bif is_ then some (4,1,[],()) else some (4,0,[],())
noncomputable def k71 (N:Nat)(is_:Bool):Option (RT [q05]):=q20 DR Tryz.prog N (xj8 N) k72 Tryz.f90 (q31 Tryz.f90) (RT [q05]) (qb7 [.bool] (is_,())) [] (q38 [q05])
theorem u57 (N:Nat)(is_:Bool):k71 N is_=q97 N is_:=by kernel_rfl
def ve6 (m:Bool→Option q00):Ent:=q29 [.bool] [q05] fun (x:Els [.bool])=>m x.1
def qd0 (N:Nat):Ent:=ve6 (q97 N)
theorem qc3 (N:Nat):q16 Tryz.prog 90 (qd0 N):=q10 (ue1 N) Tryz.func90 rfl (by kernel_rfl) fun (x:Els [.bool])=>u57 N x.1
def v91 :LH:=⟨[(2,.asis),(3,.asis),(7,.lst q05),(8,.int .i64),(9,.int .i64)],[],[.cells [.int .u8,.int .i64,.str],.cells [.int .u8,.int .i64,.str]]⟩
def jp2 :FH:=⟨[v91],[],[(5,⟨2,25,0,[],[]⟩)],[],false,[],[]⟩
noncomputable def x52 (N:Nat):q46:=tab [(90,qd0 N)]
theorem ks4 (N:Nat):q13 Tryz.prog (x52 N):=q06 (qc3 N)<|q25 _
noncomputable def v95 :Sc:=w89 Tryz.prog jp2
noncomputable def v93 (N:Nat):Cfg:=⟨N,x52 N,0⟩
noncomputable def k56 (N:Nat):Exit→KT q00:=fin Tryz.prog 0 Tryz.f78.results.toList (q38 [q05])
def yf2 (l:List q00)(t8 qe4 xi1:Int)(xi2:List UInt8)(e:Int×Int×Int×List UInt8):List TV:=match e with|(t9,out_Kind,out_N,out_S)=>frm 25 [(2,.ref 0 0),(3,.ref 1 0),(7,.tl q05 l .unk),(8,.int .i64 t8),(9,.int .i64 t9)]
def yf3 (l:List q00)(t8 qe4 xi1:Int)(xi2:List UInt8)(e:Int×Int×Int×List UInt8):List TOb:=match e with|(t9,out_Kind,out_N,out_S)=>[.cells [.int .u8 qe4,.int .i64 xi1,.str xi2] 26 true,.cells [.int .u8 out_Kind,.int .i64 out_N,.str out_S] 26 true]
noncomputable def v92 (N:Nat):(KT q00)→KT q00:=qy2 DR v95 (v93 N) (nv [5,4,1,0,1,1] Tryz.f78) v91 (jp2.loops.drop 1) (qd6 0 (qa6 DR v95 (v93 N) (nv [1,1,1] Tryz.f78) (jp2.loops.drop 1) (k56 N)))
def z94 (N:Nat)(l:List q00)(t8 qe4 xi1:Int)(xi2:List UInt8)(K0:(Int×Int×Int×List UInt8)→Option q00)(e:Int×Int×Int×List UInt8):Option q00:=match e with|(t9,out_Kind,out_N,out_S)=>bif decide (t9<t8) then bif inR t9 l.length then (q97 N false).bind fun r1=>bif ((((q17 l t9 q26).1)==r1.1)&&((((q17 l t9 q26).2.1)==r1.2.1)&&((((q17 l t9 q26).2.2.1)==r1.2.2.1)&&true))) then some (q17 l t9 q26) else bif (((q17 l t9 q26).1) != 4) then bif q24 (t9+1) then K0 (t9+1,0,0,[]) else none else bif q24 (t9+1) then K0 (t9+1,out_Kind,out_N,out_S) else none else none else some (out_Kind,out_N,out_S,())
theorem ks5 (N:Nat)(l:List q00)(t8 qe4 xi1:Int)(xi2:List UInt8)(n_:Nat)(e:Int×Int×Int×List UInt8):q55 (v92 N ) n_ ((yf2 l t8 qe4 xi1 xi2) e) ((yf3 l t8 qe4 xi1 xi2) e)=q80 (z94 N l t8 qe4 xi1 xi2 ) n_ e :=
 q36 (yf2 l t8 qe4 xi1 xi2) (yf3 l t8 qe4 xi1 xi2) (by intro K e;obtain⟨t9,out_Kind,out_N,out_S⟩:=e;kernel_rfl) n_ e
def x53 (N:Nat)(l:List q00)(l1:(List q00)→Int→Int→Int→(List UInt8)→(Int×Int×Int×List UInt8)→Option q00):Option q00:=(q97 N true).bind fun r=>l1 l (l.length:Int) 0 0 [] (0,r.1,r.2.1,r.2.2.1)
def wq9 (N:Nat)(l:List q00):Option q00:=x53 N l (fun l t8 qe4 xi1 xi2 e=>q80 (z94 N l t8 qe4 xi1 xi2) N e)
noncomputable def u42 (N:Nat)(l:List q00):Option (RT [q05]):=q20 DR Tryz.prog N (x52 N) jp2 Tryz.f78 (q31 Tryz.f78) (RT [q05]) (qb7 [(.list q05)] (l,())) [] (q38 [q05])
theorem k57 (N:Nat)(l:List q00):u42 N l=wq9 N l:=by
 have h:u42 N l=x53 N l (fun l t8 qe4 xi1 xi2 e=>q55 (v92 N ) N (yf2 l t8 qe4 xi1 xi2 e) (yf3 l t8 qe4 xi1 xi2 e)):=by kernel_rfl
 rw[h]
 simp only[wq9,ks5]<;>rfl
def uc9 (m:(List q00)→Option q00):Ent:=q29 [(.list q05)] [q05] fun (x:Els [(.list q05)])=>m x.1
def jp3 (N:Nat):Ent:=uc9 (wq9 N)
theorem yf4 (N:Nat):q16 Tryz.prog 78 (jp3 N):=q10 (ks4 N) Tryz.func78 rfl (by kernel_rfl) fun (x:Els [(.list q05)])=>k57 N x.1
def vb4 :FH:=⟨[],[],[],[],false,[],[]⟩
noncomputable def jq7 (N:Nat):q46:=tab [(80,ql8 N),(78,jp3 N)]
theorem xn1 (N:Nat):q13 Tryz.prog (jq7 N):=q06 (qp6 N)<|q06 (yf4 N)<|q25 _
def wd6 (N:Nat)(k:q35)(ends:Int):Option q03:=(q83 N k 0).bind fun r=>bif (r.2.1 != 0) then some r else bif (r.1.1==4) then bif (r.1.2.1==ends) then some r else (q83 N k 1).bind fun r1=>bif (r1.2.1 != 0) then some r1 else (wq9 N ([r.1,r1.1]:List q00)).bind fun r2=>some (r2,0,()) else (q83 N k 1).bind fun r3=>bif (r3.2.1 != 0) then some r3 else (wq9 N ([r.1,r3.1]:List q00)).bind fun r4=>some (r4,0,())
abbrev j60 :List PK:=[.val q69,.val (.int .i64),.fn 78 0]
noncomputable def vb3 (N:Nat)(k:q35)(ends:Int):Option (RT [q08]):=q20 DR Tryz.prog N (jq7 N) vb4 Tryz.f77 (q31 Tryz.f77) (RT [q08]) (w01 j60 (k,ends,())) [] (q38 [q08])
theorem xa5 (N:Nat)(k:q35)(ends:Int):vb3 N k ends=wd6 N k ends:=by kernel_rfl
def yw5 (m:q35→Int→Option q03):Ent:=qf5 j60 [q08] fun (x:Els [q69,(.int .i64)])=>m x.1 x.2.1
def zy1 (N:Nat):Ent:=yw5 (wd6 N)
theorem ym1 (N:Nat):q16 Tryz.prog 77 (zy1 N):=q57 (xn1 N) Tryz.func77 rfl (by kernel_rfl) (by kernel_rfl) fun (x:Els [q69,(.int .i64)])=>xa5 N x.1 x.2.1
def q3m :FH:=⟨[],[],[],[],false,[],[]⟩
noncomputable def u54 (N:Nat):q46:=tab [(90,qd0 N)]
theorem kt7 (N:Nat):q13 Tryz.prog (u54 N):=q06 (qc3 N)<|q25 _
def zw0 (N:Nat)(a:q00):Option q00:=bif (a.1 != 4) then some (0,0,[],()) else (q97 N (a.2.1==0)).bind fun r=>some r
noncomputable def q3l (N:Nat)(a:q00):Option (RT [q05]):=q20 DR Tryz.prog N (u54 N) q3m Tryz.f81 (q31 Tryz.f81) (RT [q05]) (qb7 [q05] (a,())) [] (q38 [q05])
theorem k67 (N:Nat)(a:q00):q3l N a=zw0 N a:=by kernel_rfl
def ud7 (m:q00→Option q00):Ent:=q29 [q05] [q05] fun (x:Els [q05])=>m x.1
def jp7 (N:Nat):Ent:=ud7 (zw0 N)
theorem yg2 (N:Nat):q16 Tryz.prog 81 (jp7 N):=q10 (kt7 N) Tryz.func81 rfl (by kernel_rfl) fun (x:Els [q05])=>k67 N x.1
def v96 :LH:=⟨[(2,.asis),(3,.own q05 503 26 3),(6,.lst q05),(7,.int .i64),(8,.int .i64)],[],[.cells [.int .u8,.int .i64,.str]]⟩
def jp4 :FH:=⟨[v96],[],[],[],false,[],[]⟩
noncomputable def x54 (N:Nat):q46:=tab [(81,jp7 N),(78,jp3 N)]
theorem ks6 (N:Nat):q13 Tryz.prog (x54 N):=q06 (yg2 N)<|q06 (yf4 N)<|q25 _
noncomputable def v99 :Sc:=w89 Tryz.prog jp4
noncomputable def v98 (N:Nat):Cfg:=⟨N,x54 N,0⟩
noncomputable def k58 (N:Nat):Exit→KT q00:=fin Tryz.prog 0 Tryz.f79.results.toList (q38 [q05])
def yf5 (l:List q00)(t7 qe4 xi1:Int)(xi2:List UInt8)(e:List q00×Int):List TV:=match e with|(others,t8)=>frm 21 [(2,.ref 0 0),(3,.tl q05 others (.own 503 26 3)),(6,.tl q05 l .unk),(7,.int .i64 t7),(8,.int .i64 t8)]
def yf6 (l:List q00)(t7 qe4 xi1:Int)(xi2:List UInt8)(e:List q00×Int):List TOb:=match e with|(others,t8)=>[.cells [.int .u8 qe4,.int .i64 xi1,.str xi2] 26 true]
noncomputable def v97 (N:Nat):(KT q00)→KT q00:=qy2 DR v99 (v98 N) (nv [5,4,1,0,1,1] Tryz.f79) v96 (jp4.loops.drop 1) (qd6 0 (qa6 DR v99 (v98 N) (nv [1,1,1] Tryz.f79) (jp4.loops.drop 1) (k58 N)))
def z96 (N:Nat)(l:List q00)(t7 qe4 xi1:Int)(xi2:List UInt8)(K0:(List q00×Int)→Option q00)(e:List q00×Int):Option q00:=match e with|(others,t8)=>bif decide (t8<t7) then bif inR t8 l.length then (zw0 N (q17 l t8 q26)).bind fun r=>bif qr1 (others.length+([r]:List q00).length) 4398046511104 then bif q24 (t8+1) then K0 ((others++([r]:List q00)),t8+1) else none else none else none else (wq9 N others).bind fun r1=>(zw0 N r1).bind fun r2=>some r2
theorem ks8 (N:Nat)(l:List q00)(t7 qe4 xi1:Int)(xi2:List UInt8)(n_:Nat)(e:List q00×Int):q55 (v97 N ) n_ ((yf5 l t7 qe4 xi1 xi2) e) ((yf6 l t7 qe4 xi1 xi2) e)=q80 (z96 N l t7 qe4 xi1 xi2 ) n_ e :=
 q36 (yf5 l t7 qe4 xi1 xi2) (yf6 l t7 qe4 xi1 xi2) (by intro K e;obtain⟨others,t8⟩:=e;kernel_rfl) n_ e
def x55 (N:Nat)(l:List q00)(l1:(List q00)→Int→Int→Int→(List UInt8)→(List q00×Int)→Option q00):Option q00:=l1 l (l.length:Int) 0 0 [] ([],0)
def z95 (N:Nat)(l:List q00):Option q00:=x55 N l (fun l t7 qe4 xi1 xi2 e=>q80 (z96 N l t7 qe4 xi1 xi2) N e)
noncomputable def u43 (N:Nat)(l:List q00):Option (RT [q05]):=q20 DR Tryz.prog N (x54 N) jp4 Tryz.f79 (q31 Tryz.f79) (RT [q05]) (qb7 [(.list q05)] (l,())) [] (q38 [q05])
theorem k59 (N:Nat)(l:List q00):u43 N l=z95 N l:=by
 have h:u43 N l=x55 N l (fun l t7 qe4 xi1 xi2 e=>q55 (v97 N ) N (yf5 l t7 qe4 xi1 xi2 e) (yf6 l t7 qe4 xi1 xi2 e)):=by kernel_rfl
 rw[h]
 simp only[z95,ks8]<;>rfl
def ud0 (m:(List q00)→Option q00):Ent:=q29 [(.list q05)] [q05] fun (x:Els [(.list q05)])=>m x.1
def xj1 (N:Nat):Ent:=ud0 (z95 N)
theorem u44 (N:Nat):q16 Tryz.prog 79 (xj1 N):=q10 (ks6 N) Tryz.func79 rfl (by kernel_rfl) fun (x:Els [(.list q05)])=>k59 N x.1
def yw7 :FH:=⟨[],[],[],[],false,[],[]⟩
noncomputable def zq2 (N:Nat):q46:=tab [(80,ql8 N),(79,xj1 N)]
theorem ym2 (N:Nat):q13 Tryz.prog (zq2 N):=q06 (qp6 N)<|q06 (u44 N)<|q25 _
def qt5 (N:Nat)(k:q35)(ends:Int):Option q03:=(q83 N k 0).bind fun r=>bif (r.2.1 != 0) then some r else bif (r.1.1==4) then bif (r.1.2.1==ends) then some r else (q83 N k 1).bind fun r1=>bif (r1.2.1 != 0) then some r1 else (z95 N ([r.1,r1.1]:List q00)).bind fun r2=>some (r2,0,()) else (q83 N k 1).bind fun r3=>bif (r3.2.1 != 0) then some r3 else (z95 N ([r.1,r3.1]:List q00)).bind fun r4=>some (r4,0,())
abbrev zd3 :List PK:=[.val q69,.val (.int .i64),.fn 79 0]
noncomputable def yw6 (N:Nat)(k:q35)(ends:Int):Option (RT [q08]):=q20 DR Tryz.prog N (zq2 N) yw7 Tryz.f77 (q31 Tryz.f77) (RT [q08]) (w01 zd3 (k,ends,())) [] (q38 [q08])
theorem y21 (N:Nat)(k:q35)(ends:Int):yw6 N k ends=qt5 N k ends:=by kernel_rfl
def ju3 (m:q35→Int→Option q03):Ent:=qf5 zd3 [q08] fun (x:Els [q69,(.int .i64)])=>m x.1 x.2.1
def z07 (N:Nat):Ent:=ju3 (qt5 N)
theorem ji3 (N:Nat):q16 Tryz.prog 77 (z07 N):=q57 (ym2 N) Tryz.func77 rfl (by kernel_rfl) (by kernel_rfl) fun (x:Els [q69,(.int .i64)])=>y21 N x.1 x.2.1
def vf3 :FH:=⟨[],[],[],[],false,[],[]⟩
noncomputable def js6 (N:Nat):q46:=tab []
theorem v07 (N:Nat):q13 Tryz.prog (js6 N):=q25 _
def q73 (N:Nat)(v:q00):Option Bool:=bif (v.1==1) then some true else some (v.1==2)
noncomputable def vf2 (N:Nat)(v:q00):Option (RT [.bool]):=q20 DR Tryz.prog N (js6 N) vf3 Tryz.f211 (q31 Tryz.f211) (RT [.bool]) (qb7 [q05] (v,())) [] (q38 [.bool])
theorem xk6 (N:Nat)(v:q00):vf2 N v=q73 N v:=by kernel_rfl
def x59 (m:q00→Option Bool):Ent:=q29 [q05] [.bool] fun (x:Els [q05])=>m x.1
def wr1 (N:Nat):Ent:=x59 (q73 N)
theorem zl7 (N:Nat):q16 Tryz.prog 211 (wr1 N):=q10 (v07 N) Tryz.func211 rfl (by kernel_rfl) fun (x:Els [q05])=>xk6 N x.1
def ka9 :FH:=⟨[],[],[],[],false,[],[]⟩
noncomputable def v21 (N:Nat):q46:=tab []
theorem us3 (N:Nat):q13 Tryz.prog (v21 N):=q25 _
def qz6 (N:Nat)(x y:Int):Option (Int×Int×Unit):=some ((IntKind.u64.wrap ((IntKind.u64.wrap ((IntKind.u64.wrap ((qn3 .u64 x (32:Int))*(qn3 .u64 y (32:Int))))+(qn3 .u64 (IntKind.u64.wrap ((IntKind.u64.wrap ((qn3 .u64 x (32:Int))*(za6 .and .u64 y 4294967295)))+(qn3 .u64 (IntKind.u64.wrap ((za6 .and .u64 x 4294967295)*(za6 .and .u64 y 4294967295))) (32:Int)))) (32:Int))))+(qn3 .u64 (IntKind.u64.wrap ((za6 .and .u64 (IntKind.u64.wrap ((IntKind.u64.wrap ((qn3 .u64 x (32:Int))*(za6 .and .u64 y 4294967295)))+(qn3 .u64 (IntKind.u64.wrap ((za6 .and .u64 x 4294967295)*(za6 .and .u64 y 4294967295))) (32:Int)))) 4294967295)+(IntKind.u64.wrap ((za6 .and .u64 x 4294967295)*(qn3 .u64 y (32:Int)))))) (32:Int)))),(IntKind.u64.wrap (x*y)),())
noncomputable def ka8 (N:Nat)(x y:Int):Option (RT [(.int .u64),(.int .u64)]):=q20 DR Tryz.prog N (v21 N) ka9 Tryz.f219 (q31 Tryz.f219) (RT [(.int .u64),(.int .u64)]) (qb7 [(.int .u64),(.int .u64)] (x,y,())) [] (q38 [(.int .u64),(.int .u64)])
theorem u83 (N:Nat)(x y:Int):ka8 N x y=qz6 N x y:=by kernel_rfl
def vj7 (m:Int→Int→Option (Int×Int×Unit)):Ent:=q29 [(.int .u64),(.int .u64)] [(.int .u64),(.int .u64)] fun (x:Els [(.int .u64),(.int .u64)])=>m x.1 x.2.1
def wz2 (N:Nat):Ent:=vj7 (qz6 N)
theorem za2 (N:Nat):q16 Tryz.prog 219 (wz2 N):=q10 (us3 N) Tryz.func219 rfl (by kernel_rfl) fun (x:Els [(.int .u64),(.int .u64)])=>u83 N x.1 x.2.1
def k83 :FH:=⟨[],[],[],[],false,[],[]⟩
noncomputable def xk8 (N:Nat):q46:=tab [(219,wz2 N)]
theorem uf2 (N:Nat):q13 Tryz.prog (xk8 N):=q06 (za2 N)<|q25 _
def wy8 (N:Nat)(v:q00):Option (Bool×Int×Int×Unit):=bif decide (v.2.1<0) then bif (v.1==1) then (qz6 N (IntKind.u64.wrap (0-(IntKind.u64.wrap v.2.1))) 10000).bind fun r=>some (decide (v.2.1<0),r.1,r.2.1,()) else (qz6 N (IntKind.u64.wrap (0-(IntKind.u64.wrap v.2.1))) 1).bind fun r1=>some (decide (v.2.1<0),r1.1,r1.2.1,()) else bif (v.1==1) then (qz6 N (IntKind.u64.wrap v.2.1) 10000).bind fun r2=>some (decide (v.2.1<0),r2.1,r2.2.1,()) else (qz6 N (IntKind.u64.wrap v.2.1) 1).bind fun r3=>some (decide (v.2.1<0),r3.1,r3.2.1,())
noncomputable def k82 (N:Nat)(v:q00):Option (RT [.bool,(.int .u64),(.int .u64)]):=q20 DR Tryz.prog N (xk8 N) k83 Tryz.f212 (q31 Tryz.f212) (RT [.bool,(.int .u64),(.int .u64)]) (qb7 [q05] (v,())) [] (q38 [.bool,(.int .u64),(.int .u64)])
theorem u69 (N:Nat)(v:q00):k82 N v=wy8 N v:=by kernel_rfl
def vf4 (m:q00→Option (Bool×Int×Int×Unit)):Ent:=q29 [q05] [.bool,(.int .u64),(.int .u64)] fun (x:Els [q05])=>m x.1
def yg9 (N:Nat):Ent:=vf4 (wy8 N)
theorem v09 (N:Nat):q16 Tryz.prog 212 (yg9 N):=q10 (uf2 N) Tryz.func212 rfl (by kernel_rfl) fun (x:Els [q05])=>u69 N x.1
def x95 :FH:=⟨[],[],[],[],false,[],[]⟩
noncomputable def zx9 (N:Nat):q46:=tab []
theorem yv9 (N:Nat):q13 Tryz.prog (zx9 N):=q25 _
def qy7 (N:Nat)(x:Int):Option Bool:=some (x != x)
noncomputable def x94 (N:Nat)(x:Int):Option (RT [.bool]):=q20 DR Tryz.prog N (zx9 N) x95 Tryz.f250 (q31 Tryz.f250) (RT [.bool]) (qb7 [(.int .u64)] (x,())) [] (q38 [.bool])
theorem yl8 (N:Nat)(x:Int):x94 N x=qy7 N x:=by kernel_rfl
def y09 (m:Int→Option Bool):Ent:=q29 [(.int .u64)] [.bool] fun (x:Els [(.int .u64)])=>m x.1
def zd2 (N:Nat):Ent:=y09 (qy7 N)
theorem ju2 (N:Nat):q16 Tryz.prog 250 (zd2 N):=q10 (yv9 N) Tryz.func250 rfl (by kernel_rfl) fun (x:Els [(.int .u64)])=>yl8 N x.1
def yl3 :FH:=⟨[],[],[],[],false,[],[]⟩
noncomputable def zd0 (N:Nat):q46:=tab [(250,zd2 N)]
theorem y03 (N:Nat):q13 Tryz.prog (zd0 N):=q06 (ju2 N)<|q25 _
def qi2 (N:Nat)(x y:Int):Option Int:=(qy7 N x).bind fun r=>(qy7 N y).bind fun r1=>bif r then bif r1 then some 0 else some (-1) else bif r1 then some 1 else bif decide (x<y) then some (-1) else bif decide (x>y) then some 1 else some 0
noncomputable def yl2 (N:Nat)(x y:Int):Option (RT [(.int .i64)]):=q20 DR Tryz.prog N (zd0 N) yl3 Tryz.f214 (q31 Tryz.f214) (RT [(.int .i64)]) (qb7 [(.int .u64),(.int .u64)] (x,y,())) [] (q38 [(.int .i64)])
theorem jt9 (N:Nat)(x y:Int):yl2 N x y=qi2 N x y:=by kernel_rfl
def jg8 (m:Int→Int→Option Int):Ent:=q29 [(.int .u64),(.int .u64)] [(.int .i64)] fun (x:Els [(.int .u64),(.int .u64)])=>m x.1 x.2.1
def wr8 (N:Nat):Ent:=jg8 (qi2 N)
theorem j57 (N:Nat):q16 Tryz.prog 214 (wr8 N):=q10 (y03 N) Tryz.func214 rfl (by kernel_rfl) fun (x:Els [(.int .u64),(.int .u64)])=>jt9 N x.1 x.2.1
def x87 :LH:=⟨[(3,.int .i64),(6,.lst (.int .i64)),(7,.int .i64),(8,.int .i64)],[],[]⟩
def zx6 :FH:=⟨[x87],[],[],[],false,[],[]⟩
noncomputable def y06 (N:Nat):q46:=tab []
theorem us5 (N:Nat):q13 Tryz.prog (y06 N):=q25 _
noncomputable def x90 :Sc:=w89 Tryz.prog zx6
noncomputable def x89 (N:Nat):Cfg:=⟨N,y06 N,0⟩
noncomputable def u85 (N:Nat):Exit→KT Int:=fin Tryz.prog 0 Tryz.f213.results.toList (q38 [(.int .i64)])
def jh0 (zero:Int)(vals:List Int)(t7 e:Int):List TV:=match e with|t8=>frm 18 [(3,.int .i64 zero),(6,.tl (.int .i64) vals .unk),(7,.int .i64 t7),(8,.int .i64 t8)]
def jh1 (zero:Int)(vals:List Int)(t7 e:Int):List TOb:=match e with|t8=>[]
noncomputable def x88 (N:Nat):(KT Int)→KT Int:=qy2 DR x90 (x89 N) (nv [5,4,1,0,1,1] Tryz.f213) x87 (zx6.loops.drop 1) (qd6 0 (qa6 DR x90 (x89 N) (nv [1,1,1] Tryz.f213) (zx6.loops.drop 1) (u85 N)))
def qw4 (N:Nat)(zero:Int)(vals:List Int)(t7:Int)(K0:Int→Option Int)(e:Int):Option Int:=match e with|t8=>bif decide (t8<t7) then bif inR t8 vals.length then bif ((q17 vals t8 0) != zero) then some (q17 vals t8 0) else bif q24 (t8+1) then K0 (t8+1) else none else none else some zero
theorem us6 (N:Nat)(zero:Int)(vals:List Int)(t7:Int)(n_:Nat)(e:Int):q55 (x88 N ) n_ ((jh0 zero vals t7) e) ((jh1 zero vals t7) e)=q80 (qw4 N zero vals t7 ) n_ e :=
 q36 (jh0 zero vals t7) (jh1 zero vals t7) (by intro K e;kernel_rfl) n_ e
def zx7 (N:Nat)(vals:List Int)(l1:Int→(List Int)→Int→Int→Option Int):Option Int:=l1 0 vals (vals.length:Int) 0
def w65 (N:Nat)(vals:List Int):Option Int:=zx7 N vals (fun zero vals t7 e=>q80 (qw4 N zero vals t7) N e)
noncomputable def v24 (N:Nat)(vals:List Int):Option (RT [(.int .i64)]):=q20 DR Tryz.prog N (y06 N) zx6 Tryz.f213 (q31 Tryz.f213) (RT [(.int .i64)]) (qb7 [(.list (.int .i64))] (vals,())) [] (q38 [(.int .i64)])
theorem u86 (N:Nat)(vals:List Int):v24 N vals=w65 N vals:=by
 have h:v24 N vals=zx7 N vals (fun zero vals t7 e=>q55 (x88 N ) N (jh0 zero vals t7 e) (jh1 zero vals t7 e)):=by kernel_rfl
 rw[h]
 simp only[w65,us6]<;>rfl
def vk2 (m:(List Int)→Option Int):Ent:=q29 [(.list (.int .i64))] [(.int .i64)] fun (x:Els [(.list (.int .i64))])=>m x.1
def j19 (N:Nat):Ent:=vk2 (w65 N)
theorem jq5 (N:Nat):q16 Tryz.prog 213 (j19 N):=q10 (us5 N) Tryz.func213 rfl (by kernel_rfl) fun (x:Els [(.list (.int .i64))])=>u86 N x.1
def xm9 :FH:=⟨[],[],[],[],false,[],[]⟩
noncomputable def j59 (N:Nat):q46:=tab []
theorem x96 (N:Nat):q13 Tryz.prog (j59 N):=q25 _
def w29 (N:Nat)(x:Int):Option Bool:=some (x != x)
noncomputable def xm8 (N:Nat)(x:Int):Option (RT [.bool]):=q20 DR Tryz.prog N (j59 N) xm9 Tryz.f279 (q31 Tryz.f279) (RT [.bool]) (qb7 [(.int .u8)] (x,())) [] (q38 [.bool])
theorem yw0 (N:Nat)(x:Int):xm8 N x=w29 N x:=by kernel_rfl
def yl9 (m:Int→Option Bool):Ent:=q29 [(.int .u8)] [.bool] fun (x:Els [(.int .u8)])=>m x.1
def zp9 (N:Nat):Ent:=yl9 (w29 N)
theorem y10 (N:Nat):q16 Tryz.prog 279 (zp9 N):=q10 (x96 N) Tryz.func279 rfl (by kernel_rfl) fun (x:Els [(.int .u8)])=>yw0 N x.1
def yv6 :FH:=⟨[],[],[],[],false,[],[]⟩
noncomputable def zp7 (N:Nat):q46:=tab [(279,zp9 N)]
theorem yl4 (N:Nat):q13 Tryz.prog (zp7 N):=q06 (y10 N)<|q25 _
def qt2 (N:Nat)(x y:Int):Option Int:=(w29 N x).bind fun r=>(w29 N y).bind fun r1=>bif r then bif r1 then some 0 else some (-1) else bif r1 then some 1 else bif decide (x<y) then some (-1) else bif decide (x>y) then some 1 else some 0
noncomputable def yv5 (N:Nat)(x y:Int):Option (RT [(.int .i64)]):=q20 DR Tryz.prog N (zp7 N) yv6 Tryz.f251 (q31 Tryz.f251) (RT [(.int .i64)]) (qb7 [(.int .u8),(.int .u8)] (x,y,())) [] (q38 [(.int .i64)])
theorem y05 (N:Nat)(x y:Int):yv5 N x y=qt2 N x y:=by kernel_rfl
def ju0 (m:Int→Int→Option Int):Ent:=q29 [(.int .u8),(.int .u8)] [(.int .i64)] fun (x:Els [(.int .u8),(.int .u8)])=>m x.1 x.2.1
def z05 (N:Nat):Ent:=ju0 (qt2 N)
theorem jg9 (N:Nat):q16 Tryz.prog 251 (z05 N):=q10 (yl4 N) Tryz.func251 rfl (by kernel_rfl) fun (x:Els [(.int .u8),(.int .u8)])=>y05 N x.1 x.2.1
def xm7 :FH:=⟨[],[],[],[],false,[],[]⟩
noncomputable def j58 (N:Nat):q46:=tab []
theorem x91 (N:Nat):q13 Tryz.prog (j58 N):=q25 _
def w28 (N:Nat)(x:Int):Option Bool:=some (x != x)
noncomputable def xm6 (N:Nat)(x:Int):Option (RT [.bool]):=q20 DR Tryz.prog N (j58 N) xm7 Tryz.f260 (q31 Tryz.f260) (RT [.bool]) (qb7 [(.int .i64)] (x,())) [] (q38 [.bool])
theorem yv7 (N:Nat)(x:Int):xm6 N x=w28 N x:=by kernel_rfl
def yl6 (m:Int→Option Bool):Ent:=q29 [(.int .i64)] [.bool] fun (x:Els [(.int .i64)])=>m x.1
def zp8 (N:Nat):Ent:=yl6 (w28 N)
theorem y07 (N:Nat):q16 Tryz.prog 260 (zp8 N):=q10 (x91 N) Tryz.func260 rfl (by kernel_rfl) fun (x:Els [(.int .i64)])=>yv7 N x.1
def yv4 :FH:=⟨[],[],[],[],false,[],[]⟩
noncomputable def zp6 (N:Nat):q46:=tab [(260,zp8 N)]
theorem yk9 (N:Nat):q13 Tryz.prog (zp6 N):=q06 (y07 N)<|q25 _
def qk9 (N:Nat)(x y:Int):Option Int:=(w28 N x).bind fun r=>(w28 N y).bind fun r1=>bif r then bif r1 then some 0 else some (-1) else bif r1 then some 1 else bif decide (x<y) then some (-1) else bif decide (x>y) then some 1 else some 0
noncomputable def yv3 (N:Nat)(x y:Int):Option (RT [(.int .i64)]):=q20 DR Tryz.prog N (zp6 N) yv4 Tryz.f223 (q31 Tryz.f223) (RT [(.int .i64)]) (qb7 [(.int .i64),(.int .i64)] (x,y,())) [] (q38 [(.int .i64)])
theorem y00 (N:Nat)(x y:Int):yv3 N x y=qk9 N x y:=by kernel_rfl
def jt7 (m:Int→Int→Option Int):Ent:=q29 [(.int .i64),(.int .i64)] [(.int .i64)] fun (x:Els [(.int .i64),(.int .i64)])=>m x.1 x.2.1
def w27 (N:Nat):Ent:=jt7 (qk9 N)
theorem wl8 (N:Nat):q16 Tryz.prog 223 (w27 N):=q10 (yk9 N) Tryz.func223 rfl (by kernel_rfl) fun (x:Els [(.int .i64),(.int .i64)])=>y00 N x.1 x.2.1
def x93 :FH:=⟨[],[],[],[],false,[],[]⟩
noncomputable def zx8 (N:Nat):q46:=tab []
theorem yv8 (N:Nat):q13 Tryz.prog (zx8 N):=q25 _
def qy6 (N:Nat)(x:List UInt8):Option Bool:=some (!(x==x))
noncomputable def x92 (N:Nat)(x:List UInt8):Option (RT [.bool]):=q20 DR Tryz.prog N (zx8 N) x93 Tryz.f280 (q31 Tryz.f280) (RT [.bool]) (qb7 [.str] (x,())) [] (q38 [.bool])
theorem yl7 (N:Nat)(x:List UInt8):x92 N x=qy6 N x:=by kernel_rfl
def y08 (m:(List UInt8)→Option Bool):Ent:=q29 [.str] [.bool] fun (x:Els [.str])=>m x.1
def zd1 (N:Nat):Ent:=y08 (qy6 N)
theorem ju1 (N:Nat):q16 Tryz.prog 280 (zd1 N):=q10 (yv8 N) Tryz.func280 rfl (by kernel_rfl) fun (x:Els [.str])=>yl7 N x.1
def yl1 :FH:=⟨[],[],[],[],false,[],[]⟩
noncomputable def zc9 (N:Nat):q46:=tab [(280,zd1 N)]
theorem y01 (N:Nat):q13 Tryz.prog (zc9 N):=q06 (ju1 N)<|q25 _
def qo6 (N:Nat)(x y:List UInt8):Option Int:=(qy6 N x).bind fun r=>(qy6 N y).bind fun r1=>bif r then bif r1 then some 0 else some (-1) else bif r1 then some 1 else bif (Op.bytesLess x y) then some (-1) else bif (!(Op.bytesLess x y||x==y)) then some 1 else some 0
noncomputable def yl0 (N:Nat)(x y:List UInt8):Option (RT [(.int .i64)]):=q20 DR Tryz.prog N (zc9 N) yl1 Tryz.f252 (q31 Tryz.f252) (RT [(.int .i64)]) (qb7 [.str,.str] (x,y,())) [] (q38 [(.int .i64)])
theorem jt8 (N:Nat)(x y:List UInt8):yl0 N x y=qo6 N x y:=by kernel_rfl
def jg7 (m:(List UInt8)→(List UInt8)→Option Int):Ent:=q29 [.str,.str] [(.int .i64)] fun (x:Els [.str,.str])=>m x.1 x.2.1
def wr7 (N:Nat):Ent:=jg7 (qo6 N)
theorem j56 (N:Nat):q16 Tryz.prog 252 (wr7 N):=q10 (y01 N) Tryz.func252 rfl (by kernel_rfl) fun (x:Els [.str,.str])=>jt8 N x.1 x.2.1
def k69 :FH:=⟨[],[],[(1,⟨14,22,0,[],[]⟩)],[],false,[],[]⟩
noncomputable def xj7 (N:Nat):q46:=tab [(251,z05 N),(223,w27 N),(252,wr7 N),(213,j19 N)]
theorem ud8 (N:Nat):q13 Tryz.prog (xj7 N):=q06 (jg9 N)<|q06 (wl8 N)<|q06 (j56 N)<|q06 (jq5 N)<|q25 _
def wy7 (N:Nat)(a b:q00):Option Int:=(qt2 N a.1 b.1).bind fun r=>(qk9 N a.2.1 b.2.1).bind fun r1=>(qo6 N a.2.2.1 b.2.2.1).bind fun r2=>(w65 N [r,r1,r2]).bind fun r3=>some r3
noncomputable def k68 (N:Nat)(a b:q00):Option (RT [(.int .i64)]):=q20 DR Tryz.prog N (xj7 N) k69 Tryz.f215 (q31 Tryz.f215) (RT [(.int .i64)]) (qb7 [q05,q05] (a,b,())) [] (q38 [(.int .i64)])
theorem u55 (N:Nat)(a b:q00):k68 N a b=wy7 N a b:=by kernel_rfl
def ve5 (m:q00→q00→Option Int):Ent:=q29 [q05,q05] [(.int .i64)] fun (x:Els [q05,q05])=>m x.1 x.2.1
def yg3 (N:Nat):Ent:=ve5 (wy7 N)
theorem v02 (N:Nat):q16 Tryz.prog 215 (yg3 N):=q10 (ud8 N) Tryz.func215 rfl (by kernel_rfl) fun (x:Els [q05,q05])=>u55 N x.1 x.2.1
def wr0 :FH:=⟨[],[],[],[],false,[],[(12,⟨[(2,.asis),(3,.asis)],[],[.cells [.int .u8,.int .i64,.str],.cells [.int .u8,.int .i64,.str]]⟩)]⟩
noncomputable def zv8 (N:Nat):q46:=tab [(211,wr1 N),(212,yg9 N),(214,wr8 N),(213,j19 N),(215,yg3 N)]
theorem ve1 (N:Nat):q13 Tryz.prog (zv8 N):=q06 (zl7 N)<|q06 (v09 N)<|q06 (j57 N)<|q06 (jq5 N)<|q06 (v02 N)<|q25 _
noncomputable def zc0 :Sc:=w89 Tryz.prog wr0
noncomputable def zb9 (N:Nat):Cfg:=⟨N,zv8 N,0⟩
noncomputable def xz9 (N:Nat):Exit→KT (Int×Bool×Unit):=fin Tryz.prog 0 Tryz.f155.results.toList (q38 [(.int .i64),.bool])
def js1 (zc7 a_N:Int)(a_S:List UInt8)(zx3 b_N:Int)(b_S:List UInt8)(e:Unit):List TV:=frm 65 [(2,.ref 0 0),(3,.ref 1 0)]
def js3 (zc7 a_N:Int)(a_S:List UInt8)(zx3 b_N:Int)(b_S:List UInt8)(e:Unit):List TOb:=[.cells [.int .u8 zc7,.int .i64 a_N,.str a_S] 26 true,.cells [.int .u8 zx3,.int .i64 b_N,.str b_S] 26 true]
noncomputable def js2 (N:Nat):KT (Int×Bool×Unit):=yr0 DR zc0 (zb9 N) (nv [0,0,1,1] Tryz.f155) (qa6 DR zc0 (zb9 N) (nv [1,0,1,1] Tryz.f155) (wr0.loops.drop 0) (qa6 DR zc0 (zb9 N) (nv [1,1,1] Tryz.f155) (wr0.loops.drop 0) (xz9 N)))
def wf9 (N:Nat)(zc7 a_N:Int)(a_S:List UInt8)(zx3 b_N:Int)(b_S:List UInt8)(e:Unit):Option (Int×Bool×Unit):=bif (zc7 != zx3) then some (0,false,()) else bif decide (zc7<3) then some (0,false,()) else bif decide (zc7>5) then some (0,false,()) else (wy7 N (zc7,a_N,a_S,()) (zx3,b_N,b_S,())).bind fun r7=>some (r7,true,())
theorem ve2 (N:Nat)(zc7 a_N:Int)(a_S:List UInt8)(zx3 b_N:Int)(b_S:List UInt8)(e:Unit):jmp N (js2 N ) ((js1 zc7 a_N a_S zx3 b_N b_S) e) ((js3 zc7 a_N a_S zx3 b_N b_S) e)=at1 N (wf9 N zc7 a_N a_S zx3 b_N b_S e):=qj5 (by kernel_rfl) N
def zv9 (N:Nat)(a b:q00)(l1:Int→Int→(List UInt8)→Int→Int→(List UInt8)→Unit→Option (Int×Bool×Unit)):Option (Int×Bool×Unit):=(q73 N a).bind fun r=>bif r then (q73 N b).bind fun r1=>bif r1 then (wy8 N a).bind fun r2=>(wy8 N b).bind fun r3=>bif (!(r2.1==r3.1)) then bif r2.1 then some ((-1),true,()) else some (1,true,()) else (qi2 N r2.2.1 r3.2.1).bind fun r4=>(qi2 N r2.2.2.1 r3.2.2.1).bind fun r5=>(w65 N [r4,r5]).bind fun r6=>bif r2.1 then bif q24 (0-r6) then some (0-r6,true,()) else none else some (r6,true,()) else l1 a.1 a.2.1 a.2.2.1 b.1 b.2.1 b.2.2.1 () else l1 a.1 a.2.1 a.2.2.1 b.1 b.2.1 b.2.2.1 ()
def q93 (N:Nat)(a b:q00):Option (Int×Bool×Unit):=zv9 N a b (fun zc7 a_N a_S zx3 b_N b_S e=>at1 N (wf9 N zc7 a_N a_S zx3 b_N b_S e))
noncomputable def yf7 (N:Nat)(a b:q00):Option (RT [(.int .i64),.bool]):=q20 DR Tryz.prog N (zv8 N) wr0 Tryz.f155 (q31 Tryz.f155) (RT [(.int .i64),.bool]) (qb7 [q05,q05] (a,b,())) [] (q38 [(.int .i64),.bool])
theorem v00 (N:Nat)(a b:q00):yf7 N a b=q93 N a b:=by
 have h:yf7 N a b=zv9 N a b (fun zc7 a_N a_S zx3 b_N b_S e=>jmp N (js2 N ) (js1 zc7 a_N a_S zx3 b_N b_S e) (js3 zc7 a_N a_S zx3 b_N b_S e)):=by kernel_rfl
 rw[h]
 simp only[q93,ve2]<;>rfl
def xj2 (m:q00→q00→Option (Int×Bool×Unit)):Ent:=q29 [q05,q05] [(.int .i64),.bool] fun (x:Els [q05,q05])=>m x.1 x.2.1
def ql5 (N:Nat):Ent:=xj2 (q93 N)
theorem qm3 (N:Nat):q16 Tryz.prog 155 (ql5 N):=q10 (ve1 N) Tryz.func155 rfl (by kernel_rfl) fun (x:Els [q05,q05])=>v00 N x.1 x.2.1
def yr7 :LH:=⟨[(5,.lst q05),(6,.int .i64),(7,.int .i64)],[],[]⟩
def zm5 :FH:=⟨[yr7],[],[],[],false,[],[]⟩
noncomputable def ji1 (N:Nat):q46:=tab []
theorem u93 (N:Nat):q13 Tryz.prog (ji1 N):=q25 _
noncomputable def ys0 :Sc:=w89 Tryz.prog zm5
noncomputable def yr9 (N:Nat):Cfg:=⟨N,ji1 N,0⟩
noncomputable def vl5 (N:Nat):Exit→KT Bool:=fin Tryz.prog 0 Tryz.f157.results.toList (q38 [.bool])
def j23 (l:List q00)(t6 e:Int):List TV:=match e with|t7=>frm 15 [(5,.tl q05 l .unk),(6,.int .i64 t6),(7,.int .i64 t7)]
def j24 (l:List q00)(t6 e:Int):List TOb:=match e with|t7=>[]
noncomputable def yr8 (N:Nat):(KT Bool)→KT Bool:=qy2 DR ys0 (yr9 N) (nv [5,4,1,0,1] Tryz.f157) yr7 (zm5.loops.drop 1) (qd6 0 (qa6 DR ys0 (yr9 N) (nv [1,1] Tryz.f157) (zm5.loops.drop 1) (vl5 N)))
def j22 (N:Nat)(l:List q00)(t6:Int)(K0:Int→Option Bool)(e:Int):Option Bool:=match e with|t7=>bif decide (t7<t6) then bif inR t7 l.length then bif (((q17 l t7 q26).1)==0) then some true else bif q24 (t7+1) then K0 (t7+1) else none else none else some false
theorem u94 (N:Nat)(l:List q00)(t6:Int)(n_:Nat)(e:Int):q55 (yr8 N ) n_ ((j23 l t6) e) ((j24 l t6) e)=q80 (j22 N l t6 ) n_ e :=
 q36 (j23 l t6) (j24 l t6) (by intro K e;kernel_rfl) n_ e
def ji2 (N:Nat)(l:List q00)(l1:(List q00)→Int→Int→Option Bool):Option Bool:=l1 l (l.length:Int) 0
def q82 (N:Nat)(l:List q00):Option Bool:=ji2 N l (fun l t6 e=>q80 (j22 N l t6) N e)
noncomputable def xa4 (N:Nat)(l:List q00):Option (RT [.bool]):=q20 DR Tryz.prog N (ji1 N) zm5 Tryz.f157 (q31 Tryz.f157) (RT [.bool]) (qb7 [(.list q05)] (l,())) [] (q38 [.bool])
theorem vl6 (N:Nat)(l:List q00):xa4 N l=q82 N l:=by
 have h:xa4 N l=ji2 N l (fun l t6 e=>q55 (yr8 N ) N (j23 l t6 e) (j24 l t6 e)):=by kernel_rfl
 rw[h]
 simp only[q82,u94]<;>rfl
def vb2 (m:(List q00)→Option Bool):Ent:=q29 [(.list q05)] [.bool] fun (x:Els [(.list q05)])=>m x.1
def qb5 (N:Nat):Ent:=vb2 (q82 N)
theorem qa9 (N:Nat):q16 Tryz.prog 157 (qb5 N):=q10 (u93 N) Tryz.func157 rfl (by kernel_rfl) fun (x:Els [(.list q05)])=>vl6 N x.1
noncomputable def wm1 (N:Nat):q46:=tab []
theorem j61 (N:Nat):q13 Tryz.prog (wm1 N):=q25 _
noncomputable def wd7 (N:Nat):Ent:=zt4 Tryz.prog N (wm1 N) ⟨[],[],[],[],false,[],[]⟩ Tryz.f156 (q31 Tryz.f156)
theorem zq3 (N:Nat):q16 Tryz.prog 156 (wd7 N):=qc4 (j61 N) Tryz.func156 rfl (by kernel_rfl)
def qf8 :FH:=⟨[],[],[(1,⟨11,53,0,[],[]⟩),(4,⟨10,53,0,[],[]⟩)],[],false,[],[(4,⟨[(0,.lst q05),(2,.asis),(4,.asis)],[],[.cells [.int .u8,.int .i64,.str,.int .i64]]⟩),(5,⟨[(0,.lst q05),(2,.asis),(4,.asis),(5,.int .i64),(6,.bool)],[],[.cells [.int .u8,.int .i64,.str,.int .i64]]⟩)]⟩
noncomputable def wg2 (N:Nat):q46:=tab [(155,ql5 N),(156,wd7 N),(90,qd0 N),(157,qb5 N),(76,q91 N)]
theorem ym4 (N:Nat):q13 Tryz.prog (wg2 N):=q06 (qm3 N)<|q06 (zq3 N)<|q06 (qc3 N)<|q06 (qa9 N)<|q06 (q81 N)<|q25 _
noncomputable def qe8 :Sc:=w89 Tryz.prog qf8
noncomputable def qe7 (N:Nat):Cfg:=⟨N,wg2 N,0⟩
noncomputable def z09 (N:Nat):Exit→KT q03:=fin Tryz.prog 0 Tryz.f154.results.toList (q38 [q08])
def zd6 (l:List q00)(c:Int)(ok t2:Bool)(e:Unit):List TV:=frm 53 [(0,.tl q05 l .unk),(2,.ep [.bool t2] 0),(4,.ref 0 0),(5,.int .i64 c),(6,.bool ok)]
def ze0 (l:List q00)(c:Int)(ok t2:Bool)(e:Unit):List TOb:=[.cells [.int .u8 0,.int .i64 0,.str [],.int .i64 0] 115 true]
def zd5 (l:List q00)(t2:Bool)(e:Unit):List TV:=frm 53 [(0,.tl q05 l .unk),(2,.ep [.bool t2] 0),(4,.ref 0 0)]
def zd9 (l:List q00)(t2:Bool)(e:Unit):List TOb:=[.cells [.int .u8 0,.int .i64 0,.str [],.int .i64 0] 115 true]
noncomputable def zd7 (N:Nat):KT q03:=yr0 DR qe8 (qe7 N) (nv [0,2,1,4,0,1,1,1] Tryz.f154) (qa6 DR qe8 (qe7 N) (nv [1,2,1,4,0,1,1,1] Tryz.f154) (qf8.loops.drop 0) (qd6 0 (qa6 DR qe8 (qe7 N) (nv [1,1,1,1] Tryz.f154) (qf8.loops.drop 0) (z09 N))))
def qr5 (N:Nat)(l:List q00)(t2:Bool)(e:Unit):Option q03:=bif inR 0 l.length then bif inR 1 l.length then (q97 N ((((q17 l 0 q26).1)==((q17 l 1 q26).1))==t2)).bind fun r1=>some (r1,0,()) else none else none
theorem ym5 (N:Nat)(l:List q00)(t2:Bool)(e:Unit):jmp N (zd7 N ) ((zd5 l t2) e) ((zd9 l t2) e)=at1 N (qr5 N l t2 e):=qj5 (by kernel_rfl) N
noncomputable def zd8 (N:Nat):KT q03:=yr0 DR qe8 (qe7 N) (nv [0,3,1,4,0,1,1,1] Tryz.f154) (qa6 DR qe8 (qe7 N) (nv [1,3,1,4,0,1,1,1] Tryz.f154) (qf8.loops.drop 0) (qd6 0 (qa6 DR qe8 (qe7 N) (nv [1,1,1,1] Tryz.f154) (qf8.loops.drop 0) (z09 N))))
def qr6 (N:Nat)(l:List q00)(c:Int)(ok t2:Bool)(e:Unit):Option q03:=(q82 N l).bind fun r2=>bif r2 then some ((0,0,[],()),0,()) else bif (!ok) then (qd8 N 8).bind fun r3=>some r3 else (q97 N ((c==0)==t2)).bind fun r4=>some (r4,0,())
theorem ym6 (N:Nat)(l:List q00)(c:Int)(ok t2:Bool)(e:Unit):jmp N (zd8 N ) ((zd6 l c ok t2) e) ((ze0 l c ok t2) e)=at1 N (qr6 N l c ok t2 e):=qj5 (by kernel_rfl) N
def wg3 (N:Nat)(l:List q00)(t1:List q03)(t11:List Bool)(t2:Bool)(l1:(List q00)→Bool→Unit→Option q03)(l2:(List q00)→Int→Bool→Bool→Unit→Option q03):Option q03:=bif inR 0 l.length then bif inR 1 l.length then (q93 N (q17 l 0 q26) (q17 l 1 q26)).bind fun r=>bif decide ((0:Int)<(t11.length:Int)) then bif inR 0 t11.length then bif (q17 t11 0 false) then l1 l t2 () else bif decide ((1:Int)<(t11.length:Int)) then bif inR 1 t11.length then bif (q17 t11 1 false) then l1 l t2 () else l2 l r.1 r.2.1 t2 () else none else l2 l r.1 r.2.1 t2 () else none else bif decide ((1:Int)<(t11.length:Int)) then bif inR 1 t11.length then bif (q17 t11 1 false) then l1 l t2 () else l2 l r.1 r.2.1 t2 () else none else l2 l r.1 r.2.1 t2 () else none else none
def qf7 (N:Nat)(l:List q00)(t1:List q03)(t11:List Bool)(t2:Bool):Option q03:=wg3 N l t1 t11 t2 (fun l t2 e=>at1 N (qr5 N l t2 e)) (fun l c ok t2 e=>at1 N (qr6 N l c ok t2 e))
abbrev ze1 :List PK:=[.val (.list q05),.ep 2,.val (.list q08),.val (.list .bool),.ep 1,.val .bool]
noncomputable def zq4 (N:Nat)(l:List q00)(t1:List q03)(t11:List Bool)(t2:Bool):Option (RT [q08]):=q20 DR Tryz.prog N (wg2 N) qf8 Tryz.f154 (q31 Tryz.f154) (RT [q08]) (w01 ze1 (l,t1,t11,t2,())) [] (q38 [q08])
theorem y23 (N:Nat)(l:List q00)(t1:List q03)(t11:List Bool)(t2:Bool):zq4 N l t1 t11 t2=qf7 N l t1 t11 t2:=by
 have h:zq4 N l t1 t11 t2=wg3 N l t1 t11 t2 (fun l t2 e=>jmp N (zd7 N ) (zd5 l t2 e) (zd9 l t2 e)) (fun l c ok t2 e=>jmp N (zd8 N ) (zd6 l c ok t2 e) (ze0 l c ok t2 e)):=by kernel_rfl
 rw[h]
 simp only[qf7,ym5,ym6]<;>rfl
def ju5 (m:(List q00)→(List q03)→(List Bool)→Bool→Option q03):Ent:=qf5 ze1 [q08] fun (x:Els [(.list q05),(.list q08),(.list .bool),.bool])=>m x.1 x.2.1 x.2.2.1 x.2.2.2.1
def z08 (N:Nat):Ent:=ju5 (qf7 N)
theorem ji4 (N:Nat):q16 Tryz.prog 154 (z08 N):=q57 (ym4 N) Tryz.func154 rfl (by kernel_rfl) (by kernel_rfl) fun (x:Els [(.list q05),(.list q08),(.list .bool),.bool])=>y23 N x.1 x.2.1 x.2.2.1 x.2.2.2.1
def j63 :LH:=⟨[(2,.asis),(3,.asis),(6,.asis),(7,.own q05 507 26 3),(10,.int .i64),(11,.int .i64)],[],[.cells [.lst q08,.lst .bool],.cells [.int .u8,.int .i64,.str,.int .i64]]⟩
def wf1 :FH:=⟨[j63],[],[],[],false,[],[]⟩
noncomputable def za5 (N:Nat):q46:=tab [(153,q58 N),(154,z08 N)]
theorem xn5 (N:Nat):q13 Tryz.prog (za5 N):=q06 (q53 N)<|q06 (ji4 N)<|q25 _
noncomputable def j67 :Sc:=w89 Tryz.prog wf1
noncomputable def j65 (N:Nat):Cfg:=⟨N,za5 N,0⟩
noncomputable def xb0 (N:Nat):Exit→KT q03:=fin Tryz.prog 0 Tryz.f99.results.toList (q38 [q08])
def wu2 (n:Int)(k_l:List q03)(q09:List Bool)(q04 q21:Int)(q22:List UInt8)(q66:Int)(yr2:List q03)(q92:List Bool)(t2:Bool)(e:List q00×Int):List TV:=match e with|(l,t11)=>frm 30 [(2,.func (.func 154) [.ep [.tl q08 yr2 .unk,.tl .bool q92 .unk] 0,.ep [.bool t2] 0]),(3,.ref 0 0),(6,.ref 1 0),(7,.tl q05 l (.own 507 26 3)),(10,.int .i64 n),(11,.int .i64 t11)]
def wu3 (n:Int)(k_l:List q03)(q09:List Bool)(q04 q21:Int)(q22:List UInt8)(q66:Int)(yr2:List q03)(q92:List Bool)(t2:Bool)(e:List q00×Int):List TOb:=match e with|(l,t11)=>[.cells [.tl q08 k_l .unk,.tl .bool q09 .unk] 118 true,.cells [.int .u8 q04,.int .i64 q21,.str q22,.int .i64 q66] 115 true]
noncomputable def j64 (N:Nat):(KT q03)→KT q03:=qy2 DR j67 (j65 N) (nv [5,4,1,0,1,1] Tryz.f99) j63 (wf1.loops.drop 1) (qd6 0 (qa6 DR j67 (j65 N) (nv [1,1,1] Tryz.f99) (wf1.loops.drop 1) (xb0 N)))
def wu1 (N:Nat)(n:Int)(k_l:List q03)(q09:List Bool)(q04 q21:Int)(q22:List UInt8)(q66:Int)(yr2:List q03)(q92:List Bool)(t2:Bool)(K0:(List q00×Int)→Option q03)(e:List q00×Int):Option q03:=match e with|(l,t11)=>bif decide (t11<n) then (q65 N (k_l,q09,()) t11).bind fun r=>bif (r.2.1 != 0) then some r else bif qr1 (l.length+([r.1]:List q00).length) 4398046511104 then bif q24 (t11+1) then K0 ((l++([r.1]:List q00)),t11+1) else none else none else (qf7 N l yr2 q92 t2).bind fun r1=>some r1
theorem xn7 (N:Nat)(n:Int)(k_l:List q03)(q09:List Bool)(q04 q21:Int)(q22:List UInt8)(q66:Int)(yr2:List q03)(q92:List Bool)(t2:Bool)(n_:Nat)(e:List q00×Int):q55 (j64 N ) n_ ((wu2 n k_l q09 q04 q21 q22 q66 yr2 q92 t2) e) ((wu3 n k_l q09 q04 q21 q22 q66 yr2 q92 t2) e)=q80 (wu1 N n k_l q09 q04 q21 q22 q66 yr2 q92 t2 ) n_ e :=
 q36 (wu2 n k_l q09 q04 q21 q22 q66 yr2 q92 t2) (wu3 n k_l q09 q04 q21 q22 q66 yr2 q92 t2) (by intro K e;obtain⟨l,t11⟩:=e;kernel_rfl) n_ e
def jq9 (N:Nat)(k:q35)(n:Int)(yr2:List q03)(q92:List Bool)(t2:Bool)(l1:Int→(List q03)→(List Bool)→Int→Int→(List UInt8)→Int→(List q03)→(List Bool)→Bool→(List q00×Int)→Option q03):Option q03:=l1 n k.1 k.2.1 0 0 [] 0 yr2 q92 t2 ([],0)
def wd8 (N:Nat)(k:q35)(n:Int)(yr2:List q03)(q92:List Bool)(t2:Bool):Option q03:=jq9 N k n yr2 q92 t2 (fun n k_l q09 q04 q21 q22 q66 yr2 q92 t2 e=>q80 (wu1 N n k_l q09 q04 q21 q22 q66 yr2 q92 t2) N e)
abbrev j66 :List PK:=[.val q69,.val (.int .i64),.fn 154 2,.ep 2,.val (.list q08),.val (.list .bool),.ep 1,.val .bool]
noncomputable def jq8 (N:Nat)(k:q35)(n:Int)(yr2:List q03)(q92:List Bool)(t2:Bool):Option (RT [q08]):=q20 DR Tryz.prog N (za5 N) wf1 Tryz.f99 (q31 Tryz.f99) (RT [q08]) (w01 j66 (k,n,yr2,q92,t2,())) [] (q38 [q08])
theorem xb1 (N:Nat)(k:q35)(n:Int)(yr2:List q03)(q92:List Bool)(t2:Bool):jq8 N k n yr2 q92 t2=wd8 N k n yr2 q92 t2:=by
 have h:jq8 N k n yr2 q92 t2=jq9 N k n yr2 q92 t2 (fun n k_l q09 q04 q21 q22 q66 yr2 q92 t2 e=>q55 (j64 N ) N (wu2 n k_l q09 q04 q21 q22 q66 yr2 q92 t2 e) (wu3 n k_l q09 q04 q21 q22 q66 yr2 q92 t2 e)):=by kernel_rfl
 rw[h]
 simp only[wd8,xn7]<;>rfl
def yx0 (m:q35→Int→(List q03)→(List Bool)→Bool→Option q03):Ent:=qf5 j66 [q08] fun (x:Els [q69,(.int .i64),(.list q08),(.list .bool),.bool])=>m x.1 x.2.1 x.2.2.1 x.2.2.2.1 x.2.2.2.2.1
def zy3 (N:Nat):Ent:=yx0 (wd8 N)
theorem ym8 (N:Nat):q16 Tryz.prog 99 (zy3 N):=q57 (xn5 N) Tryz.func99 rfl (by kernel_rfl) (by kernel_rfl) fun (x:Els [q69,(.int .i64),(.list q08),(.list .bool),.bool])=>xb1 N x.1 x.2.1 x.2.2.1 x.2.2.2.1 x.2.2.2.2.1
def xn3 :FH:=⟨[],[],[],[],false,[99],[]⟩
noncomputable def j62 (N:Nat):q46:=tab [(99,zy3 N)]
theorem xa8 (N:Nat):q13 Tryz.prog (j62 N):=q06 (ym8 N)<|q25 _
def w30 (N:Nat)(k:q35)(as_:Bool):Option q03:=(wd8 N k 2 k.1 k.2.1 as_).bind fun r=>some r
noncomputable def xn2 (N:Nat)(k:q35)(as_:Bool):Option (RT [q08]):=q20 DR Tryz.prog N (j62 N) xn3 Tryz.f82 (q31 Tryz.f82) (RT [q08]) (qb7 [q69,.bool] (k,as_,())) [] (q38 [q08])
theorem yw9 (N:Nat)(k:q35)(as_:Bool):xn2 N k as_=w30 N k as_:=by kernel_rfl
def ym7 (m:q35→Bool→Option q03):Ent:=q29 [q69,.bool] [q08] fun (x:Els [q69,.bool])=>m x.1 x.2.1
def zq5 (N:Nat):Ent:=ym7 (w30 N)
theorem y24 (N:Nat):q16 Tryz.prog 82 (zq5 N):=q10 (xa8 N) Tryz.func82 rfl (by kernel_rfl) fun (x:Els [q69,.bool])=>yw9 N x.1 x.2.1
def v28 :LH:=⟨[(0,.int .u8),(1,.int .u8),(9,.lst q05),(10,.int .i64),(11,.int .i64)],[],[]⟩
def ji0 :FH:=⟨[v28],[],[],[],false,[],[]⟩
noncomputable def yw3 (N:Nat):q46:=tab []
theorem kc4 (N:Nat):q13 Tryz.prog (yw3 N):=q25 _
noncomputable def v31 :Sc:=w89 Tryz.prog ji0
noncomputable def v30 (N:Nat):Cfg:=⟨N,yw3 N,0⟩
noncomputable def ut8 (N:Nat):Exit→KT Bool:=fin Tryz.prog 0 Tryz.f159.results.toList (q38 [.bool])
def y19 (least most:Int)(l:List q00)(t10 e:Int):List TV:=match e with|t11=>frm 31 [(0,.int .u8 least),(1,.int .u8 most),(9,.tl q05 l .unk),(10,.int .i64 t10),(11,.int .i64 t11)]
def y20 (least most:Int)(l:List q00)(t10 e:Int):List TOb:=match e with|t11=>[]
noncomputable def v29 (N:Nat):(KT Bool)→KT Bool:=qy2 DR v31 (v30 N) (nv [5,4,1,0,1] Tryz.f159) v28 (ji0.loops.drop 1) (qd6 0 (qa6 DR v31 (v30 N) (nv [1,1] Tryz.f159) (ji0.loops.drop 1) (ut8 N)))
def y18 (N:Nat)(least most:Int)(l:List q00)(t10:Int)(K0:Int→Option Bool)(e:Int):Option Bool:=match e with|t11=>bif decide (t11<t10) then bif inR t11 l.length then bif (((q17 l t11 q26).1) != 0) then bif decide (((q17 l t11 q26).1)<least) then some false else bif decide (((q17 l t11 q26).1)>most) then some false else bif q24 (t11+1) then K0 (t11+1) else none else bif q24 (t11+1) then K0 (t11+1) else none else none else some true
theorem kc5 (N:Nat)(least most:Int)(l:List q00)(t10:Int)(n_:Nat)(e:Int):q55 (v29 N ) n_ ((y19 least most l t10) e) ((y20 least most l t10) e)=q80 (y18 N least most l t10 ) n_ e :=
 q36 (y19 least most l t10) (y20 least most l t10) (by intro K e;kernel_rfl) n_ e
def yw4 (N:Nat)(least most:Int)(l:List q00)(l1:Int→Int→(List q00)→Int→Int→Option Bool):Option Bool:=l1 least most l (l.length:Int) 0
def qb2 (N:Nat)(least most:Int)(l:List q00):Option Bool:=yw4 N least most l (fun least most l t10 e=>q80 (y18 N least most l t10) N e)
noncomputable def vl2 (N:Nat)(least most:Int)(l:List q00):Option (RT [.bool]):=q20 DR Tryz.prog N (yw3 N) ji0 Tryz.f159 (q31 Tryz.f159) (RT [.bool]) (qb7 [(.int .u8),(.int .u8),(.list q05)] (least,most,l,())) [] (q38 [.bool])
theorem ut9 (N:Nat)(least most:Int)(l:List q00):vl2 N least most l=qb2 N least most l:=by
 have h:vl2 N least most l=yw4 N least most l (fun least most l t10 e=>q55 (v29 N ) N (y19 least most l t10 e) (y20 least most l t10 e)):=by kernel_rfl
 rw[h]
 simp only[qb2,kc5]<;>rfl
def u91 (m:Int→Int→(List q00)→Option Bool):Ent:=q29 [(.int .u8),(.int .u8),(.list q05)] [.bool] fun (x:Els [(.int .u8),(.int .u8),(.list q05)])=>m x.1 x.2.1 x.2.2.1
def qd9 (N:Nat):Ent:=u91 (qb2 N)
theorem qc6 (N:Nat):q16 Tryz.prog 159 (qd9 N):=q10 (kc4 N) Tryz.func159 rfl (by kernel_rfl) fun (x:Els [(.int .u8),(.int .u8),(.list q05)])=>ut9 N x.1 x.2.1 x.2.2.1
def vn3 :FH:=⟨[],[],[],[],false,[],[]⟩
noncomputable def y92 (N:Nat):q46:=tab []
theorem vc2 (N:Nat):q13 Tryz.prog (y92 N):=q25 _
def wn2 (N:Nat)(c:Int):Option Bool:=some (decide (c<0))
noncomputable def vn2 (N:Nat)(c:Int):Option (RT [.bool]):=q20 DR Tryz.prog N (y92 N) vn3 Tryz.f84 (q31 Tryz.f84) (RT [.bool]) (qb7 [(.int .i64)] (c,())) [] (q38 [.bool])
theorem xo5 (N:Nat)(c:Int):vn2 N c=wn2 N c:=by kernel_rfl
def xc3 (m:Int→Option Bool):Ent:=q29 [(.int .i64)] [.bool] fun (x:Els [(.int .i64)])=>m x.1
def j93 (N:Nat):Ent:=xc3 (wn2 N)
theorem yy1 (N:Nat):q16 Tryz.prog 84 (j93 N):=q10 (vc2 N) Tryz.func84 rfl (by kernel_rfl) fun (x:Els [(.int .i64)])=>xo5 N x.1
def yx4 :FH:=⟨[],[],[(5,⟨11,35,0,[],[]⟩)],[],false,[],[]⟩
noncomputable def zs6 (N:Nat):q46:=tab [(159,qd9 N),(76,q91 N),(157,qb5 N),(155,ql5 N),(84,j93 N),(90,qd0 N)]
theorem yq0 (N:Nat):q13 Tryz.prog (zs6 N):=q06 (qc6 N)<|q06 (q81 N)<|q06 (qa9 N)<|q06 (qm3 N)<|q06 (yy1 N)<|q06 (qc3 N)<|q25 _
def qu5 (N:Nat)(l:List q00):Option q03:=(qb2 N 1 2 l).bind fun r=>bif (!r) then (qb2 N 3 3 l).bind fun r1=>bif (!r1) then (qd8 N 8).bind fun r2=>some r2 else (q82 N l).bind fun r3=>bif r3 then some ((0,0,[],()),0,()) else bif inR 0 l.length then bif inR 1 l.length then (q93 N (q17 l 0 q26) (q17 l 1 q26)).bind fun r4=>(wn2 N r4.1).bind fun r5=>(q97 N r5).bind fun r6=>some (r6,0,()) else none else none else (q82 N l).bind fun r7=>bif r7 then some ((0,0,[],()),0,()) else bif inR 0 l.length then bif inR 1 l.length then (q93 N (q17 l 0 q26) (q17 l 1 q26)).bind fun r8=>(wn2 N r8.1).bind fun r9=>(q97 N r9).bind fun r10=>some (r10,0,()) else none else none
abbrev zk5 :List PK:=[.val (.list q05),.ep 1,.fn 84 0]
noncomputable def yx3 (N:Nat)(l:List q00):Option (RT [q08]):=q20 DR Tryz.prog N (zs6 N) yx4 Tryz.f158 (q31 Tryz.f158) (RT [q08]) (w01 zk5 (l,())) [] (q38 [q08])
theorem y77 (N:Nat)(l:List q00):yx3 N l=qu5 N l:=by kernel_rfl
def jx7 (m:(List q00)→Option q03):Ent:=qf5 zk5 [q08] fun (x:Els [(.list q05)])=>m x.1
def z65 (N:Nat):Ent:=jx7 (qu5 N)
theorem jk7 (N:Nat):q16 Tryz.prog 158 (z65 N):=q57 (yq0 N) Tryz.func158 rfl (by kernel_rfl) (by kernel_rfl) fun (x:Els [(.list q05)])=>y77 N x.1
end Go.Proofs.YtgicljncknbgcaaGreat.Abs
