/- The functions of the program, told on typed values, printed by a program: each tells what the reckoning of its body tells. -/
import Derived.Test.YtgicljncknbgcaaGreatL7
import Derived.Test.YtgicljncknbgcaaGreatG2
import Derived.Test.YtgicljncknbgcaaGreatLA
import Derived.Test.YtgicljncknbgcaaGreatProg
set_option linter.unusedVariables false
set_option linter.unusedSimpArgs false
set_option linter.unusedSectionVars false
namespace Go.Proofs.YtgicljncknbgcaaGreat.Abs
set_option maxRecDepth 100000
open Go Go.Proofs
abbrev qf8 :yk9:=⟨[.ref 0,.val (.int .i64)],[.cells [.val (.list qc9),.val (.int .i64),.val (.int .i64),.own q79 2003 54 8,.val (.int .i64),.val (.int .i64)] 161],[.arg 0 []],[.val (.int .i64)],true⟩
def qf7 (m:(List q36)→Int→Int→(List q23)→Int→Int→Int→Option OX0):Ent:=yw0 qf8 fun (y:OX2×Unit) (x:Els [(.int .i64)])=>m y.1.1 y.1.2.1 y.1.2.2.1 y.1.2.2.2.1 y.1.2.2.2.2.1 y.1.2.2.2.2.2.1 x.1
abbrev qg5 :yk9:=⟨[.ref 0],[.cells [.val (.list qc9),.val (.int .i64),.val (.int .i64),.own q79 2003 54 8,.val (.int .i64),.val (.int .i64)] 161],[.arg 0 []],[.val (.int .i64)],true⟩
def wd0 (m:(List q36)→Int→Int→(List q23)→Int→Int→Option OX0):Ent:=yw0 qg5 fun (y:OX2×Unit) (x:Els [])=>m y.1.1 y.1.2.1 y.1.2.2.1 y.1.2.2.2.1 y.1.2.2.2.2.1 y.1.2.2.2.2.2.1 
abbrev qg4 :yk9:=⟨[.ref 0,.val (.int .u8),.val (.int .i64),.val (.int .i64)],[.cells [.val (.list qc9),.val (.int .i64),.val (.int .i64),.own q79 2003 54 8,.val (.int .i64),.val (.int .i64)] 161],[.arg 0 []],[.val (.int .i64)],true⟩
def we2 (m:(List q36)→Int→Int→(List q23)→Int→Int→Int→Int→Int→Option OX0):Ent:=yw0 qg4 fun (y:OX2×Unit) (x:Els [(.int .u8),(.int .i64),(.int .i64)])=>m y.1.1 y.1.2.1 y.1.2.2.1 y.1.2.2.2.1 y.1.2.2.2.2.1 y.1.2.2.2.2.2.1 x.1 x.2.1 x.2.2.1
structure Gr0 where
 n:Nat
 r7_Reader_expr:(List q36)→Int→Int→(List q23)→Int→Int→Int→Option OX0
 r7_Reader_atom:(List q36)→Int→Int→(List q23)→Int→Int→Option OX0
 r7_Reader_call:(List q36)→Int→Int→(List q23)→Int→Int→Int→Int→Int→Option OX0
structure vh9 (N:Gr0):Prop where
 r7_Reader_expr:q16 Tryz.prog 65 (qf7 N.r7_Reader_expr)
 r7_Reader_atom:q16 Tryz.prog 141 (wd0 N.r7_Reader_atom)
 r7_Reader_call:q16 Tryz.prog 207 (we2 N.r7_Reader_call)
def wr8 :LH:=⟨[(0,.asis),(1,.int .i64),(8,.int .i64)],[(0,[.lst qc9,.int .i64,.int .i64,.own q79 2003 54 8,.int .i64,.int .i64])],[.cells [.int .i64,.int .i64]]⟩
def q75 :FH:=⟨[wr8],[],[],[],false,[142,143],[(6,⟨[(0,.asis),(1,.int .i64),(5,.asis)],[(0,[.lst qc9,.int .i64,.int .i64,.own q79 2003 54 8,.int .i64,.int .i64])],[.cells [.int .i64,.int .i64]]⟩),(7,⟨[(0,.asis),(1,.int .i64),(5,.asis)],[(0,[.lst qc9,.int .i64,.int .i64,.own q79 2003 54 8,.int .i64,.int .i64])],[.cells [.int .i64,.int .i64]]⟩),(10,⟨[(0,.asis),(1,.int .i64),(5,.asis),(6,.int .u8)],[(0,[.lst qc9,.int .i64,.int .i64,.own q79 2003 54 8,.int .i64,.int .i64])],[.cells [.int .i64,.int .i64]]⟩),(11,⟨[(0,.asis),(1,.int .i64),(5,.asis),(6,.int .u8)],[(0,[.lst qc9,.int .i64,.int .i64,.own q79 2003 54 8,.int .i64,.int .i64])],[.cells [.int .i64,.int .i64]]⟩),(17,⟨[(0,.asis),(1,.int .i64)],[(0,[.lst qc9,.int .i64,.int .i64,.own q79 2003 54 8,.int .i64,.int .i64])],[.cells [.int .i64,.int .i64]]⟩),(20,⟨[(0,.asis),(1,.int .i64),(8,.int .i64),(9,.asis)],[(0,[.lst qc9,.int .i64,.int .i64,.own q79 2003 54 8,.int .i64,.int .i64])],[.cells [.int .i64,.int .i64],.cells [.int .u8,.int .u8,.int .i64,.str,.str,.own (.int .i64) 2205 3 1,.int .i64,.int .i64]]⟩)]⟩
noncomputable def z38 (N:Gr0):q48:=tab [(141,wd0 N.r7_Reader_atom),(142,w07 N.n),(143,qn5 N.n),(144,ql1 N.n),(65,qf7 N.r7_Reader_expr),(145,w24 N.n),(146,xk3 N.n)]
theorem xb9 (N:Gr0)(h:vh9 N):q13 Tryz.prog (z38 N):=q06 h.r7_Reader_atom <| q06 (wi5 N.n) <| q06 (qp4 N.n) <| q06 (qt4 N.n) <| q06 h.r7_Reader_expr <| q06 (we3 N.n) <| q06 (vv2 N.n) <| q27 _
noncomputable def q54 :Sc:=wl6 Tryz.prog q75
noncomputable def q53 (N:Gr0):Cfg:=⟨N.n,z38 N,1⟩
noncomputable def qd5 (N:Gr0):Exit→List TV→List TOb→Option OX0:=fin Tryz.prog 1 Tryz.f65.results.toList (kObj qf8)
def wq2 (level:Int)(q41:List q36)(q21 q18:Int)(q64:List q23)(q77 q28:Int)(e:Int×Int):List TV:=match e with
 | (q32,q46)=>frm 116 [(0,.ref 0 0),(1,.int .i64 level),(5,.ref 1 0)]
def wo5 (level:Int)(q41:List q36)(q21 q18:Int)(q64:List q23)(q77 q28:Int)(e:Int×Int):List TOb:=match e with
 | (q32,q46)=>[.cells [.tl qc9 q41 .unk,.int .i64 q21,.int .i64 q18,.tl q79 q64 (.own 2003 54 8),.int .i64 q77,.int .i64 q28] 161 true,.cells [.int .i64 q32,.int .i64 q46] 31 true]
def wq8 (level:Int)(q41:List q36)(q21 q18:Int)(q64:List q23)(q77 q28 q32 q46:Int)(e:Unit):List TV:=frm 116 [(0,.ref 0 0),(1,.int .i64 level)]
def wq7 (level:Int)(q41:List q36)(q21 q18:Int)(q64:List q23)(q77 q28 q32 q46:Int)(e:Unit):List TOb:=[.cells [.tl qc9 q41 .unk,.int .i64 q21,.int .i64 q18,.tl q79 q64 (.own 2003 54 8),.int .i64 q77,.int .i64 q28] 161 true,.cells [.int .i64 q32,.int .i64 q46] 31 true]
def qj6 (level q32 q46:Int)(e:Int×List q36×Int×Int×List q23×Int×Int):List TV:=match e with
 | (a,r_L,we1,qd0,r_T,yc3,qk2)=>frm 116 [(0,.ref 0 0),(1,.int .i64 level),(8,.int .i64 a)]
def qj5 (level q32 q46:Int)(e:Int×List q36×Int×Int×List q23×Int×Int):List TOb:=match e with
 | (a,r_L,we1,qd0,r_T,yc3,qk2)=>[.cells [.tl qc9 r_L .unk,.int .i64 we1,.int .i64 qd0,.tl q79 r_T (.own 2003 54 8),.int .i64 yc3,.int .i64 qk2] 161 true,.cells [.int .i64 q32,.int .i64 q46] 31 true]
def zz6 (level a:Int)(r_L:List q36)(we1 qd0:Int)(r_T:List q23)(yc3 qk2 q32 q46 r10:Int)(e:Int×Int):List TV:=match e with
 | (q14,q17)=>frm 116 [(0,.ref 0 0),(1,.int .i64 level),(8,.int .i64 a),(9,.ref 2 0)]
def j28 (level a:Int)(r_L:List q36)(we1 qd0:Int)(r_T:List q23)(yc3 qk2 q32 q46 r10:Int)(e:Int×Int):List TOb:=match e with
 | (q14,q17)=>[.cells [.tl qc9 r_L .unk,.int .i64 we1,.int .i64 qd0,.tl q79 r_T (.own 2003 54 8),.int .i64 yc3,.int .i64 qk2] 161 true,.cells [.int .i64 q32,.int .i64 q46] 31 true,.cells [.int .u8 r10,.int .u8 0,.int .i64 0,.str [],.str [],.tl (.int .i64) [] (.own 2205 3 1),.int .i64 q14,.int .i64 q17] 54 true]
def wp4 (level:Int)(q41:List q36)(q21 q18:Int)(q64:List q23)(q77 q28 q32 q46:Int)(e:Unit):List TV:=frm 116 [(0,.ref 0 0),(1,.int .i64 level),(5,.ref 1 0)]
def wo4 (level:Int)(q41:List q36)(q21 q18:Int)(q64:List q23)(q77 q28 q32 q46:Int)(e:Unit):List TOb:=[.cells [.tl qc9 q41 .unk,.int .i64 q21,.int .i64 q18,.tl q79 q64 (.own 2003 54 8),.int .i64 q77,.int .i64 q28] 161 true,.cells [.int .i64 q32,.int .i64 q46] 31 true]
def wp5 (level:Int)(q41:List q36)(q21 q18:Int)(q64:List q23)(q77 q28 q32 q46 e:Int):List TV:=match e with
 | op=>frm 116 [(0,.ref 0 0),(1,.int .i64 level),(5,.ref 1 0),(6,.int .u8 op)]
def wr3 (level:Int)(q41:List q36)(q21 q18:Int)(q64:List q23)(q77 q28 q32 q46 e:Int):List TOb:=match e with
 | op=>[.cells [.tl qc9 q41 .unk,.int .i64 q21,.int .i64 q18,.tl q79 q64 (.own 2003 54 8),.int .i64 q77,.int .i64 q28] 161 true,.cells [.int .i64 q32,.int .i64 q46] 31 true]
def j32 (level op:Int)(q41:List q36)(q21 qj0:Int)(q64:List q23)(q32 q46:Int)(e:Int×Int):List TV:=match e with
 | (r_E,zf0)=>frm 116 [(0,.ref 0 0),(1,.int .i64 level),(5,.ref 1 0),(6,.int .u8 op)]
def j54 (level op:Int)(q41:List q36)(q21 qj0:Int)(q64:List q23)(q32 q46:Int)(e:Int×Int):List TOb:=match e with
 | (r_E,zf0)=>[.cells [.tl qc9 q41 .unk,.int .i64 q21,.int .i64 qj0,.tl q79 q64 (.own 2003 54 8),.int .i64 r_E,.int .i64 zf0] 161 true,.cells [.int .i64 q32,.int .i64 q46] 31 true]
noncomputable def j48 (N:Gr0):List TV→List TOb→Option OX0:=ys5 DR q54 (q53 N) (q87 (q87 (q08 (q08 (q08 (ys1 (q08 (q87 (q08 (q08 (q08 (q08 (q10 Tryz.f65))))))))))))) (qc3 DR q54 (q53 N) (q08 (q87 (q08 (q08 (q08 (ys1 (q08 (q87 (q08 (q08 (q08 (q08 (q10 Tryz.f65))))))))))))) (q75.loops.drop 0) (qc3 DR q54 (q53 N) (q08 (q08 (q08 (q08 (ys1 (q08 (q87 (q08 (q08 (q08 (q08 (q10 Tryz.f65)))))))))))) (q75.loops.drop 0) (qc3 DR q54 (q53 N) (q08 (q08 (q08 (q08 (q08 (q10 Tryz.f65)))))) (q75.loops.drop 0) (qd5 N))))
def w45 (N:Gr0)(level op:Int)(q41:List q36)(q21 qj0:Int)(q64:List q23)(q32 q46:Int)(e:Int×Int):Option OX0 :=
 match e with
 | (r_E,zf0) =>
  bif (r_E != 0) then
   some (((q41,q21,qj0,q64,r_E,zf0,()),()),((-1),()))
  else
   bif q26 (q21 + 1) then
   (N.r7_Reader_expr q41 (q21 + 1) qj0 q64 r_E zf0 level).bind fun r4 =>
   bif q26 (r4.1.1.2.2.1 - 1) then
   (qo6 N.n r4.1.1.1 r4.1.1.2.1 (r4.1.1.2.2.1 - 1) r4.1.1.2.2.2.1 r4.1.1.2.2.2.2.1 r4.1.1.2.2.2.2.2.1 (op,(0,0,[],()),[],[r4.2.1],(q32,q46,()),())).bind fun r5 =>
   some (r5.1,r5.2)
   else none
   else none
theorem xd7 (N:Gr0)(level op:Int)(q41:List q36)(q21 qj0:Int)(q64:List q23)(q32 q46:Int)(e:Int×Int):jmp N.n (j48 N ) ((j32 level op q41 q21 qj0 q64 q32 q46) e) ((j54 level op q41 q21 qj0 q64 q32 q46) e)=at1 N.n (w45 N level op q41 q21 qj0 q64 q32 q46 e):=qn4 (by obtain ⟨r_E,zf0⟩:=e; kernel_rfl) N.n
noncomputable def wn9 (N:Gr0):List TV→List TOb→Option OX0:=ys5 DR q54 (q53 N) (q87 (q08 (q08 (ys1 (q08 (q87 (q08 (q08 (q08 (q08 (q10 Tryz.f65))))))))))) (qc3 DR q54 (q53 N) (q08 (q08 (q08 (ys1 (q08 (q87 (q08 (q08 (q08 (q08 (q10 Tryz.f65))))))))))) (q75.loops.drop 0) (qc3 DR q54 (q53 N) (q08 (q08 (q08 (q08 (q08 (q10 Tryz.f65)))))) (q75.loops.drop 0) (qd5 N)))
def wj0 (N:Gr0)(level:Int)(q41:List q36)(q21 q18:Int)(q64:List q23)(q77 q28 q32 q46:Int)(l5:Int→Int→(List q36)→Int→Int→(List q23)→Int→Int→(Int×Int)→Option OX0)(e:Int):Option OX0 :=
 match e with
 | op =>
  bif decide (q18 ≥ 12) then
   bif (q77 == 0) then
    bif q26 (q18 + 1) then
    l5 level op q41 q21 (q18 + 1) q64 q32 q46 (12,q21)
    else none
   else
    bif q26 (q18 + 1) then
    l5 level op q41 q21 (q18 + 1) q64 q32 q46 (q77,q28)
    else none
  else
   bif q26 (q18 + 1) then
   l5 level op q41 q21 (q18 + 1) q64 q32 q46 (q77,q28)
   else none
def qs2 (N:Gr0)(level:Int)(q41:List q36)(q21 q18:Int)(q64:List q23)(q77 q28 q32 q46 e:Int):Option OX0:=wj0 N level q41 q21 q18 q64 q77 q28 q32 q46 (fun level op q41 q21 qj0 q64 q32 q46 e=>at1 N.n (w45 N level op q41 q21 qj0 q64 q32 q46 e)) e
theorem xh9 (N:Gr0)(level:Int)(q41:List q36)(q21 q18:Int)(q64:List q23)(q77 q28 q32 q46 e:Int):jmp N.n (wn9 N ) ((wp5 level q41 q21 q18 q64 q77 q28 q32 q46) e) ((wr3 level q41 q21 q18 q64 q77 q28 q32 q46) e)=at1 N.n (qs2 N level q41 q21 q18 q64 q77 q28 q32 q46 e):=qn4 (by
 have h:(wn9 N ) ((wp5 level q41 q21 q18 q64 q77 q28 q32 q46) e) ((wr3 level q41 q21 q18 q64 q77 q28 q32 q46) e)=wj0 N level q41 q21 q18 q64 q77 q28 q32 q46 (fun level op q41 q21 qj0 q64 q32 q46 e=>jmp N.n (j48 N ) (j32 level op q41 q21 qj0 q64 q32 q46 e) (j54 level op q41 q21 qj0 q64 q32 q46 e)) e:=by kernel_rfl
 rw [h]
 simp only [qs2,xd7] <;> rfl) N.n
noncomputable def wo8 (N:Gr0):List TV→List TOb→Option OX0:=ys5 DR q54 (q53 N) (q87 (ys1 (q08 (q87 (q08 (q08 (q08 (q08 (q10 Tryz.f65))))))))) (qc3 DR q54 (q53 N) (q08 (ys1 (q08 (q87 (q08 (q08 (q08 (q08 (q10 Tryz.f65))))))))) (q75.loops.drop 0) (qc3 DR q54 (q53 N) (q08 (q08 (q08 (q08 (q08 (q10 Tryz.f65)))))) (q75.loops.drop 0) (qd5 N)))
def wi0 (N:Gr0)(level:Int)(q41:List q36)(q21 q18:Int)(q64:List q23)(q77 q28 q32 q46:Int)(l4:Int→(List q36)→Int→Int→(List q23)→Int→Int→Int→Int→Int→Option OX0)(e:Unit):Option OX0 :=
 bif (level == 6) then
  l4 level q41 q21 q18 q64 q77 q28 q32 q46 17
 else
  l4 level q41 q21 q18 q64 q77 q28 q32 q46 6
def qk1 (N:Gr0)(level:Int)(q41:List q36)(q21 q18:Int)(q64:List q23)(q77 q28 q32 q46:Int)(e:Unit):Option OX0:=wi0 N level q41 q21 q18 q64 q77 q28 q32 q46 (fun level q41 q21 q18 q64 q77 q28 q32 q46 e=>at1 N.n (qs2 N level q41 q21 q18 q64 q77 q28 q32 q46 e)) e
theorem xe4 (N:Gr0)(level:Int)(q41:List q36)(q21 q18:Int)(q64:List q23)(q77 q28 q32 q46:Int)(e:Unit):jmp N.n (wo8 N ) ((wp4 level q41 q21 q18 q64 q77 q28 q32 q46) e) ((wo4 level q41 q21 q18 q64 q77 q28 q32 q46) e)=at1 N.n (qk1 N level q41 q21 q18 q64 q77 q28 q32 q46 e):=qn4 (by
 have h:(wo8 N ) ((wp4 level q41 q21 q18 q64 q77 q28 q32 q46) e) ((wo4 level q41 q21 q18 q64 q77 q28 q32 q46) e)=wi0 N level q41 q21 q18 q64 q77 q28 q32 q46 (fun level q41 q21 q18 q64 q77 q28 q32 q46 e=>jmp N.n (wn9 N ) (wp5 level q41 q21 q18 q64 q77 q28 q32 q46 e) (wr3 level q41 q21 q18 q64 q77 q28 q32 q46 e)) e:=by kernel_rfl
 rw [h]
 simp only [qk1,xh9] <;> rfl) N.n
noncomputable def j22 (N:Gr0)(K0r:List TV→List TOb→Option OX0):List TV→List TOb→Option OX0:=ys5 DR q54 (q53 N) (q87 (q08 (qc4 (q08 (ql6 (qc4 (q87 (q08 (q08 (q08 (q08 (q08 (q08 (q10 Tryz.f65)))))))))))))) (qc3 DR q54 (q53 N) (q08 (q08 (qc4 (q08 (ql6 (qc4 (q87 (q08 (q08 (q08 (q08 (q08 (q08 (q10 Tryz.f65)))))))))))))) (q75.loops.drop 1) (qk0 1 (ud6 (q53 N) wr8 (qk0 0 (qc3 DR q54 (q53 N) (q08 (q08 (q08 (q08 (q08 (q08 (q08 (q10 Tryz.f65)))))))) (q75.loops.drop 1) (qd5 N))) K0r)))
def w30 (N:Gr0)(level a:Int)(r_L:List q36)(we1 qd0:Int)(r_T:List q23)(yc3 qk2 q32 q46 r10:Int)(K0:OX8→Option OX0)(e:Int×Int):Option OX0 :=
 match e with
 | (q14,q17) =>
  bif q26 (we1 + 1) then
  bif q26 (level + 1) then
  (N.r7_Reader_expr r_L (we1 + 1) qd0 r_T yc3 qk2 (level + 1)).bind fun r11 =>
  (qo6 N.n r11.1.1.1 r11.1.1.2.1 r11.1.1.2.2.1 r11.1.1.2.2.2.1 r11.1.1.2.2.2.2.1 r11.1.1.2.2.2.2.2.1 (r10,(0,0,[],()),[],[a,r11.2.1],(q14,q17,()),())).bind fun r12 =>
  bif (level == 3) then
   some (r12.1,r12.2)
  else
   K0 (r12.2.1,r12.1.1.1,r12.1.1.2.1,r12.1.1.2.2.1,r12.1.1.2.2.2.1,r12.1.1.2.2.2.2.1,r12.1.1.2.2.2.2.2.1)
  else none
  else none
theorem xj3 (N:Gr0)(level a:Int)(r_L:List q36)(we1 qd0:Int)(r_T:List q23)(yc3 qk2 q32 q46 r10:Int)(K0r:List TV→List TOb→Option OX0)(e:Int×Int):jmp N.n (j22 N K0r) ((zz6 level a r_L we1 qd0 r_T yc3 qk2 q32 q46 r10) e) ((j28 level a r_L we1 qd0 r_T yc3 qk2 q32 q46 r10) e)=at1 N.n (w30 N level a r_L we1 qd0 r_T yc3 qk2 q32 q46 r10 (fun a=>K0r (qj6 level q32 q46 a) (qj5 level q32 q46 a)) e):=qn4 (by obtain ⟨q14,q17⟩:=e; kernel_rfl) N.n
noncomputable def wp2 (N:Gr0):(List TV→List TOb→Option OX0)→List TV→List TOb→Option OX0:=w54 DR q54 (q53 N) (ql6 (qc4 (q87 (q08 (q08 (q08 (q08 (q08 (q08 (q10 Tryz.f65)))))))))) wr8 (q75.loops.drop 1) (qk0 0 (qc3 DR q54 (q53 N) (q08 (q08 (q08 (q08 (q08 (q08 (q08 (q10 Tryz.f65)))))))) (q75.loops.drop 1) (qd5 N)))
def wk6 (N:Gr0)(level q32 q46:Int)(l7:Int→Int→(List q36)→Int→Int→(List q23)→Int→Int→Int→Int→Int→(Int×Int)→Option OX0)(K0:OX8→Option OX0)(e:Int×List q36×Int×Int×List q23×Int×Int):Option OX0 :=
 match e with
 | (a,r_L,we1,qd0,r_T,yc3,qk2) =>
  bif (yc3 == 0) then
   (q98 N.n r_L we1 qd0 r_T yc3 qk2).bind fun r7 =>
   (jd8 N.n level r7).bind fun r8 =>
   bif (r8 != 0) then
    (q98 N.n r_L we1 qd0 r_T yc3 qk2).bind fun r9 =>
    (jd8 N.n level r9).bind fun r10 =>
    bif decide (we1 < (r_L.length:Int)) then
     bif inR we1 r_L.length then
     l7 level a r_L we1 qd0 r_T yc3 qk2 q32 q46 r10 (((q24 r_L we1 q30).2.2.2.1).1,((q24 r_L we1 q30).2.2.2.1).2.1)
     else none
    else
     l7 level a r_L we1 qd0 r_T yc3 qk2 q32 q46 r10 (0,0)
   else
    some (((r_L,we1,qd0,r_T,yc3,qk2,()),()),(a,()))
  else
   some (((r_L,we1,qd0,r_T,yc3,qk2,()),()),(a,()))
def w49 (N:Gr0)(level q32 q46:Int)(K0:OX8→Option OX0)(e:Int×List q36×Int×Int×List q23×Int×Int):Option OX0:=wk6 N level q32 q46 (fun level a r_L we1 qd0 r_T yc3 qk2 q32 q46 r10 e=>at1 N.n (w30 N level a r_L we1 qd0 r_T yc3 qk2 q32 q46 r10 K0 e)) K0 e
theorem xg6 (N:Gr0)(level q32 q46:Int)(n_:Nat)(e:Int×List q36×Int×Int×List q23×Int×Int):q57 (wp2 N ) n_ ((qj6 level q32 q46) e) ((qj5 level q32 q46) e)=q86 (w49 N level q32 q46 ) n_ e :=
 q39 (qj6 level q32 q46) (qj5 level q32 q46) (by
  intro K e
  have h:(wp2 N ) K ((qj6 level q32 q46) e) ((qj5 level q32 q46) e)=wk6 N level q32 q46 (fun level a r_L we1 qd0 r_T yc3 qk2 q32 q46 r10 e=>jmp N.n (j22 N K) (zz6 level a r_L we1 qd0 r_T yc3 qk2 q32 q46 r10 e) (j28 level a r_L we1 qd0 r_T yc3 qk2 q32 q46 r10 e)) (fun e=>K ((qj6 level q32 q46) e) ((qj5 level q32 q46) e)) e:=by obtain ⟨a,r_L,we1,qd0,r_T,yc3,qk2⟩:=e; kernel_rfl
  rw [h]
  simp only [w49,xj3] <;> rfl) n_ e
noncomputable def wr0 (N:Gr0):List TV→List TOb→Option OX0:=ys5 DR q54 (q53 N) (q87 (q08 (q08 (q08 (q08 (q08 (q10 Tryz.f65))))))) (qc3 DR q54 (q53 N) (q08 (q08 (q08 (q08 (q08 (q08 (q10 Tryz.f65))))))) (q75.loops.drop 0) (qd5 N))
def wh2 (N:Gr0)(level:Int)(q41:List q36)(q21 q18:Int)(q64:List q23)(q77 q28 q32 q46:Int)(l6:Int→Int→Int→OX8→Option OX0)(e:Unit):Option OX0 :=
 bif q26 (level + 1) then
 (N.r7_Reader_expr q41 q21 q18 q64 q77 q28 (level + 1)).bind fun r6 =>
 l6 level q32 q46 (r6.2.1,r6.1.1.1,r6.1.1.2.1,r6.1.1.2.2.1,r6.1.1.2.2.2.1,r6.1.1.2.2.2.2.1,r6.1.1.2.2.2.2.2.1)
 else none
def qg6 (N:Gr0)(level:Int)(q41:List q36)(q21 q18:Int)(q64:List q23)(q77 q28 q32 q46:Int)(e:Unit):Option OX0:=wh2 N level q41 q21 q18 q64 q77 q28 q32 q46 (fun level q32 q46 e=>q86 (w49 N level q32 q46) N.n e) e
theorem xi0 (N:Gr0)(level:Int)(q41:List q36)(q21 q18:Int)(q64:List q23)(q77 q28 q32 q46:Int)(e:Unit):jmp N.n (wr0 N ) ((wq8 level q41 q21 q18 q64 q77 q28 q32 q46) e) ((wq7 level q41 q21 q18 q64 q77 q28 q32 q46) e)=at1 N.n (qg6 N level q41 q21 q18 q64 q77 q28 q32 q46 e):=qn4 (by
 have h:(wr0 N ) ((wq8 level q41 q21 q18 q64 q77 q28 q32 q46) e) ((wq7 level q41 q21 q18 q64 q77 q28 q32 q46) e)=wh2 N level q41 q21 q18 q64 q77 q28 q32 q46 (fun level q32 q46 e=>q57 (wp2 N ) N.n (qj6 level q32 q46 e) (qj5 level q32 q46 e)) e:=by kernel_rfl
 rw [h]
 simp only [qg6,xg6] <;> rfl) N.n
noncomputable def wp3 (N:Gr0):List TV→List TOb→Option OX0:=ys5 DR q54 (q53 N) (q87 (q87 (q08 (q08 (q08 (q08 (q10 Tryz.f65))))))) (qc3 DR q54 (q53 N) (q08 (q87 (q08 (q08 (q08 (q08 (q10 Tryz.f65))))))) (q75.loops.drop 0) (qc3 DR q54 (q53 N) (q08 (q08 (q08 (q08 (q08 (q10 Tryz.f65)))))) (q75.loops.drop 0) (qd5 N)))
def wi9 (N:Gr0)(level:Int)(q41:List q36)(q21 q18:Int)(q64:List q23)(q77 q28:Int)(l2 l3:Int→(List q36)→Int→Int→(List q23)→Int→Int→Int→Int→Unit→Option OX0)(e:Int×Int):Option OX0 :=
 match e with
 | (q32,q46) =>
  bif (level == 2) then
   (q98 N.n q41 q21 q18 q64 q77 q28).bind fun r1 =>
   bif (r1 == ([110,111,116]:List UInt8)) then
    l2 level q41 q21 q18 q64 q77 q28 q32 q46 ()
   else
    bif (level == 6) then
     (q98 N.n q41 q21 q18 q64 q77 q28).bind fun r2 =>
     bif (r2 == ([45]:List UInt8)) then
      l2 level q41 q21 q18 q64 q77 q28 q32 q46 ()
     else
      l3 level q41 q21 q18 q64 q77 q28 q32 q46 ()
    else
     l3 level q41 q21 q18 q64 q77 q28 q32 q46 ()
  else
   bif (level == 6) then
    (q98 N.n q41 q21 q18 q64 q77 q28).bind fun r3 =>
    bif (r3 == ([45]:List UInt8)) then
     l2 level q41 q21 q18 q64 q77 q28 q32 q46 ()
    else
     l3 level q41 q21 q18 q64 q77 q28 q32 q46 ()
   else
    l3 level q41 q21 q18 q64 q77 q28 q32 q46 ()
def qs9 (N:Gr0)(level:Int)(q41:List q36)(q21 q18:Int)(q64:List q23)(q77 q28:Int)(e:Int×Int):Option OX0:=wi9 N level q41 q21 q18 q64 q77 q28 (fun level q41 q21 q18 q64 q77 q28 q32 q46 e=>at1 N.n (qk1 N level q41 q21 q18 q64 q77 q28 q32 q46 e)) (fun level q41 q21 q18 q64 q77 q28 q32 q46 e=>at1 N.n (qg6 N level q41 q21 q18 q64 q77 q28 q32 q46 e)) e
theorem x81 (N:Gr0)(level:Int)(q41:List q36)(q21 q18:Int)(q64:List q23)(q77 q28:Int)(e:Int×Int):jmp N.n (wp3 N ) ((wq2 level q41 q21 q18 q64 q77 q28) e) ((wo5 level q41 q21 q18 q64 q77 q28) e)=at1 N.n (qs9 N level q41 q21 q18 q64 q77 q28 e):=qn4 (by
 have h:(wp3 N ) ((wq2 level q41 q21 q18 q64 q77 q28) e) ((wo5 level q41 q21 q18 q64 q77 q28) e)=wi9 N level q41 q21 q18 q64 q77 q28 (fun level q41 q21 q18 q64 q77 q28 q32 q46 e=>jmp N.n (wo8 N ) (wp4 level q41 q21 q18 q64 q77 q28 q32 q46 e) (wo4 level q41 q21 q18 q64 q77 q28 q32 q46 e)) (fun level q41 q21 q18 q64 q77 q28 q32 q46 e=>jmp N.n (wr0 N ) (wq8 level q41 q21 q18 q64 q77 q28 q32 q46 e) (wq7 level q41 q21 q18 q64 q77 q28 q32 q46 e)) e:=by obtain ⟨q32,q46⟩:=e; kernel_rfl
 rw [h]
 simp only [qs9,xe4,xi0] <;> rfl) N.n
def wb9 (N:Gr0)(q41:List q36)(q21 q18:Int)(q64:List q23)(q77 q28 level:Int)(l1:Int→(List q36)→Int→Int→(List q23)→Int→Int→(Int×Int)→Option OX0):Option OX0 :=
 bif (q77 != 0) then
  some (((q41,q21,q18,q64,q77,q28,()),()),((-1),()))
 else
  bif (level == 7) then
   (N.r7_Reader_atom q41 q21 q18 q64 q77 q28).bind fun r =>
   some (r.1,r.2)
  else
   bif decide (q21 < (q41.length:Int)) then
    bif inR q21 q41.length then
    l1 level q41 q21 q18 q64 q77 q28 (((q24 q41 q21 q30).2.2.2.1).1,((q24 q41 q21 q30).2.2.2.1).2.1)
    else none
   else
    l1 level q41 q21 q18 q64 q77 q28 (0,0)
def qe7 (N:Gr0)(q41:List q36)(q21 q18:Int)(q64:List q23)(q77 q28 level:Int):Option OX0:=wb9 N q41 q21 q18 q64 q77 q28 level (fun level q41 q21 q18 q64 q77 q28 e=>at1 N.n (qs9 N level q41 q21 q18 q64 q77 q28 e))
noncomputable def jj0 (N:Gr0)(q41:List q36)(q21 q18:Int)(q64:List q23)(q77 q28 level:Int):Option (ObR qf8):=q22 DR Tryz.prog N.n (z38 N) q75 Tryz.f65 (q10 Tryz.f65) (ObR qf8) (encX qf8 ((q41,q21,q18,q64,q77,q28,()),()) (level,())) (encY qf8 ((q41,q21,q18,q64,q77,q28,()),())) (kObj qf8)
theorem x05 (N:Gr0)(q41:List q36)(q21 q18:Int)(q64:List q23)(q77 q28 level:Int):jj0 N q41 q21 q18 q64 q77 q28 level=qe7 N q41 q21 q18 q64 q77 q28 level:=by
 have h:jj0 N q41 q21 q18 q64 q77 q28 level=wb9 N q41 q21 q18 q64 q77 q28 level (fun level q41 q21 q18 q64 q77 q28 e=>jmp N.n (wp3 N ) (wq2 level q41 q21 q18 q64 q77 q28 e) (wo5 level q41 q21 q18 q64 q77 q28 e)):=by kernel_rfl
 rw [h]
 simp only [qe7,x81] <;> rfl
theorem yq7 (N:Gr0)(h:vh9 N):q16 Tryz.prog 65 (qf7 (qe7 N)):=wu4 (xb9 N h) Tryz.func65 rfl (by kernel_rfl) (by kernel_rfl) fun (y:OX2×Unit) (x:Els [(.int .i64)])=>x05 N y.1.1 y.1.2.1 y.1.2.2.1 y.1.2.2.2.1 y.1.2.2.2.2.1 y.1.2.2.2.2.2.1 x.1
def qw8 :FH:=⟨[],[],[(1,⟨9,115,0,[],[]⟩),(4,⟨11,115,1,[(10,.alloc 0)],[]⟩)],[],false,[143],[(9,⟨[(0,.asis)],[(0,[.lst qc9,.int .i64,.int .i64,.own q79 2003 54 8,.int .i64,.int .i64])],[.cells [.int .u8,.str,.int .u8,.int .i64,.str,.int .i64,.int .i64],.cells [.int .u8,.int .u8,.int .i64,.str,.str,.own (.int .i64) 2205 3 1,.int .i64,.int .i64]]⟩),(34,⟨[(0,.asis),(4,.asis)],[(0,[.lst qc9,.int .i64,.int .i64,.own q79 2003 54 8,.int .i64,.int .i64])],[.cells [.int .u8,.str,.int .u8,.int .i64,.str,.int .i64,.int .i64],.cells [.int .u8,.int .u8,.int .i64,.str,.str,.own (.int .i64) 2205 3 1,.int .i64,.int .i64]]⟩)]⟩
noncomputable def z41 (N:Gr0):q48:=tab [(205,qi1 N.n),(206,vf6 N.n),(207,we2 N.r7_Reader_call),(143,qn5 N.n),(144,ql1 N.n),(208,wj9 N.n),(65,qf7 N.r7_Reader_expr),(145,w24 N.n)]
theorem xc6 (N:Gr0)(h:vh9 N):q13 Tryz.prog (z41 N):=q06 (ql3 N.n) <| q06 (uc1 N.n) <| q06 h.r7_Reader_call <| q06 (qp4 N.n) <| q06 (qt4 N.n) <| q06 (zb7 N.n) <| q06 h.r7_Reader_expr <| q06 (we3 N.n) <| q27 _
noncomputable def qs3 :Sc:=wl6 Tryz.prog qw8
noncomputable def qq7 (N:Gr0):Cfg:=⟨N.n,z41 N,1⟩
noncomputable def zs2 (N:Gr0):Exit→List TV→List TOb→Option OX0:=fin Tryz.prog 1 Tryz.f141.results.toList (kObj qg5)
def zx7 (q41:List q36)(q21:Int)(q64:List q23)(qf4:Int)(z31:List UInt8)(qw0 jh8:Int)(jg6:List UInt8)(qm5 qw7 qw9 ji4:Int)(ji1:List UInt8)(qm2 qx0:Int)(e:Int×Int×Int):List TV:=match e with
 | (qj0,r_E,zf0)=>frm 115 [(0,.ref 0 0)]
def zy9 (q41:List q36)(q21:Int)(q64:List q23)(qf4:Int)(z31:List UInt8)(qw0 jh8:Int)(jg6:List UInt8)(qm5 qw7 qw9 ji4:Int)(ji1:List UInt8)(qm2 qx0:Int)(e:Int×Int×Int):List TOb:=match e with
 | (qj0,r_E,zf0)=>[.cells [.tl qc9 q41 .unk,.int .i64 q21,.int .i64 qj0,.tl q79 q64 (.own 2003 54 8),.int .i64 r_E,.int .i64 zf0] 161 true,.cells [.int .u8 qf4,.str z31,.int .u8 qw0,.int .i64 jh8,.str jg6,.int .i64 qm5,.int .i64 qw7] 105 true,.cells [.int .u8 1,.int .u8 qw9,.int .i64 ji4,.str ji1,.str [],.tl (.int .i64) [] (.own 2205 3 1),.int .i64 qm2,.int .i64 qx0] 54 true]
def zz9 (q41:List q36)(q21 q18:Int)(q64:List q23)(q77 q28 wb8:Int)(wb2:List UInt8)(qm8 z35:Int)(z36:List UInt8)(qh8 qm0 q14 q17:Int)(e:Int×Int×Int×List UInt8×List UInt8):List TV:=match e with
 | (jf9,q25,q60,q61,q38)=>frm 115 [(0,.ref 0 0),(4,.ref 2 0)]
def zv9 (q41:List q36)(q21 q18:Int)(q64:List q23)(q77 q28 wb8:Int)(wb2:List UInt8)(qm8 z35:Int)(z36:List UInt8)(qh8 qm0 q14 q17:Int)(e:Int×Int×Int×List UInt8×List UInt8):List TOb:=match e with
 | (jf9,q25,q60,q61,q38)=>[.cells [.tl qc9 q41 .unk,.int .i64 q21,.int .i64 q18,.tl q79 q64 (.own 2003 54 8),.int .i64 q77,.int .i64 q28] 161 true,.cells [.int .u8 wb8,.str wb2,.int .u8 qm8,.int .i64 z35,.str z36,.int .i64 qh8,.int .i64 qm0] 105 true,.cells [.int .u8 jf9,.int .u8 q25,.int .i64 q60,.str q61,.str q38,.tl (.int .i64) [] (.own 2205 3 1),.int .i64 q14,.int .i64 q17] 54 true]
noncomputable def j05 (N:Gr0):List TV→List TOb→Option OX0:=ys5 DR qs3 (qq7 N) (q87 (q08 (q08 (q08 (q08 (q08 (q10 Tryz.f141))))))) (qc3 DR qs3 (qq7 N) (q08 (q08 (q08 (q08 (q08 (q08 (q10 Tryz.f141))))))) (qw8.loops.drop 0) (zs2 N))
def w42 (N:Gr0)(q41:List q36)(q21 q18:Int)(q64:List q23)(q77 q28 wb8:Int)(wb2:List UInt8)(qm8 z35:Int)(z36:List UInt8)(qh8 qm0 q14 q17:Int)(e:Int×Int×Int×List UInt8×List UInt8):Option OX0 :=
 match e with
 | (jf9,q25,q60,q61,q38) =>
  bif q26 (q21 + 1) then
  (qo6 N.n q41 (q21 + 1) q18 q64 q77 q28 (jf9,(q25,q60,q61,()),q38,[],(q14,q17,()),())).bind fun r6 =>
  some (r6.1,r6.2)
  else none
theorem xa6 (N:Gr0)(q41:List q36)(q21 q18:Int)(q64:List q23)(q77 q28 wb8:Int)(wb2:List UInt8)(qm8 z35:Int)(z36:List UInt8)(qh8 qm0 q14 q17:Int)(e:Int×Int×Int×List UInt8×List UInt8):jmp N.n (j05 N ) ((zz9 q41 q21 q18 q64 q77 q28 wb8 wb2 qm8 z35 z36 qh8 qm0 q14 q17) e) ((zv9 q41 q21 q18 q64 q77 q28 wb8 wb2 qm8 z35 z36 qh8 qm0 q14 q17) e)=at1 N.n (w42 N q41 q21 q18 q64 q77 q28 wb8 wb2 qm8 z35 z36 qh8 qm0 q14 q17 e):=qn4 (by obtain ⟨jf9,q25,q60,q61,q38⟩:=e; kernel_rfl) N.n
noncomputable def zy6 (N:Gr0):List TV→List TOb→Option OX0:=ys5 DR qs3 (qq7 N) (q87 (q08 (zf9 (q08 (zf9 (q08 (zf9 (q08 (zf9 (q08 (qc4 (q08 (q87 (q08 (q08 (q08 (q08 (q10 Tryz.f141)))))))))))))))))) (qc3 DR qs3 (qq7 N) (q08 (q08 (zf9 (q08 (zf9 (q08 (zf9 (q08 (zf9 (q08 (qc4 (q08 (q87 (q08 (q08 (q08 (q08 (q10 Tryz.f141)))))))))))))))))) (qw8.loops.drop 0) (qk0 0 (qc3 DR qs3 (qq7 N) (q08 (q08 (q08 (q08 (q08 (q10 Tryz.f141)))))) (qw8.loops.drop 0) (zs2 N))))
def w36 (N:Gr0)(q41:List q36)(q21:Int)(q64:List q23)(qf4:Int)(z31:List UInt8)(qw0 jh8:Int)(jg6:List UInt8)(qm5 qw7 qw9 ji4:Int)(ji1:List UInt8)(qm2 qx0:Int)(e:Int×Int×Int):Option OX0 :=
 match e with
 | (qj0,r_E,zf0) =>
  (qj3 N.n q41 q21 qj0 q64 r_E zf0 [40]).bind fun r3 =>
  (N.r7_Reader_expr r3.1.1.1 r3.1.1.2.1 r3.1.1.2.2.1 r3.1.1.2.2.2.1 r3.1.1.2.2.2.2.1 r3.1.1.2.2.2.2.2.1 0).bind fun r4 =>
  (qj3 N.n r4.1.1.1 r4.1.1.2.1 r4.1.1.2.2.1 r4.1.1.2.2.2.1 r4.1.1.2.2.2.2.1 r4.1.1.2.2.2.2.2.1 [41]).bind fun r5 =>
  bif q26 (r5.1.1.2.2.1 - 1) then
  some (((r5.1.1.1,r5.1.1.2.1,r5.1.1.2.2.1 - 1,r5.1.1.2.2.2.1,r5.1.1.2.2.2.2.1,r5.1.1.2.2.2.2.2.1,()),()),r4.2)
  else none
theorem xb4 (N:Gr0)(q41:List q36)(q21:Int)(q64:List q23)(qf4:Int)(z31:List UInt8)(qw0 jh8:Int)(jg6:List UInt8)(qm5 qw7 qw9 ji4:Int)(ji1:List UInt8)(qm2 qx0:Int)(e:Int×Int×Int):jmp N.n (zy6 N ) ((zx7 q41 q21 q64 qf4 z31 qw0 jh8 jg6 qm5 qw7 qw9 ji4 ji1 qm2 qx0) e) ((zy9 q41 q21 q64 qf4 z31 qw0 jh8 jg6 qm5 qw7 qw9 ji4 ji1 qm2 qx0) e)=at1 N.n (w36 N q41 q21 q64 qf4 z31 qw0 jh8 jg6 qm5 qw7 qw9 ji4 ji1 qm2 qx0 e):=qn4 (by obtain ⟨qj0,r_E,zf0⟩:=e; kernel_rfl) N.n
def z30 (N:Gr0)(q41:List q36)(q21 q18:Int)(q64:List q23)(q77 q28:Int)(l1:(List q36)→Int→Int→(List q23)→Int→Int→Int→(List UInt8)→Int→Int→(List UInt8)→Int→Int→Int→Int→(Int×Int×Int×List UInt8×List UInt8)→Option OX0)(l2:(List q36)→Int→(List q23)→Int→(List UInt8)→Int→Int→(List UInt8)→Int→Int→Int→Int→(List UInt8)→Int→Int→(Int×Int×Int)→Option OX0):Option OX0 :=
 bif decide (q21 ≥ (q41.length:Int)) then
  bif (q77 == 0) then
   some (((q41,q21,q18,q64,4,q21,()),()),((-1),()))
  else
   some (((q41,q21,q18,q64,q77,q28,()),()),((-1),()))
 else
  bif inR q21 q41.length then
  bif (((q24 q41 q21 q30).1) == 2) then
   l1 q41 q21 q18 q64 q77 q28 ((q24 q41 q21 q30).1) ((q24 q41 q21 q30).2.1) (((q24 q41 q21 q30).2.2.1).1) (((q24 q41 q21 q30).2.2.1).2.1) (((q24 q41 q21 q30).2.2.1).2.2.1) (((q24 q41 q21 q30).2.2.2.1).1) (((q24 q41 q21 q30).2.2.2.1).2.1) (((q24 q41 q21 q30).2.2.2.1).1) (((q24 q41 q21 q30).2.2.2.1).2.1) (2,0,0,[],(q24 q41 q21 q30).2.1)
  else
   bif (((q24 q41 q21 q30).1) == 3) then
    l1 q41 q21 q18 q64 q77 q28 ((q24 q41 q21 q30).1) ((q24 q41 q21 q30).2.1) (((q24 q41 q21 q30).2.2.1).1) (((q24 q41 q21 q30).2.2.1).2.1) (((q24 q41 q21 q30).2.2.1).2.2.1) (((q24 q41 q21 q30).2.2.2.1).1) (((q24 q41 q21 q30).2.2.2.1).2.1) (((q24 q41 q21 q30).2.2.2.1).1) (((q24 q41 q21 q30).2.2.2.1).2.1) (3,0,0,[],[])
   else
    bif (((q24 q41 q21 q30).1) == 4) then
     l1 q41 q21 q18 q64 q77 q28 ((q24 q41 q21 q30).1) ((q24 q41 q21 q30).2.1) (((q24 q41 q21 q30).2.2.1).1) (((q24 q41 q21 q30).2.2.1).2.1) (((q24 q41 q21 q30).2.2.1).2.2.1) (((q24 q41 q21 q30).2.2.2.1).1) (((q24 q41 q21 q30).2.2.2.1).2.1) (((q24 q41 q21 q30).2.2.2.1).1) (((q24 q41 q21 q30).2.2.2.1).2.1) (1,((q24 q41 q21 q30).2.2.1).1,((q24 q41 q21 q30).2.2.1).2.1,((q24 q41 q21 q30).2.2.1).2.2.1,[])
    else
     bif (((q24 q41 q21 q30).1) == 5) then
      l1 q41 q21 q18 q64 q77 q28 ((q24 q41 q21 q30).1) ((q24 q41 q21 q30).2.1) (((q24 q41 q21 q30).2.2.1).1) (((q24 q41 q21 q30).2.2.1).2.1) (((q24 q41 q21 q30).2.2.1).2.2.1) (((q24 q41 q21 q30).2.2.2.1).1) (((q24 q41 q21 q30).2.2.2.1).2.1) (((q24 q41 q21 q30).2.2.2.1).1) (((q24 q41 q21 q30).2.2.2.1).2.1) (1,((q24 q41 q21 q30).2.2.1).1,((q24 q41 q21 q30).2.2.1).2.1,((q24 q41 q21 q30).2.2.1).2.2.1,[])
     else
      bif (((q24 q41 q21 q30).1) == 6) then
       l1 q41 q21 q18 q64 q77 q28 ((q24 q41 q21 q30).1) ((q24 q41 q21 q30).2.1) (((q24 q41 q21 q30).2.2.1).1) (((q24 q41 q21 q30).2.2.1).2.1) (((q24 q41 q21 q30).2.2.1).2.2.1) (((q24 q41 q21 q30).2.2.2.1).1) (((q24 q41 q21 q30).2.2.2.1).2.1) (((q24 q41 q21 q30).2.2.2.1).1) (((q24 q41 q21 q30).2.2.2.1).2.1) (1,((q24 q41 q21 q30).2.2.1).1,((q24 q41 q21 q30).2.2.1).2.1,((q24 q41 q21 q30).2.2.1).2.2.1,[])
      else
       bif (((q24 q41 q21 q30).1) == 1) then
        (ja5 N.n ((q24 q41 q21 q30).2.1)).bind fun r =>
        bif (r.1 != 0) then
         (N.r7_Reader_call q41 q21 q18 q64 q77 q28 r.1 r.2.1 r.2.2.1).bind fun r1 =>
         some (r1.1,r1.2)
        else
         bif (((q24 q41 q21 q30).2.1) == ([116,114,117,101]:List UInt8)) then
          l1 q41 q21 q18 q64 q77 q28 ((q24 q41 q21 q30).1) ((q24 q41 q21 q30).2.1) (((q24 q41 q21 q30).2.2.1).1) (((q24 q41 q21 q30).2.2.1).2.1) (((q24 q41 q21 q30).2.2.1).2.2.1) (((q24 q41 q21 q30).2.2.2.1).1) (((q24 q41 q21 q30).2.2.2.1).2.1) (((q24 q41 q21 q30).2.2.2.1).1) (((q24 q41 q21 q30).2.2.2.1).2.1) (1,4,1,[],[])
         else
          bif (((q24 q41 q21 q30).2.1) == ([102,97,108,115,101]:List UInt8)) then
           l1 q41 q21 q18 q64 q77 q28 ((q24 q41 q21 q30).1) ((q24 q41 q21 q30).2.1) (((q24 q41 q21 q30).2.2.1).1) (((q24 q41 q21 q30).2.2.1).2.1) (((q24 q41 q21 q30).2.2.1).2.2.1) (((q24 q41 q21 q30).2.2.2.1).1) (((q24 q41 q21 q30).2.2.2.1).2.1) (((q24 q41 q21 q30).2.2.2.1).1) (((q24 q41 q21 q30).2.2.2.1).2.1) (1,4,0,[],[])
          else
           bif (((q24 q41 q21 q30).2.1) == ([110,117,108,108]:List UInt8)) then
            l1 q41 q21 q18 q64 q77 q28 ((q24 q41 q21 q30).1) ((q24 q41 q21 q30).2.1) (((q24 q41 q21 q30).2.2.1).1) (((q24 q41 q21 q30).2.2.1).2.1) (((q24 q41 q21 q30).2.2.1).2.2.1) (((q24 q41 q21 q30).2.2.2.1).1) (((q24 q41 q21 q30).2.2.2.1).2.1) (((q24 q41 q21 q30).2.2.2.1).1) (((q24 q41 q21 q30).2.2.2.1).2.1) (1,0,0,[],[])
           else
            bif (q77 == 0) then
             some (((q41,q21,q18,q64,4,q21,()),()),((-1),()))
            else
             some (((q41,q21,q18,q64,q77,q28,()),()),((-1),()))
       else
        (q98 N.n q41 q21 q18 q64 q77 q28).bind fun r2 =>
        bif (r2 == ([40]:List UInt8)) then
         bif decide (q18 ≥ 12) then
          bif (q77 == 0) then
           bif q26 (q18 + 1) then
           l2 q41 q21 q64 ((q24 q41 q21 q30).1) ((q24 q41 q21 q30).2.1) (((q24 q41 q21 q30).2.2.1).1) (((q24 q41 q21 q30).2.2.1).2.1) (((q24 q41 q21 q30).2.2.1).2.2.1) (((q24 q41 q21 q30).2.2.2.1).1) (((q24 q41 q21 q30).2.2.2.1).2.1) (((q24 q41 q21 q30).2.2.1).1) (((q24 q41 q21 q30).2.2.1).2.1) (((q24 q41 q21 q30).2.2.1).2.2.1) (((q24 q41 q21 q30).2.2.2.1).1) (((q24 q41 q21 q30).2.2.2.1).2.1) (q18 + 1,12,q21)
           else none
          else
           bif q26 (q18 + 1) then
           l2 q41 q21 q64 ((q24 q41 q21 q30).1) ((q24 q41 q21 q30).2.1) (((q24 q41 q21 q30).2.2.1).1) (((q24 q41 q21 q30).2.2.1).2.1) (((q24 q41 q21 q30).2.2.1).2.2.1) (((q24 q41 q21 q30).2.2.2.1).1) (((q24 q41 q21 q30).2.2.2.1).2.1) (((q24 q41 q21 q30).2.2.1).1) (((q24 q41 q21 q30).2.2.1).2.1) (((q24 q41 q21 q30).2.2.1).2.2.1) (((q24 q41 q21 q30).2.2.2.1).1) (((q24 q41 q21 q30).2.2.2.1).2.1) (q18 + 1,q77,q28)
           else none
         else
          bif q26 (q18 + 1) then
          l2 q41 q21 q64 ((q24 q41 q21 q30).1) ((q24 q41 q21 q30).2.1) (((q24 q41 q21 q30).2.2.1).1) (((q24 q41 q21 q30).2.2.1).2.1) (((q24 q41 q21 q30).2.2.1).2.2.1) (((q24 q41 q21 q30).2.2.2.1).1) (((q24 q41 q21 q30).2.2.2.1).2.1) (((q24 q41 q21 q30).2.2.1).1) (((q24 q41 q21 q30).2.2.1).2.1) (((q24 q41 q21 q30).2.2.1).2.2.1) (((q24 q41 q21 q30).2.2.2.1).1) (((q24 q41 q21 q30).2.2.2.1).2.1) (q18 + 1,q77,q28)
          else none
        else
         l2 q41 q21 q64 ((q24 q41 q21 q30).1) ((q24 q41 q21 q30).2.1) (((q24 q41 q21 q30).2.2.1).1) (((q24 q41 q21 q30).2.2.1).2.1) (((q24 q41 q21 q30).2.2.1).2.2.1) (((q24 q41 q21 q30).2.2.2.1).1) (((q24 q41 q21 q30).2.2.2.1).2.1) (((q24 q41 q21 q30).2.2.1).1) (((q24 q41 q21 q30).2.2.1).2.1) (((q24 q41 q21 q30).2.2.1).2.2.1) (((q24 q41 q21 q30).2.2.2.1).1) (((q24 q41 q21 q30).2.2.2.1).2.1) (q18,q77,q28)
  else none
def qm3 (N:Gr0)(q41:List q36)(q21 q18:Int)(q64:List q23)(q77 q28:Int):Option OX0:=z30 N q41 q21 q18 q64 q77 q28 (fun q41 q21 q18 q64 q77 q28 wb8 wb2 qm8 z35 z36 qh8 qm0 q14 q17 e=>at1 N.n (w42 N q41 q21 q18 q64 q77 q28 wb8 wb2 qm8 z35 z36 qh8 qm0 q14 q17 e)) (fun q41 q21 q64 qf4 z31 qw0 jh8 jg6 qm5 qw7 qw9 ji4 ji1 qm2 qx0 e=>at1 N.n (w36 N q41 q21 q64 qf4 z31 qw0 jh8 jg6 qm5 qw7 qw9 ji4 ji1 qm2 qx0 e))
noncomputable def ji5 (N:Gr0)(q41:List q36)(q21 q18:Int)(q64:List q23)(q77 q28:Int):Option (ObR qg5):=q22 DR Tryz.prog N.n (z41 N) qw8 Tryz.f141 (q10 Tryz.f141) (ObR qg5) (encX qg5 ((q41,q21,q18,q64,q77,q28,()),()) (())) (encY qg5 ((q41,q21,q18,q64,q77,q28,()),())) (kObj qg5)
theorem yw3 (N:Gr0)(q41:List q36)(q21 q18:Int)(q64:List q23)(q77 q28:Int):ji5 N q41 q21 q18 q64 q77 q28=qm3 N q41 q21 q18 q64 q77 q28:=by
 have h:ji5 N q41 q21 q18 q64 q77 q28=z30 N q41 q21 q18 q64 q77 q28 (fun q41 q21 q18 q64 q77 q28 wb8 wb2 qm8 z35 z36 qh8 qm0 q14 q17 e=>jmp N.n (j05 N ) (zz9 q41 q21 q18 q64 q77 q28 wb8 wb2 qm8 z35 z36 qh8 qm0 q14 q17 e) (zv9 q41 q21 q18 q64 q77 q28 wb8 wb2 qm8 z35 z36 qh8 qm0 q14 q17 e)) (fun q41 q21 q64 qf4 z31 qw0 jh8 jg6 qm5 qw7 qw9 ji4 ji1 qm2 qx0 e=>jmp N.n (zy6 N ) (zx7 q41 q21 q64 qf4 z31 qw0 jh8 jg6 qm5 qw7 qw9 ji4 ji1 qm2 qx0 e) (zy9 q41 q21 q64 qf4 z31 qw0 jh8 jg6 qm5 qw7 qw9 ji4 ji1 qm2 qx0 e)):=by kernel_rfl
 rw [h]
 simp only [qm3,xa6,xb4] <;> rfl
theorem yo0 (N:Gr0)(h:vh9 N):q16 Tryz.prog 141 (wd0 (qm3 N)):=wu4 (xc6 N h) Tryz.func141 rfl (by kernel_rfl) (by kernel_rfl) fun (y:OX2×Unit) (x:Els [])=>yw3 N y.1.1 y.1.2.1 y.1.2.2.1 y.1.2.2.2.1 y.1.2.2.2.2.1 y.1.2.2.2.2.2.1 
def w47 :LH:=⟨[(0,.asis),(2,.int .i64),(3,.int .i64),(9,.asis)],[(0,[.lst qc9,.int .i64,.int .i64,.own q79 2003 54 8,.int .i64,.int .i64])],[.cells [.int .u8,.int .u8,.int .i64,.str,.str,.own (.int .i64) 2105 3 1,.int .i64,.int .i64]]⟩
def q93 :FH:=⟨[w47],[],[(7,⟨5,93,0,[],[(3,[(false,0)])]⟩)],[],false,[142,143],[(2,⟨[(0,.asis),(2,.int .i64),(3,.int .i64),(9,.asis)],[(0,[.lst qc9,.int .i64,.int .i64,.own q79 2003 54 8,.int .i64,.int .i64])],[.cells [.int .u8,.int .u8,.int .i64,.str,.str,.own (.int .i64) 2105 3 1,.int .i64,.int .i64]]⟩),(5,⟨[(0,.asis),(2,.int .i64),(3,.int .i64),(9,.asis)],[(0,[.lst qc9,.int .i64,.int .i64,.own q79 2003 54 8,.int .i64,.int .i64])],[.cells [.int .u8,.int .u8,.int .i64,.str,.str,.own (.int .i64) 2105 3 1,.int .i64,.int .i64]]⟩),(10,⟨[(0,.asis),(2,.int .i64),(3,.int .i64),(9,.asis),(10,.str)],[(0,[.lst qc9,.int .i64,.int .i64,.own q79 2003 54 8,.int .i64,.int .i64])],[.cells [.int .u8,.int .u8,.int .i64,.str,.str,.own (.int .i64) 2105 3 1,.int .i64,.int .i64]]⟩),(11,⟨[(0,.asis),(2,.int .i64),(3,.int .i64),(9,.asis),(10,.str)],[(0,[.lst qc9,.int .i64,.int .i64,.own q79 2003 54 8,.int .i64,.int .i64])],[.cells [.int .u8,.int .u8,.int .i64,.str,.str,.own (.int .i64) 2105 3 1,.int .i64,.int .i64]]⟩),(13,⟨[(0,.asis),(9,.asis)],[(0,[.lst qc9,.int .i64,.int .i64,.own q79 2003 54 8,.int .i64,.int .i64])],[.cells [.int .u8,.int .u8,.int .i64,.str,.str,.own (.int .i64) 2105 3 1,.int .i64,.int .i64]]⟩)]⟩
noncomputable def z48 (N:Gr0):q48:=tab [(142,w07 N.n),(143,qn5 N.n),(144,ql1 N.n),(208,wj9 N.n),(65,qf7 N.r7_Reader_expr),(205,qi1 N.n),(145,w24 N.n)]
theorem xj2 (N:Gr0)(h:vh9 N):q13 Tryz.prog (z48 N):=q06 (wi5 N.n) <| q06 (qp4 N.n) <| q06 (qt4 N.n) <| q06 (zb7 N.n) <| q06 h.r7_Reader_expr <| q06 (ql3 N.n) <| q06 (we3 N.n) <| q27 _
noncomputable def q73 :Sc:=wl6 Tryz.prog q93
noncomputable def q67 (N:Gr0):Cfg:=⟨N.n,z48 N,1⟩
noncomputable def qh3 (N:Gr0):Exit→List TV→List TOb→Option OX0:=fin Tryz.prog 1 Tryz.f207.results.toList (kObj qg4)
def wr4 (least most:Int)(q41:List q36)(q21 q18:Int)(q64:List q23)(q77 q28 op:Int)(e:Int×Int):List TV:=match e with
 | (q14,q17)=>frm 93 [(0,.ref 0 0),(2,.int .i64 least),(3,.int .i64 most),(9,.ref 1 0)]
def wq0 (least most:Int)(q41:List q36)(q21 q18:Int)(q64:List q23)(q77 q28 op:Int)(e:Int×Int):List TOb:=match e with
 | (q14,q17)=>[.cells [.tl qc9 q41 .unk,.int .i64 q21,.int .i64 q18,.tl q79 q64 (.own 2003 54 8),.int .i64 q77,.int .i64 q28] 161 true,.cells [.int .u8 op,.int .u8 0,.int .i64 0,.str [],.str [],.tl (.int .i64) [] (.own 2105 3 1),.int .i64 q14,.int .i64 q17] 54 true]
def wo1 (least most:Int)(q41:List q36)(we1:Int)(q64:List q23)(op q14 q17:Int)(e:Int×Int×Int):List TV:=match e with
 | (qj0,r_E,zf0)=>frm 93 [(0,.ref 0 0),(2,.int .i64 least),(3,.int .i64 most),(9,.ref 1 0)]
def wp6 (least most:Int)(q41:List q36)(we1:Int)(q64:List q23)(op q14 q17:Int)(e:Int×Int×Int):List TOb:=match e with
 | (qj0,r_E,zf0)=>[.cells [.tl qc9 q41 .unk,.int .i64 we1,.int .i64 qj0,.tl q79 q64 (.own 2003 54 8),.int .i64 r_E,.int .i64 zf0] 161 true,.cells [.int .u8 op,.int .u8 0,.int .i64 0,.str [],.str [],.tl (.int .i64) [] (.own 2105 3 1),.int .i64 q14,.int .i64 q17] 54 true]
def qb5 (least most op q25 q60:Int)(q61 q38:List UInt8)(q14 q17:Int)(e:List q36×Int×Int×List q23×Int×Int×List Int):List TV:=match e with
 | (r_L,r_At1,qd0,r_T,yc3,qk2,qb3)=>frm 93 [(0,.ref 0 0),(2,.int .i64 least),(3,.int .i64 most),(9,.ref 1 0)]
def qb8 (least most op q25 q60:Int)(q61 q38:List UInt8)(q14 q17:Int)(e:List q36×Int×Int×List q23×Int×Int×List Int):List TOb:=match e with
 | (r_L,r_At1,qd0,r_T,yc3,qk2,qb3)=>[.cells [.tl qc9 r_L .unk,.int .i64 r_At1,.int .i64 qd0,.tl q79 r_T (.own 2003 54 8),.int .i64 yc3,.int .i64 qk2] 161 true,.cells [.int .u8 op,.int .u8 q25,.int .i64 q60,.str q61,.str q38,.tl (.int .i64) qb3 (.own 2105 3 1),.int .i64 q14,.int .i64 q17] 54 true]
def wo6 (least most:Int)(r3:List UInt8)(ub7:List q36)(j33 qv7:Int)(u72:List q23)(u47 wm4 op q25 q60:Int)(q61 q38:List UInt8)(qv2:List Int)(q14 q17:Int)(e:Unit):List TV:=frm 93 [(0,.ref 0 0),(2,.int .i64 least),(3,.int .i64 most),(9,.ref 1 0),(10,.str r3)]
def wq1 (least most:Int)(r3:List UInt8)(ub7:List q36)(j33 qv7:Int)(u72:List q23)(u47 wm4 op q25 q60:Int)(q61 q38:List UInt8)(qv2:List Int)(q14 q17:Int)(e:Unit):List TOb:=[.cells [.tl qc9 ub7 .unk,.int .i64 j33,.int .i64 qv7,.tl q79 u72 (.own 2003 54 8),.int .i64 u47,.int .i64 wm4] 161 true,.cells [.int .u8 op,.int .u8 q25,.int .i64 q60,.str q61,.str q38,.tl (.int .i64) qv2 (.own 2105 3 1),.int .i64 q14,.int .i64 q17] 54 true]
def w40 (least most:Int)(r3:List UInt8)(op q25 q60:Int)(q61 q38:List UInt8)(q14 q17:Int)(e:List q36×Int×Int×List q23×Int×Int×List Int):List TV:=match e with
 | (r_L2,r_At3,r_Deep3,r_T2,r_E3,r_Bad3,n_Kids2)=>frm 93 [(0,.ref 0 0),(2,.int .i64 least),(3,.int .i64 most),(9,.ref 1 0),(10,.str r3)]
def w31 (least most:Int)(r3:List UInt8)(op q25 q60:Int)(q61 q38:List UInt8)(q14 q17:Int)(e:List q36×Int×Int×List q23×Int×Int×List Int):List TOb:=match e with
 | (r_L2,r_At3,r_Deep3,r_T2,r_E3,r_Bad3,n_Kids2)=>[.cells [.tl qc9 r_L2 .unk,.int .i64 r_At3,.int .i64 r_Deep3,.tl q79 r_T2 (.own 2003 54 8),.int .i64 r_E3,.int .i64 r_Bad3] 161 true,.cells [.int .u8 op,.int .u8 q25,.int .i64 q60,.str q61,.str q38,.tl (.int .i64) n_Kids2 (.own 2105 3 1),.int .i64 q14,.int .i64 q17] 54 true]
def wq6 (op q25 q60:Int)(q61 q38:List UInt8)(q14 q17:Int)(e:List q36×Int×Int×List q23×Int×Int×List Int):List TV:=match e with
 | (r_L3,r_At4,r_Deep4,r_T3,r_E4,r_Bad4,n_Kids3)=>frm 93 [(0,.ref 0 0),(9,.ref 1 0)]
def wq4 (op q25 q60:Int)(q61 q38:List UInt8)(q14 q17:Int)(e:List q36×Int×Int×List q23×Int×Int×List Int):List TOb:=match e with
 | (r_L3,r_At4,r_Deep4,r_T3,r_E4,r_Bad4,n_Kids3)=>[.cells [.tl qc9 r_L3 .unk,.int .i64 r_At4,.int .i64 r_Deep4,.tl q79 r_T3 (.own 2003 54 8),.int .i64 r_E4,.int .i64 r_Bad4] 161 true,.cells [.int .u8 op,.int .u8 q25,.int .i64 q60,.str q61,.str q38,.tl (.int .i64) n_Kids3 (.own 2105 3 1),.int .i64 q14,.int .i64 q17] 54 true]
noncomputable def wq5 (N:Gr0):List TV→List TOb→Option OX0:=ys5 DR q73 (q67 N) (q87 (q08 (q08 (q08 (q08 (q08 (q08 (q10 Tryz.f207)))))))) (qc3 DR q73 (q67 N) (q08 (q08 (q08 (q08 (q08 (q08 (q08 (q10 Tryz.f207)))))))) (q93.loops.drop 1) (qh3 N))
def qt5 (N:Gr0)(op q25 q60:Int)(q61 q38:List UInt8)(q14 q17:Int)(e:List q36×Int×Int×List q23×Int×Int×List Int):Option OX0 :=
 match e with
 | (r_L3,r_At4,r_Deep4,r_T3,r_E4,r_Bad4,n_Kids3) =>
  (qj3 N.n r_L3 r_At4 r_Deep4 r_T3 r_E4 r_Bad4 [41]).bind fun r4 =>
  bif q26 (r4.1.1.2.2.1 - 1) then
  (qo6 N.n r4.1.1.1 r4.1.1.2.1 (r4.1.1.2.2.1 - 1) r4.1.1.2.2.2.1 r4.1.1.2.2.2.2.1 r4.1.1.2.2.2.2.2.1 (op,(q25,q60,q61,()),q38,n_Kids3,(q14,q17,()),())).bind fun r5 =>
  some (r5.1,r5.2)
  else none
theorem j42 (N:Gr0)(op q25 q60:Int)(q61 q38:List UInt8)(q14 q17:Int)(e:List q36×Int×Int×List q23×Int×Int×List Int):jmp N.n (wq5 N ) ((wq6 op q25 q60 q61 q38 q14 q17) e) ((wq4 op q25 q60 q61 q38 q14 q17) e)=at1 N.n (qt5 N op q25 q60 q61 q38 q14 q17 e):=qn4 (by obtain ⟨r_L3,r_At4,r_Deep4,r_T3,r_E4,r_Bad4,n_Kids3⟩:=e; kernel_rfl) N.n
noncomputable def w26 (N:Gr0)(K0r:List TV→List TOb→Option OX0):List TV→List TOb→Option OX0:=ys5 DR q73 (q67 N) (q87 (q87 (q08 (q08 (q08 (qc4 (q08 (ql6 (qc4 (q87 (q08 (q08 (q08 (q08 (q08 (q10 Tryz.f207)))))))))))))))) (qc3 DR q73 (q67 N) (q08 (q87 (q08 (q08 (q08 (qc4 (q08 (ql6 (qc4 (q87 (q08 (q08 (q08 (q08 (q08 (q10 Tryz.f207)))))))))))))))) (q93.loops.drop 1) (qc3 DR q73 (q67 N) (q08 (q08 (q08 (q08 (qc4 (q08 (ql6 (qc4 (q87 (q08 (q08 (q08 (q08 (q08 (q10 Tryz.f207))))))))))))))) (q93.loops.drop 1) (qk0 1 (ud6 (q67 N) w47 (qk0 0 (qc3 DR q73 (q67 N) (q08 (q08 (q08 (q08 (q08 (q08 (q10 Tryz.f207))))))) (q93.loops.drop 1) (qh3 N))) K0r))))
def wg9 (N:Gr0)(least most:Int)(r3:List UInt8)(op q25 q60:Int)(q61 q38:List UInt8)(q14 q17:Int)(K0:OX5→Option OX0)(l6:Int→Int→Int→(List UInt8)→(List UInt8)→Int→Int→OX5→Option OX0)(e:List q36×Int×Int×List q23×Int×Int×List Int):Option OX0 :=
 match e with
 | (r_L2,r_At3,r_Deep3,r_T2,r_E3,r_Bad3,n_Kids2) =>
  bif (!(r3 == ([44]:List UInt8))) then
   l6 op q25 q60 q61 q38 q14 q17 (r_L2,r_At3,r_Deep3,r_T2,r_E3,r_Bad3,n_Kids2)
  else
   bif (r_E3 != 0) then
    l6 op q25 q60 q61 q38 q14 q17 (r_L2,r_At3,r_Deep3,r_T2,r_E3,r_Bad3,n_Kids2)
   else
    bif q26 (r_At3 + 1) then
    K0 (r_L2,r_At3 + 1,r_Deep3,r_T2,r_E3,r_Bad3,n_Kids2)
    else none
def qf5 (N:Gr0)(least most:Int)(r3:List UInt8)(op q25 q60:Int)(q61 q38:List UInt8)(q14 q17:Int)(K0:OX5→Option OX0)(e:List q36×Int×Int×List q23×Int×Int×List Int):Option OX0:=wg9 N least most r3 op q25 q60 q61 q38 q14 q17 K0 (fun op q25 q60 q61 q38 q14 q17 e=>at1 N.n (qt5 N op q25 q60 q61 q38 q14 q17 e)) e
theorem j09 (N:Gr0)(least most:Int)(r3:List UInt8)(op q25 q60:Int)(q61 q38:List UInt8)(q14 q17:Int)(K0r:List TV→List TOb→Option OX0)(e:List q36×Int×Int×List q23×Int×Int×List Int):jmp N.n (w26 N K0r) ((w40 least most r3 op q25 q60 q61 q38 q14 q17) e) ((w31 least most r3 op q25 q60 q61 q38 q14 q17) e)=at1 N.n (qf5 N least most r3 op q25 q60 q61 q38 q14 q17 (fun a=>K0r (qb5 least most op q25 q60 q61 q38 q14 q17 a) (qb8 least most op q25 q60 q61 q38 q14 q17 a)) e):=qn4 (by
 have h:(w26 N K0r) ((w40 least most r3 op q25 q60 q61 q38 q14 q17) e) ((w31 least most r3 op q25 q60 q61 q38 q14 q17) e)=wg9 N least most r3 op q25 q60 q61 q38 q14 q17 (fun a=>K0r (qb5 least most op q25 q60 q61 q38 q14 q17 a) (qb8 least most op q25 q60 q61 q38 q14 q17 a)) (fun op q25 q60 q61 q38 q14 q17 e=>jmp N.n (wq5 N ) (wq6 op q25 q60 q61 q38 q14 q17 e) (wq4 op q25 q60 q61 q38 q14 q17 e)) e:=by obtain ⟨r_L2,r_At3,r_Deep3,r_T2,r_E3,r_Bad3,n_Kids2⟩:=e; kernel_rfl
 rw [h]
 simp only [qf5,j42] <;> rfl) N.n
noncomputable def wp1 (N:Gr0)(K0r:List TV→List TOb→Option OX0):List TV→List TOb→Option OX0:=ys5 DR q73 (q67 N) (ys1 (q08 (q87 (q08 (q08 (qc4 (q08 (ql6 (qc4 (q87 (q08 (q08 (q08 (q08 (q08 (q10 Tryz.f207)))))))))))))))) (qc3 DR q73 (q67 N) (q08 (q08 (q08 (qc4 (q08 (ql6 (qc4 (q87 (q08 (q08 (q08 (q08 (q08 (q10 Tryz.f207)))))))))))))) (q93.loops.drop 1) (qk0 1 (ud6 (q67 N) w47 (qk0 0 (qc3 DR q73 (q67 N) (q08 (q08 (q08 (q08 (q08 (q08 (q10 Tryz.f207))))))) (q93.loops.drop 1) (qh3 N))) K0r)))
def wj4 (N:Gr0)(least most:Int)(r3:List UInt8)(ub7:List q36)(j33 qv7:Int)(u72:List q23)(u47 wm4 op q25 q60:Int)(q61 q38:List UInt8)(qv2:List Int)(q14 q17:Int)(K0:OX5→Option OX0)(l5:Int→Int→(List UInt8)→Int→Int→Int→(List UInt8)→(List UInt8)→Int→Int→OX5→Option OX0)(e:Unit):Option OX0 :=
 bif (u47 == 0) then
  l5 least most r3 op q25 q60 q61 q38 q14 q17 (ub7,j33,qv7,u72,14,j33,qv2)
 else
  l5 least most r3 op q25 q60 q61 q38 q14 q17 (ub7,j33,qv7,u72,u47,wm4,qv2)
def qs7 (N:Gr0)(least most:Int)(r3:List UInt8)(ub7:List q36)(j33 qv7:Int)(u72:List q23)(u47 wm4 op q25 q60:Int)(q61 q38:List UInt8)(qv2:List Int)(q14 q17:Int)(K0:OX5→Option OX0)(e:Unit):Option OX0:=wj4 N least most r3 ub7 j33 qv7 u72 u47 wm4 op q25 q60 q61 q38 qv2 q14 q17 K0 (fun least most r3 op q25 q60 q61 q38 q14 q17 e=>at1 N.n (qf5 N least most r3 op q25 q60 q61 q38 q14 q17 K0 e)) e
theorem x74 (N:Gr0)(least most:Int)(r3:List UInt8)(ub7:List q36)(j33 qv7:Int)(u72:List q23)(u47 wm4 op q25 q60:Int)(q61 q38:List UInt8)(qv2:List Int)(q14 q17:Int)(K0r:List TV→List TOb→Option OX0)(e:Unit):jmp N.n (wp1 N K0r) ((wo6 least most r3 ub7 j33 qv7 u72 u47 wm4 op q25 q60 q61 q38 qv2 q14 q17) e) ((wq1 least most r3 ub7 j33 qv7 u72 u47 wm4 op q25 q60 q61 q38 qv2 q14 q17) e)=at1 N.n (qs7 N least most r3 ub7 j33 qv7 u72 u47 wm4 op q25 q60 q61 q38 qv2 q14 q17 (fun a=>K0r (qb5 least most op q25 q60 q61 q38 q14 q17 a) (qb8 least most op q25 q60 q61 q38 q14 q17 a)) e):=qn4 (by
 have h:(wp1 N K0r) ((wo6 least most r3 ub7 j33 qv7 u72 u47 wm4 op q25 q60 q61 q38 qv2 q14 q17) e) ((wq1 least most r3 ub7 j33 qv7 u72 u47 wm4 op q25 q60 q61 q38 qv2 q14 q17) e)=wj4 N least most r3 ub7 j33 qv7 u72 u47 wm4 op q25 q60 q61 q38 qv2 q14 q17 (fun a=>K0r (qb5 least most op q25 q60 q61 q38 q14 q17 a) (qb8 least most op q25 q60 q61 q38 q14 q17 a)) (fun least most r3 op q25 q60 q61 q38 q14 q17 e=>jmp N.n (w26 N K0r) (w40 least most r3 op q25 q60 q61 q38 q14 q17 e) (w31 least most r3 op q25 q60 q61 q38 q14 q17 e)) e:=by kernel_rfl
 rw [h]
 simp only [qs7,j09] <;> rfl) N.n
noncomputable def wp7 (N:Gr0):(List TV→List TOb→Option OX0)→List TV→List TOb→Option OX0:=w54 DR q73 (q67 N) (ql6 (qc4 (q87 (q08 (q08 (q08 (q08 (q08 (q10 Tryz.f207))))))))) w47 (q93.loops.drop 1) (qk0 0 (qc3 DR q73 (q67 N) (q08 (q08 (q08 (q08 (q08 (q08 (q10 Tryz.f207))))))) (q93.loops.drop 1) (qh3 N)))
def wk3 (N:Gr0)(least most op q25 q60:Int)(q61 q38:List UInt8)(q14 q17:Int)(l4:Int→Int→(List UInt8)→(List q36)→Int→Int→(List q23)→Int→Int→Int→Int→Int→(List UInt8)→(List UInt8)→(List Int)→Int→Int→Unit→Option OX0)(l5:Int→Int→(List UInt8)→Int→Int→Int→(List UInt8)→(List UInt8)→Int→Int→OX5→Option OX0)(l6:Int→Int→Int→(List UInt8)→(List UInt8)→Int→Int→OX5→Option OX0)(K0:OX5→Option OX0)(e:List q36×Int×Int×List q23×Int×Int×List Int):Option OX0 :=
 match e with
 | (r_L,r_At1,qd0,r_T,yc3,qk2,qb3) =>
  bif (yc3 == 0) then
   (N.r7_Reader_expr r_L r_At1 qd0 r_T yc3 qk2 0).bind fun r2 =>
   bif w23 (qb3.length + [r2.2.1].length) 17592186044416 then
   (q98 N.n r2.1.1.1 r2.1.1.2.1 r2.1.1.2.2.1 r2.1.1.2.2.2.1 r2.1.1.2.2.2.2.1 r2.1.1.2.2.2.2.2.1).bind fun r3 =>
   bif (r3 == ([44]:List UInt8)) then
    bif (((qb3 ++ [r2.2.1]).length:Int) == most) then
     l4 least most r3 r2.1.1.1 r2.1.1.2.1 r2.1.1.2.2.1 r2.1.1.2.2.2.1 r2.1.1.2.2.2.2.1 r2.1.1.2.2.2.2.2.1 op q25 q60 q61 q38 (qb3 ++ [r2.2.1]) q14 q17 ()
    else
     bif (r3 == ([41]:List UInt8)) then
      bif decide (((qb3 ++ [r2.2.1]).length:Int) < least) then
       l4 least most r3 r2.1.1.1 r2.1.1.2.1 r2.1.1.2.2.1 r2.1.1.2.2.2.1 r2.1.1.2.2.2.2.1 r2.1.1.2.2.2.2.2.1 op q25 q60 q61 q38 (qb3 ++ [r2.2.1]) q14 q17 ()
      else
       l5 least most r3 op q25 q60 q61 q38 q14 q17 (r2.1.1.1,r2.1.1.2.1,r2.1.1.2.2.1,r2.1.1.2.2.2.1,r2.1.1.2.2.2.2.1,r2.1.1.2.2.2.2.2.1,(qb3 ++ [r2.2.1]))
     else
      l5 least most r3 op q25 q60 q61 q38 q14 q17 (r2.1.1.1,r2.1.1.2.1,r2.1.1.2.2.1,r2.1.1.2.2.2.1,r2.1.1.2.2.2.2.1,r2.1.1.2.2.2.2.2.1,(qb3 ++ [r2.2.1]))
   else
    bif (r3 == ([41]:List UInt8)) then
     bif decide (((qb3 ++ [r2.2.1]).length:Int) < least) then
      l4 least most r3 r2.1.1.1 r2.1.1.2.1 r2.1.1.2.2.1 r2.1.1.2.2.2.1 r2.1.1.2.2.2.2.1 r2.1.1.2.2.2.2.2.1 op q25 q60 q61 q38 (qb3 ++ [r2.2.1]) q14 q17 ()
     else
      l5 least most r3 op q25 q60 q61 q38 q14 q17 (r2.1.1.1,r2.1.1.2.1,r2.1.1.2.2.1,r2.1.1.2.2.2.1,r2.1.1.2.2.2.2.1,r2.1.1.2.2.2.2.2.1,(qb3 ++ [r2.2.1]))
    else
     l5 least most r3 op q25 q60 q61 q38 q14 q17 (r2.1.1.1,r2.1.1.2.1,r2.1.1.2.2.1,r2.1.1.2.2.2.1,r2.1.1.2.2.2.2.1,r2.1.1.2.2.2.2.2.1,(qb3 ++ [r2.2.1]))
   else none
  else
   l6 op q25 q60 q61 q38 q14 q17 (r_L,r_At1,qd0,r_T,yc3,qk2,qb3)
def w32 (N:Gr0)(least most op q25 q60:Int)(q61 q38:List UInt8)(q14 q17:Int)(K0:OX5→Option OX0)(e:List q36×Int×Int×List q23×Int×Int×List Int):Option OX0:=wk3 N least most op q25 q60 q61 q38 q14 q17 (fun least most r3 ub7 j33 qv7 u72 u47 wm4 op q25 q60 q61 q38 qv2 q14 q17 e=>at1 N.n (qs7 N least most r3 ub7 j33 qv7 u72 u47 wm4 op q25 q60 q61 q38 qv2 q14 q17 K0 e)) (fun least most r3 op q25 q60 q61 q38 q14 q17 e=>at1 N.n (qf5 N least most r3 op q25 q60 q61 q38 q14 q17 K0 e)) (fun op q25 q60 q61 q38 q14 q17 e=>at1 N.n (qt5 N op q25 q60 q61 q38 q14 q17 e)) K0 e
theorem x72 (N:Gr0)(least most op q25 q60:Int)(q61 q38:List UInt8)(q14 q17:Int)(n_:Nat)(e:List q36×Int×Int×List q23×Int×Int×List Int):q57 (wp7 N ) n_ ((qb5 least most op q25 q60 q61 q38 q14 q17) e) ((qb8 least most op q25 q60 q61 q38 q14 q17) e)=q86 (w32 N least most op q25 q60 q61 q38 q14 q17 ) n_ e :=
 q39 (qb5 least most op q25 q60 q61 q38 q14 q17) (qb8 least most op q25 q60 q61 q38 q14 q17) (by
  intro K e
  have h:(wp7 N ) K ((qb5 least most op q25 q60 q61 q38 q14 q17) e) ((qb8 least most op q25 q60 q61 q38 q14 q17) e)=wk3 N least most op q25 q60 q61 q38 q14 q17 (fun least most r3 ub7 j33 qv7 u72 u47 wm4 op q25 q60 q61 q38 qv2 q14 q17 e=>jmp N.n (wp1 N K) (wo6 least most r3 ub7 j33 qv7 u72 u47 wm4 op q25 q60 q61 q38 qv2 q14 q17 e) (wq1 least most r3 ub7 j33 qv7 u72 u47 wm4 op q25 q60 q61 q38 qv2 q14 q17 e)) (fun least most r3 op q25 q60 q61 q38 q14 q17 e=>jmp N.n (w26 N K) (w40 least most r3 op q25 q60 q61 q38 q14 q17 e) (w31 least most r3 op q25 q60 q61 q38 q14 q17 e)) (fun op q25 q60 q61 q38 q14 q17 e=>jmp N.n (wq5 N ) (wq6 op q25 q60 q61 q38 q14 q17 e) (wq4 op q25 q60 q61 q38 q14 q17 e)) (fun e=>K ((qb5 least most op q25 q60 q61 q38 q14 q17) e) ((qb8 least most op q25 q60 q61 q38 q14 q17) e)) e:=by obtain ⟨r_L,r_At1,qd0,r_T,yc3,qk2,qb3⟩:=e; kernel_rfl
  rw [h]
  simp only [w32,x74,j09,j42] <;> rfl) n_ e
noncomputable def wo2 (N:Gr0):List TV→List TOb→Option OX0:=ys5 DR q73 (q67 N) (q87 (q08 (q08 (q08 (q08 (q10 Tryz.f207)))))) (qc3 DR q73 (q67 N) (q08 (q08 (q08 (q08 (q08 (q10 Tryz.f207)))))) (q93.loops.drop 0) (qh3 N))
def wl0 (N:Gr0)(least most:Int)(q41:List q36)(we1:Int)(q64:List q23)(op q14 q17:Int)(l3:Int→Int→Int→Int→Int→(List UInt8)→(List UInt8)→Int→Int→OX5→Option OX0)(e:Int×Int×Int):Option OX0 :=
 match e with
 | (qj0,r_E,zf0) =>
  (qj3 N.n q41 we1 qj0 q64 r_E zf0 [40]).bind fun r1 =>
  l3 least most op 0 0 [] [] q14 q17 (r1.1.1.1,r1.1.1.2.1,r1.1.1.2.2.1,r1.1.1.2.2.2.1,r1.1.1.2.2.2.2.1,r1.1.1.2.2.2.2.2.1,[])
def qq9 (N:Gr0)(least most:Int)(q41:List q36)(we1:Int)(q64:List q23)(op q14 q17:Int)(e:Int×Int×Int):Option OX0:=wl0 N least most q41 we1 q64 op q14 q17 (fun least most op q25 q60 q61 q38 q14 q17 e=>q86 (w32 N least most op q25 q60 q61 q38 q14 q17) N.n e) e
theorem x95 (N:Gr0)(least most:Int)(q41:List q36)(we1:Int)(q64:List q23)(op q14 q17:Int)(e:Int×Int×Int):jmp N.n (wo2 N ) ((wo1 least most q41 we1 q64 op q14 q17) e) ((wp6 least most q41 we1 q64 op q14 q17) e)=at1 N.n (qq9 N least most q41 we1 q64 op q14 q17 e):=qn4 (by
 have h:(wo2 N ) ((wo1 least most q41 we1 q64 op q14 q17) e) ((wp6 least most q41 we1 q64 op q14 q17) e)=wl0 N least most q41 we1 q64 op q14 q17 (fun least most op q25 q60 q61 q38 q14 q17 e=>q57 (wp7 N ) N.n (qb5 least most op q25 q60 q61 q38 q14 q17 e) (qb8 least most op q25 q60 q61 q38 q14 q17 e)) e:=by obtain ⟨qj0,r_E,zf0⟩:=e; kernel_rfl
 rw [h]
 simp only [qq9,x72] <;> rfl) N.n
noncomputable def wo9 (N:Gr0):List TV→List TOb→Option OX0:=ys5 DR q73 (q67 N) (q87 (q08 (q08 (q10 Tryz.f207)))) (qc3 DR q73 (q67 N) (q08 (q08 (q08 (q10 Tryz.f207)))) (q93.loops.drop 0) (qh3 N))
def wk1 (N:Gr0)(least most:Int)(q41:List q36)(q21 q18:Int)(q64:List q23)(q77 q28 op:Int)(l2:Int→Int→(List q36)→Int→(List q23)→Int→Int→Int→(Int×Int×Int)→Option OX0)(e:Int×Int):Option OX0 :=
 match e with
 | (q14,q17) =>
  bif q26 (q21 + 1) then
  (q98 N.n q41 (q21 + 1) q18 q64 q77 q28).bind fun r =>
  bif (r == ([40]:List UInt8)) then
   bif decide (q18 ≥ 12) then
    bif (q77 == 0) then
     bif q26 (q18 + 1) then
     l2 least most q41 (q21 + 1) q64 op q14 q17 (q18 + 1,12,q21 + 1)
     else none
    else
     bif q26 (q18 + 1) then
     l2 least most q41 (q21 + 1) q64 op q14 q17 (q18 + 1,q77,q28)
     else none
   else
    bif q26 (q18 + 1) then
    l2 least most q41 (q21 + 1) q64 op q14 q17 (q18 + 1,q77,q28)
    else none
  else
   l2 least most q41 (q21 + 1) q64 op q14 q17 (q18,q77,q28)
  else none
def qr2 (N:Gr0)(least most:Int)(q41:List q36)(q21 q18:Int)(q64:List q23)(q77 q28 op:Int)(e:Int×Int):Option OX0:=wk1 N least most q41 q21 q18 q64 q77 q28 op (fun least most q41 we1 q64 op q14 q17 e=>at1 N.n (qq9 N least most q41 we1 q64 op q14 q17 e)) e
theorem xa5 (N:Gr0)(least most:Int)(q41:List q36)(q21 q18:Int)(q64:List q23)(q77 q28 op:Int)(e:Int×Int):jmp N.n (wo9 N ) ((wr4 least most q41 q21 q18 q64 q77 q28 op) e) ((wq0 least most q41 q21 q18 q64 q77 q28 op) e)=at1 N.n (qr2 N least most q41 q21 q18 q64 q77 q28 op e):=qn4 (by
 have h:(wo9 N ) ((wr4 least most q41 q21 q18 q64 q77 q28 op) e) ((wq0 least most q41 q21 q18 q64 q77 q28 op) e)=wk1 N least most q41 q21 q18 q64 q77 q28 op (fun least most q41 we1 q64 op q14 q17 e=>jmp N.n (wo2 N ) (wo1 least most q41 we1 q64 op q14 q17 e) (wp6 least most q41 we1 q64 op q14 q17 e)) e:=by obtain ⟨q14,q17⟩:=e; kernel_rfl
 rw [h]
 simp only [qr2,x95] <;> rfl) N.n
def z40 (N:Gr0)(q41:List q36)(q21 q18:Int)(q64:List q23)(q77 q28 op least most:Int)(l1:Int→Int→(List q36)→Int→Int→(List q23)→Int→Int→Int→(Int×Int)→Option OX0):Option OX0 :=
 bif decide (q21 < (q41.length:Int)) then
  bif inR q21 q41.length then
  l1 least most q41 q21 q18 q64 q77 q28 op (((q24 q41 q21 q30).2.2.2.1).1,((q24 q41 q21 q30).2.2.2.1).2.1)
  else none
 else
  l1 least most q41 q21 q18 q64 q77 q28 op (0,0)
def qm7 (N:Gr0)(q41:List q36)(q21 q18:Int)(q64:List q23)(q77 q28 op least most:Int):Option OX0:=z40 N q41 q21 q18 q64 q77 q28 op least most (fun least most q41 q21 q18 q64 q77 q28 op e=>at1 N.n (qr2 N least most q41 q21 q18 q64 q77 q28 op e))
noncomputable def jh9 (N:Gr0)(q41:List q36)(q21 q18:Int)(q64:List q23)(q77 q28 op least most:Int):Option (ObR qg4):=q22 DR Tryz.prog N.n (z48 N) q93 Tryz.f207 (q10 Tryz.f207) (ObR qg4) (encX qg4 ((q41,q21,q18,q64,q77,q28,()),()) (op,least,most,())) (encY qg4 ((q41,q21,q18,q64,q77,q28,()),())) (kObj qg4)
theorem x10 (N:Gr0)(q41:List q36)(q21 q18:Int)(q64:List q23)(q77 q28 op least most:Int):jh9 N q41 q21 q18 q64 q77 q28 op least most=qm7 N q41 q21 q18 q64 q77 q28 op least most:=by
 have h:jh9 N q41 q21 q18 q64 q77 q28 op least most=z40 N q41 q21 q18 q64 q77 q28 op least most (fun least most q41 q21 q18 q64 q77 q28 op e=>jmp N.n (wo9 N ) (wr4 least most q41 q21 q18 q64 q77 q28 op e) (wq0 least most q41 q21 q18 q64 q77 q28 op e)):=by kernel_rfl
 rw [h]
 simp only [qm7,xa5] <;> rfl
theorem yr4 (N:Gr0)(h:vh9 N):q16 Tryz.prog 207 (we2 (qm7 N)):=wu4 (xj2 N h) Tryz.func207 rfl (by kernel_rfl) (by kernel_rfl) fun (y:OX2×Unit) (x:Els [(.int .u8),(.int .i64),(.int .i64)])=>x10 N y.1.1 y.1.2.1 y.1.2.2.1 y.1.2.2.2.1 y.1.2.2.2.2.1 y.1.2.2.2.2.2.1 x.1 x.2.1 x.2.2.1
def xm1 (n:Nat):Nat→Gr0
 | 0=>⟨n,fun _ _ _ _ _ _ _=>none,fun _ _ _ _ _ _=>none,fun _ _ _ _ _ _ _ _ _=>none⟩
 | d + 1=>⟨n,qe7 (xm1 n d),qm3 (xm1 n d),qm7 (xm1 n d)⟩
theorem xz6 (n:Nat):∀ d,vh9 (xm1 n d)
 | 0=>⟨yn9,yn9,yn9⟩
 | d + 1=>⟨yq7 _ (xz6 n d),yo0 _ (xz6 n d),yr4 _ (xz6 n d)⟩
def r7_Reader_expr (N:Nat):(List q36)→Int→Int→(List q23)→Int→Int→Int→Option OX0:=(xm1 N N).r7_Reader_expr
def zq9 (N:Nat):Ent:=qf7 (r7_Reader_expr N)
theorem yc4 (N:Nat):q16 Tryz.prog 65 (zq9 N):=(xz6 N N).r7_Reader_expr
def ko6 :FH:=⟨[],[],[(6,⟨10,50,0,[],[]⟩),(9,⟨9,50,0,[],[]⟩)],[],false,[],[]⟩
noncomputable def vz9 (N:Nat):q48:=tab [(65,zq9 N)]
theorem kc8 (N:Nat):q13 Tryz.prog (vz9 N):=q06 (yc4 N) <| q27 _
def yy0 (N:Nat)(l:List q36)(uc4:Int):Option ((List q23)×Int×Int×Unit) :=
 bif decide (uc4 < 0) then
  some ([],0,2,())
 else
  bif decide (uc4 > (l.length:Int)) then
   some ([],0,2,())
  else
   (r7_Reader_expr N l uc4 0 [] 0 0 0).bind fun r =>
   bif (r.1.1.2.2.2.2.1 != 0) then
    some ([],r.1.1.2.2.2.2.2.1,r.1.1.2.2.2.2.1,())
   else
    bif decide ((r.1.1.2.2.2.1.length:Int) > 60) then
     some ([],uc4,7,())
    else
     some (r.1.1.2.2.2.1,r.1.1.2.1,0,())
noncomputable def kx9 (N:Nat)(l:List q36)(uc4:Int):Option (RT [(.list q79),(.int .i64),(.int .i64)]):=q22 DR Tryz.prog N (vz9 N) ko6 Tryz.f30 (q10 Tryz.f30) (RT [(.list q79),(.int .i64),(.int .i64)]) (qd2 [(.list qc9),(.int .i64)] (l,uc4,())) [] (q40 [(.list q79),(.int .i64),(.int .i64)])
theorem ut1 (N:Nat)(l:List q36)(uc4:Int):kx9 N l uc4=yy0 N l uc4:=by kernel_rfl
def ua2 (m:(List q36)→Int→Option ((List q23)×Int×Int×Unit)):Ent:=q35 [(.list qc9),(.int .i64)] [(.list q79),(.int .i64),(.int .i64)] fun (x:Els [(.list qc9),(.int .i64)])=>m x.1 x.2.1
def xp9 (N:Nat):Ent:=ua2 (yy0 N)
theorem vr1 (N:Nat):q16 Tryz.prog 30 (xp9 N):=q15 (kc8 N) Tryz.func30 rfl (by kernel_rfl) fun (x:Els [(.list qc9),(.int .i64)])=>ut1 N x.1 x.2.1
def kb1 :FH:=⟨[],[],[],[],false,[],[]⟩
noncomputable def vi8 (N:Nat):q48:=tab []
theorem uq6 (N:Nat):q13 Tryz.prog (vi8 N):=q27 _
def jp5 (N:Nat)(l:List q36):Option qi7 :=
 bif ((l.length:Int) == 0) then
  some (1,1,())
 else
  bif q26 ((l.length:Int) - 1) then
  bif inR ((l.length:Int) - 1) l.length then
  bif (((q24 l ((l.length:Int) - 1) q30).1) == 2) then
   bif q26 ((((q24 l ((l.length:Int) - 1) q30).2.1).length:Int) + 1) then
   bif (((q24 l ((l.length:Int) - 1) q30).1) == 5) then
    bif q26 (((((q24 l ((l.length:Int) - 1) q30).2.1).length:Int) + 1) + 2) then
    bif q26 ((((q24 l ((l.length:Int) - 1) q30).2.2.2.1).2.1) + (((((q24 l ((l.length:Int) - 1) q30).2.1).length:Int) + 1) + 2)) then
    some (((q24 l ((l.length:Int) - 1) q30).2.2.2.1).1,(((q24 l ((l.length:Int) - 1) q30).2.2.2.1).2.1) + (((((q24 l ((l.length:Int) - 1) q30).2.1).length:Int) + 1) + 2),())
    else none
    else none
   else
    bif q26 ((((q24 l ((l.length:Int) - 1) q30).2.2.2.1).2.1) + ((((q24 l ((l.length:Int) - 1) q30).2.1).length:Int) + 1)) then
    some (((q24 l ((l.length:Int) - 1) q30).2.2.2.1).1,(((q24 l ((l.length:Int) - 1) q30).2.2.2.1).2.1) + ((((q24 l ((l.length:Int) - 1) q30).2.1).length:Int) + 1),())
    else none
   else none
  else
   bif (((q24 l ((l.length:Int) - 1) q30).1) == 3) then
    bif q26 ((((q24 l ((l.length:Int) - 1) q30).2.1).length:Int) + 1) then
    bif (((q24 l ((l.length:Int) - 1) q30).1) == 5) then
     bif q26 (((((q24 l ((l.length:Int) - 1) q30).2.1).length:Int) + 1) + 2) then
     bif q26 ((((q24 l ((l.length:Int) - 1) q30).2.2.2.1).2.1) + (((((q24 l ((l.length:Int) - 1) q30).2.1).length:Int) + 1) + 2)) then
     some (((q24 l ((l.length:Int) - 1) q30).2.2.2.1).1,(((q24 l ((l.length:Int) - 1) q30).2.2.2.1).2.1) + (((((q24 l ((l.length:Int) - 1) q30).2.1).length:Int) + 1) + 2),())
     else none
     else none
    else
     bif q26 ((((q24 l ((l.length:Int) - 1) q30).2.2.2.1).2.1) + ((((q24 l ((l.length:Int) - 1) q30).2.1).length:Int) + 1)) then
     some (((q24 l ((l.length:Int) - 1) q30).2.2.2.1).1,(((q24 l ((l.length:Int) - 1) q30).2.2.2.1).2.1) + ((((q24 l ((l.length:Int) - 1) q30).2.1).length:Int) + 1),())
     else none
    else none
   else
    bif (((q24 l ((l.length:Int) - 1) q30).1) == 6) then
     bif q26 ((((q24 l ((l.length:Int) - 1) q30).2.1).length:Int) + 1) then
     bif (((q24 l ((l.length:Int) - 1) q30).1) == 5) then
      bif q26 (((((q24 l ((l.length:Int) - 1) q30).2.1).length:Int) + 1) + 2) then
      bif q26 ((((q24 l ((l.length:Int) - 1) q30).2.2.2.1).2.1) + (((((q24 l ((l.length:Int) - 1) q30).2.1).length:Int) + 1) + 2)) then
      some (((q24 l ((l.length:Int) - 1) q30).2.2.2.1).1,(((q24 l ((l.length:Int) - 1) q30).2.2.2.1).2.1) + (((((q24 l ((l.length:Int) - 1) q30).2.1).length:Int) + 1) + 2),())
      else none
      else none
     else
      bif q26 ((((q24 l ((l.length:Int) - 1) q30).2.2.2.1).2.1) + ((((q24 l ((l.length:Int) - 1) q30).2.1).length:Int) + 1)) then
      some (((q24 l ((l.length:Int) - 1) q30).2.2.2.1).1,(((q24 l ((l.length:Int) - 1) q30).2.2.2.1).2.1) + ((((q24 l ((l.length:Int) - 1) q30).2.1).length:Int) + 1),())
      else none
     else none
    else
     bif (((q24 l ((l.length:Int) - 1) q30).1) == 5) then
      bif q26 ((((q24 l ((l.length:Int) - 1) q30).2.1).length:Int) + 2) then
      bif q26 ((((q24 l ((l.length:Int) - 1) q30).2.2.2.1).2.1) + ((((q24 l ((l.length:Int) - 1) q30).2.1).length:Int) + 2)) then
      some (((q24 l ((l.length:Int) - 1) q30).2.2.2.1).1,(((q24 l ((l.length:Int) - 1) q30).2.2.2.1).2.1) + ((((q24 l ((l.length:Int) - 1) q30).2.1).length:Int) + 2),())
      else none
      else none
     else
      bif q26 ((((q24 l ((l.length:Int) - 1) q30).2.2.2.1).2.1) + (((q24 l ((l.length:Int) - 1) q30).2.1).length:Int)) then
      some (((q24 l ((l.length:Int) - 1) q30).2.2.2.1).1,(((q24 l ((l.length:Int) - 1) q30).2.2.2.1).2.1) + (((q24 l ((l.length:Int) - 1) q30).2.1).length:Int),())
      else none
  else none
  else none
noncomputable def k86 (N:Nat)(l:List q36):Option (RT [w74]):=q22 DR Tryz.prog N (vi8 N) kb1 Tryz.f31 (q10 Tryz.f31) (RT [w74]) (qd2 [(.list qc9)] (l,())) [] (q40 [w74])
theorem ue0 (N:Nat)(l:List q36):k86 N l=jp5 N l:=by kernel_rfl
def vt0 (m:(List q36)→Option qi7):Ent:=q35 [(.list qc9)] [w74] fun (x:Els [(.list qc9)])=>m x.1
def yt6 (N:Nat):Ent:=vt0 (jp5 N)
theorem vm3 (N:Nat):q16 Tryz.prog 31 (yt6 N):=q15 (uq6 N) Tryz.func31 rfl (by kernel_rfl) fun (x:Els [(.list qc9)])=>ue0 N x.1
end Go.Proofs.YtgicljncknbgcaaGreat.Abs
