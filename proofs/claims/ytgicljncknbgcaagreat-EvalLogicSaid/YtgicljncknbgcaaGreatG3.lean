/- The functions of the program, told on typed values, printed by a program: each tells what the reckoning of its body tells. -/
import Derived.Test.YtgicljncknbgcaaGreatL7
import Derived.Test.YtgicljncknbgcaaGreatG2
import Derived.Test.YtgicljncknbgcaaGreatLA
import Derived.Test.YtgicljncknbgcaaGreatProg
set_option linter.unusedVariables false
set_option linter.unusedSimpArgs false
set_option linter.unusedSectionVars false
namespace Go.Proofs.YtgicljncknbgcaaGreat.Abs
set_option maxRecDepth 100000
open Go Go.Proofs
abbrev qg3 :yq3:=⟨[.ref 0,.val (.int .i64)],[.cells [.val (.list qd2),.val (.int .i64),.val (.int .i64),.own q81 2003 54 8,.val (.int .i64),.val (.int .i64)] 161],[.arg 0 []],[.val (.int .i64)],true⟩
def qf4 (m:(List q33)→Int→Int→(List q20)→Int→Int→Int→Option OX0):Ent:=x73 qg3 fun (y:OX2×Unit) (x:Els [(.int .i64)])=>m y.1.1 y.1.2.1 y.1.2.2.1 y.1.2.2.2.1 y.1.2.2.2.2.1 y.1.2.2.2.2.2.1 x.1
abbrev qg7 :yq3:=⟨[.ref 0],[.cells [.val (.list qd2),.val (.int .i64),.val (.int .i64),.own q81 2003 54 8,.val (.int .i64),.val (.int .i64)] 161],[.arg 0 []],[.val (.int .i64)],true⟩
def wd4 (m:(List q33)→Int→Int→(List q20)→Int→Int→Option OX0):Ent:=x73 qg7 fun (y:OX2×Unit) (x:Els [])=>m y.1.1 y.1.2.1 y.1.2.2.1 y.1.2.2.2.1 y.1.2.2.2.2.1 y.1.2.2.2.2.2.1 
abbrev qf9 :yq3:=⟨[.ref 0,.val (.int .u8),.val (.int .i64),.val (.int .i64)],[.cells [.val (.list qd2),.val (.int .i64),.val (.int .i64),.own q81 2003 54 8,.val (.int .i64),.val (.int .i64)] 161],[.arg 0 []],[.val (.int .i64)],true⟩
def wd3 (m:(List q33)→Int→Int→(List q20)→Int→Int→Int→Int→Int→Option OX0):Ent:=x73 qf9 fun (y:OX2×Unit) (x:Els [(.int .u8),(.int .i64),(.int .i64)])=>m y.1.1 y.1.2.1 y.1.2.2.1 y.1.2.2.2.1 y.1.2.2.2.2.1 y.1.2.2.2.2.2.1 x.1 x.2.1 x.2.2.1
structure Gr0 where
 n:Nat
 r7_Reader_expr:(List q33)→Int→Int→(List q20)→Int→Int→Int→Option OX0
 r7_Reader_atom:(List q33)→Int→Int→(List q20)→Int→Int→Option OX0
 r7_Reader_call:(List q33)→Int→Int→(List q20)→Int→Int→Int→Int→Int→Option OX0
structure v74 (N:Gr0):Prop where
 r7_Reader_expr:q17 Tryz.prog 65 (qf4 N.r7_Reader_expr)
 r7_Reader_atom:q17 Tryz.prog 141 (wd4 N.r7_Reader_atom)
 r7_Reader_call:q17 Tryz.prog 207 (wd3 N.r7_Reader_call)
def wq0 :LH:=⟨[(0,.asis),(1,.int .i64),(8,.int .i64)],[(0,[.lst qd2,.int .i64,.int .i64,.own q81 2003 54 8,.int .i64,.int .i64])],[.cells [.int .i64,.int .i64]]⟩
def q76 :FH:=⟨[wq0],[],[],[],false,[142,143],[(6,⟨[(0,.asis),(1,.int .i64),(5,.asis)],[(0,[.lst qd2,.int .i64,.int .i64,.own q81 2003 54 8,.int .i64,.int .i64])],[.cells [.int .i64,.int .i64]]⟩),(7,⟨[(0,.asis),(1,.int .i64),(5,.asis)],[(0,[.lst qd2,.int .i64,.int .i64,.own q81 2003 54 8,.int .i64,.int .i64])],[.cells [.int .i64,.int .i64]]⟩),(10,⟨[(0,.asis),(1,.int .i64),(5,.asis),(6,.int .u8)],[(0,[.lst qd2,.int .i64,.int .i64,.own q81 2003 54 8,.int .i64,.int .i64])],[.cells [.int .i64,.int .i64]]⟩),(11,⟨[(0,.asis),(1,.int .i64),(5,.asis),(6,.int .u8)],[(0,[.lst qd2,.int .i64,.int .i64,.own q81 2003 54 8,.int .i64,.int .i64])],[.cells [.int .i64,.int .i64]]⟩),(17,⟨[(0,.asis),(1,.int .i64)],[(0,[.lst qd2,.int .i64,.int .i64,.own q81 2003 54 8,.int .i64,.int .i64])],[.cells [.int .i64,.int .i64]]⟩),(20,⟨[(0,.asis),(1,.int .i64),(8,.int .i64),(9,.asis)],[(0,[.lst qd2,.int .i64,.int .i64,.own q81 2003 54 8,.int .i64,.int .i64])],[.cells [.int .i64,.int .i64],.cells [.int .u8,.int .u8,.int .i64,.str,.str,.own (.int .i64) 2205 3 1,.int .i64,.int .i64]]⟩)]⟩
noncomputable def z46 (N:Gr0):q49:=tab [(141,wd4 N.r7_Reader_atom),(142,w18 N.n),(143,qn5 N.n),(144,ql9 N.n),(65,qf4 N.r7_Reader_expr),(145,w55 N.n),(146,xr8 N.n)]
theorem xf3 (N:Gr0)(h:v74 N):q14 Tryz.prog (z46 N):=q06 h.r7_Reader_atom <| q06 (wi1 N.n) <| q06 (qq3 N.n) <| q06 (qr0 N.n) <| q06 h.r7_Reader_expr <| q06 (wf2 N.n) <| q06 (vt6 N.n) <| q28 _
noncomputable def q55 :Sc:=wm4 Tryz.prog q76
noncomputable def q54 (N:Gr0):Cfg:=⟨N.n,z46 N,1⟩
noncomputable def qd9 (N:Gr0):Exit→List TV→List TOb→Option OX0:=fin Tryz.prog 1 Tryz.f65.results.toList (kObj qg3)
def ws0 (level:Int)(q43:List q33)(q23 q19:Int)(q65:List q20)(q79 q29:Int)(e:Int×Int):List TV:=match e with
 | (q35,q47)=>frm 116 [(0,.ref 0 0),(1,.int .i64 level),(5,.ref 1 0)]
def wq6 (level:Int)(q43:List q33)(q23 q19:Int)(q65:List q20)(q79 q29:Int)(e:Int×Int):List TOb:=match e with
 | (q35,q47)=>[.cells [.tl qd2 q43 .unk,.int .i64 q23,.int .i64 q19,.tl q81 q65 (.own 2003 54 8),.int .i64 q79,.int .i64 q29] 161 true,.cells [.int .i64 q35,.int .i64 q47] 31 true]
def ws4 (level:Int)(q43:List q33)(q23 q19:Int)(q65:List q20)(q79 q29 q35 q47:Int)(e:Unit):List TV:=frm 116 [(0,.ref 0 0),(1,.int .i64 level)]
def wq7 (level:Int)(q43:List q33)(q23 q19:Int)(q65:List q20)(q79 q29 q35 q47:Int)(e:Unit):List TOb:=[.cells [.tl qd2 q43 .unk,.int .i64 q23,.int .i64 q19,.tl q81 q65 (.own 2003 54 8),.int .i64 q79,.int .i64 q29] 161 true,.cells [.int .i64 q35,.int .i64 q47] 31 true]
def qk4 (level q35 q47:Int)(e:Int×List q33×Int×Int×List q20×Int×Int):List TV:=match e with
 | (a,r_L,wd5,qd3,r_T,yg8,qk7)=>frm 116 [(0,.ref 0 0),(1,.int .i64 level),(8,.int .i64 a)]
def qk0 (level q35 q47:Int)(e:Int×List q33×Int×Int×List q20×Int×Int):List TOb:=match e with
 | (a,r_L,wd5,qd3,r_T,yg8,qk7)=>[.cells [.tl qd2 r_L .unk,.int .i64 wd5,.int .i64 qd3,.tl q81 r_T (.own 2003 54 8),.int .i64 yg8,.int .i64 qk7] 161 true,.cells [.int .i64 q35,.int .i64 q47] 31 true]
def j64 (level a:Int)(r_L:List q33)(wd5 qd3:Int)(r_T:List q20)(yg8 qk7 q35 q47 r10:Int)(e:Int×Int):List TV:=match e with
 | (q15,q18)=>frm 116 [(0,.ref 0 0),(1,.int .i64 level),(8,.int .i64 a),(9,.ref 2 0)]
def j43 (level a:Int)(r_L:List q33)(wd5 qd3:Int)(r_T:List q20)(yg8 qk7 q35 q47 r10:Int)(e:Int×Int):List TOb:=match e with
 | (q15,q18)=>[.cells [.tl qd2 r_L .unk,.int .i64 wd5,.int .i64 qd3,.tl q81 r_T (.own 2003 54 8),.int .i64 yg8,.int .i64 qk7] 161 true,.cells [.int .i64 q35,.int .i64 q47] 31 true,.cells [.int .u8 r10,.int .u8 0,.int .i64 0,.str [],.str [],.tl (.int .i64) [] (.own 2205 3 1),.int .i64 q15,.int .i64 q18] 54 true]
def ws7 (level:Int)(q43:List q33)(q23 q19:Int)(q65:List q20)(q79 q29 q35 q47:Int)(e:Unit):List TV:=frm 116 [(0,.ref 0 0),(1,.int .i64 level),(5,.ref 1 0)]
def wr9 (level:Int)(q43:List q33)(q23 q19:Int)(q65:List q20)(q79 q29 q35 q47:Int)(e:Unit):List TOb:=[.cells [.tl qd2 q43 .unk,.int .i64 q23,.int .i64 q19,.tl q81 q65 (.own 2003 54 8),.int .i64 q79,.int .i64 q29] 161 true,.cells [.int .i64 q35,.int .i64 q47] 31 true]
def wt0 (level:Int)(q43:List q33)(q23 q19:Int)(q65:List q20)(q79 q29 q35 q47 e:Int):List TV:=match e with
 | op=>frm 116 [(0,.ref 0 0),(1,.int .i64 level),(5,.ref 1 0),(6,.int .u8 op)]
def ws8 (level:Int)(q43:List q33)(q23 q19:Int)(q65:List q20)(q79 q29 q35 q47 e:Int):List TOb:=match e with
 | op=>[.cells [.tl qd2 q43 .unk,.int .i64 q23,.int .i64 q19,.tl q81 q65 (.own 2003 54 8),.int .i64 q79,.int .i64 q29] 161 true,.cells [.int .i64 q35,.int .i64 q47] 31 true]
def j35 (level op:Int)(q43:List q33)(q23 qj3:Int)(q65:List q20)(q35 q47:Int)(e:Int×Int):List TV:=match e with
 | (r_E,zg3)=>frm 116 [(0,.ref 0 0),(1,.int .i64 level),(5,.ref 1 0),(6,.int .u8 op)]
def j52 (level op:Int)(q43:List q33)(q23 qj3:Int)(q65:List q20)(q35 q47:Int)(e:Int×Int):List TOb:=match e with
 | (r_E,zg3)=>[.cells [.tl qd2 q43 .unk,.int .i64 q23,.int .i64 qj3,.tl q81 q65 (.own 2003 54 8),.int .i64 r_E,.int .i64 zg3] 161 true,.cells [.int .i64 q35,.int .i64 q47] 31 true]
noncomputable def j61 (N:Gr0):List TV→List TOb→Option OX0:=x83 DR q55 (q54 N) (q88 (q88 (q08 (q08 (q08 (yu6 (q08 (q88 (q08 (q08 (q08 (q08 (q13 Tryz.f65))))))))))))) (qc5 DR q55 (q54 N) (q08 (q88 (q08 (q08 (q08 (yu6 (q08 (q88 (q08 (q08 (q08 (q08 (q13 Tryz.f65))))))))))))) (q76.loops.drop 0) (qc5 DR q55 (q54 N) (q08 (q08 (q08 (q08 (yu6 (q08 (q88 (q08 (q08 (q08 (q08 (q13 Tryz.f65)))))))))))) (q76.loops.drop 0) (qc5 DR q55 (q54 N) (q08 (q08 (q08 (q08 (q08 (q13 Tryz.f65)))))) (q76.loops.drop 0) (qd9 N))))
def w44 (N:Gr0)(level op:Int)(q43:List q33)(q23 qj3:Int)(q65:List q20)(q35 q47:Int)(e:Int×Int):Option OX0 :=
 match e with
 | (r_E,zg3) =>
  bif (r_E != 0) then
   some (((q43,q23,qj3,q65,r_E,zg3,()),()),((-1),()))
  else
   bif q27 (q23 + 1) then
   (N.r7_Reader_expr q43 (q23 + 1) qj3 q65 r_E zg3 level).bind fun r4 =>
   bif q27 (r4.1.1.2.2.1 - 1) then
   (qp4 N.n r4.1.1.1 r4.1.1.2.1 (r4.1.1.2.2.1 - 1) r4.1.1.2.2.2.1 r4.1.1.2.2.2.2.1 r4.1.1.2.2.2.2.2.1 (op,(0,0,[],()),[],[r4.2.1],(q35,q47,()),())).bind fun r5 =>
   some (r5.1,r5.2)
   else none
   else none
theorem xc7 (N:Gr0)(level op:Int)(q43:List q33)(q23 qj3:Int)(q65:List q20)(q35 q47:Int)(e:Int×Int):jmp N.n (j61 N ) ((j35 level op q43 q23 qj3 q65 q35 q47) e) ((j52 level op q43 q23 qj3 q65 q35 q47) e)=at1 N.n (w44 N level op q43 q23 qj3 q65 q35 q47 e):=qn7 (by obtain ⟨r_E,zg3⟩:=e; kernel_rfl) N.n
noncomputable def wp4 (N:Gr0):List TV→List TOb→Option OX0:=x83 DR q55 (q54 N) (q88 (q08 (q08 (yu6 (q08 (q88 (q08 (q08 (q08 (q08 (q13 Tryz.f65))))))))))) (qc5 DR q55 (q54 N) (q08 (q08 (q08 (yu6 (q08 (q88 (q08 (q08 (q08 (q08 (q13 Tryz.f65))))))))))) (q76.loops.drop 0) (qc5 DR q55 (q54 N) (q08 (q08 (q08 (q08 (q08 (q13 Tryz.f65)))))) (q76.loops.drop 0) (qd9 N)))
def wl1 (N:Gr0)(level:Int)(q43:List q33)(q23 q19:Int)(q65:List q20)(q79 q29 q35 q47:Int)(l5:Int→Int→(List q33)→Int→Int→(List q20)→Int→Int→(Int×Int)→Option OX0)(e:Int):Option OX0 :=
 match e with
 | op =>
  bif decide (q19 ≥ 12) then
   bif (q79 == 0) then
    bif q27 (q19 + 1) then
    l5 level op q43 q23 (q19 + 1) q65 q35 q47 (12,q23)
    else none
   else
    bif q27 (q19 + 1) then
    l5 level op q43 q23 (q19 + 1) q65 q35 q47 (q79,q29)
    else none
  else
   bif q27 (q19 + 1) then
   l5 level op q43 q23 (q19 + 1) q65 q35 q47 (q79,q29)
   else none
def qt9 (N:Gr0)(level:Int)(q43:List q33)(q23 q19:Int)(q65:List q20)(q79 q29 q35 q47 e:Int):Option OX0:=wl1 N level q43 q23 q19 q65 q79 q29 q35 q47 (fun level op q43 q23 qj3 q65 q35 q47 e=>at1 N.n (w44 N level op q43 q23 qj3 q65 q35 q47 e)) e
theorem xj4 (N:Gr0)(level:Int)(q43:List q33)(q23 q19:Int)(q65:List q20)(q79 q29 q35 q47 e:Int):jmp N.n (wp4 N ) ((wt0 level q43 q23 q19 q65 q79 q29 q35 q47) e) ((ws8 level q43 q23 q19 q65 q79 q29 q35 q47) e)=at1 N.n (qt9 N level q43 q23 q19 q65 q79 q29 q35 q47 e):=qn7 (by
 have h:(wp4 N ) ((wt0 level q43 q23 q19 q65 q79 q29 q35 q47) e) ((ws8 level q43 q23 q19 q65 q79 q29 q35 q47) e)=wl1 N level q43 q23 q19 q65 q79 q29 q35 q47 (fun level op q43 q23 qj3 q65 q35 q47 e=>jmp N.n (j61 N ) (j35 level op q43 q23 qj3 q65 q35 q47 e) (j52 level op q43 q23 qj3 q65 q35 q47 e)) e:=by kernel_rfl
 rw [h]
 simp only [qt9,xc7] <;> rfl) N.n
noncomputable def wp5 (N:Gr0):List TV→List TOb→Option OX0:=x83 DR q55 (q54 N) (q88 (yu6 (q08 (q88 (q08 (q08 (q08 (q08 (q13 Tryz.f65))))))))) (qc5 DR q55 (q54 N) (q08 (yu6 (q08 (q88 (q08 (q08 (q08 (q08 (q13 Tryz.f65))))))))) (q76.loops.drop 0) (qc5 DR q55 (q54 N) (q08 (q08 (q08 (q08 (q08 (q13 Tryz.f65)))))) (q76.loops.drop 0) (qd9 N)))
def wl2 (N:Gr0)(level:Int)(q43:List q33)(q23 q19:Int)(q65:List q20)(q79 q29 q35 q47:Int)(l4:Int→(List q33)→Int→Int→(List q20)→Int→Int→Int→Int→Int→Option OX0)(e:Unit):Option OX0 :=
 bif (level == 6) then
  l4 level q43 q23 q19 q65 q79 q29 q35 q47 17
 else
  l4 level q43 q23 q19 q65 q79 q29 q35 q47 6
def qk6 (N:Gr0)(level:Int)(q43:List q33)(q23 q19:Int)(q65:List q20)(q79 q29 q35 q47:Int)(e:Unit):Option OX0:=wl2 N level q43 q23 q19 q65 q79 q29 q35 q47 (fun level q43 q23 q19 q65 q79 q29 q35 q47 e=>at1 N.n (qt9 N level q43 q23 q19 q65 q79 q29 q35 q47 e)) e
theorem xe9 (N:Gr0)(level:Int)(q43:List q33)(q23 q19:Int)(q65:List q20)(q79 q29 q35 q47:Int)(e:Unit):jmp N.n (wp5 N ) ((ws7 level q43 q23 q19 q65 q79 q29 q35 q47) e) ((wr9 level q43 q23 q19 q65 q79 q29 q35 q47) e)=at1 N.n (qk6 N level q43 q23 q19 q65 q79 q29 q35 q47 e):=qn7 (by
 have h:(wp5 N ) ((ws7 level q43 q23 q19 q65 q79 q29 q35 q47) e) ((wr9 level q43 q23 q19 q65 q79 q29 q35 q47) e)=wl2 N level q43 q23 q19 q65 q79 q29 q35 q47 (fun level q43 q23 q19 q65 q79 q29 q35 q47 e=>jmp N.n (wp4 N ) (wt0 level q43 q23 q19 q65 q79 q29 q35 q47 e) (ws8 level q43 q23 q19 q65 q79 q29 q35 q47 e)) e:=by kernel_rfl
 rw [h]
 simp only [qk6,xj4] <;> rfl) N.n
noncomputable def j53 (N:Gr0)(K0r:List TV→List TOb→Option OX0):List TV→List TOb→Option OX0:=x83 DR q55 (q54 N) (q88 (q08 (qc6 (q08 (qm3 (qc6 (q88 (q08 (q08 (q08 (q08 (q08 (q08 (q13 Tryz.f65)))))))))))))) (qc5 DR q55 (q54 N) (q08 (q08 (qc6 (q08 (qm3 (qc6 (q88 (q08 (q08 (q08 (q08 (q08 (q08 (q13 Tryz.f65)))))))))))))) (q76.loops.drop 1) (qj9 1 (ug3 (q54 N) wq0 (qj9 0 (qc5 DR q55 (q54 N) (q08 (q08 (q08 (q08 (q08 (q08 (q08 (q13 Tryz.f65)))))))) (q76.loops.drop 1) (qd9 N))) K0r)))
def w45 (N:Gr0)(level a:Int)(r_L:List q33)(wd5 qd3:Int)(r_T:List q20)(yg8 qk7 q35 q47 r10:Int)(K0:OX8→Option OX0)(e:Int×Int):Option OX0 :=
 match e with
 | (q15,q18) =>
  bif q27 (wd5 + 1) then
  bif q27 (level + 1) then
  (N.r7_Reader_expr r_L (wd5 + 1) qd3 r_T yg8 qk7 (level + 1)).bind fun r11 =>
  (qp4 N.n r11.1.1.1 r11.1.1.2.1 r11.1.1.2.2.1 r11.1.1.2.2.2.1 r11.1.1.2.2.2.2.1 r11.1.1.2.2.2.2.2.1 (r10,(0,0,[],()),[],[a,r11.2.1],(q15,q18,()),())).bind fun r12 =>
  bif (level == 3) then
   some (r12.1,r12.2)
  else
   K0 (r12.2.1,r12.1.1.1,r12.1.1.2.1,r12.1.1.2.2.1,r12.1.1.2.2.2.1,r12.1.1.2.2.2.2.1,r12.1.1.2.2.2.2.2.1)
  else none
  else none
theorem xb2 (N:Gr0)(level a:Int)(r_L:List q33)(wd5 qd3:Int)(r_T:List q20)(yg8 qk7 q35 q47 r10:Int)(K0r:List TV→List TOb→Option OX0)(e:Int×Int):jmp N.n (j53 N K0r) ((j64 level a r_L wd5 qd3 r_T yg8 qk7 q35 q47 r10) e) ((j43 level a r_L wd5 qd3 r_T yg8 qk7 q35 q47 r10) e)=at1 N.n (w45 N level a r_L wd5 qd3 r_T yg8 qk7 q35 q47 r10 (fun a=>K0r (qk4 level q35 q47 a) (qk0 level q35 q47 a)) e):=qn7 (by obtain ⟨q15,q18⟩:=e; kernel_rfl) N.n
noncomputable def ws6 (N:Gr0):(List TV→List TOb→Option OX0)→List TV→List TOb→Option OX0:=w66 DR q55 (q54 N) (qm3 (qc6 (q88 (q08 (q08 (q08 (q08 (q08 (q08 (q13 Tryz.f65)))))))))) wq0 (q76.loops.drop 1) (qj9 0 (qc5 DR q55 (q54 N) (q08 (q08 (q08 (q08 (q08 (q08 (q08 (q13 Tryz.f65)))))))) (q76.loops.drop 1) (qd9 N)))
def wk0 (N:Gr0)(level q35 q47:Int)(l7:Int→Int→(List q33)→Int→Int→(List q20)→Int→Int→Int→Int→Int→(Int×Int)→Option OX0)(K0:OX8→Option OX0)(e:Int×List q33×Int×Int×List q20×Int×Int):Option OX0 :=
 match e with
 | (a,r_L,wd5,qd3,r_T,yg8,qk7) =>
  bif (yg8 == 0) then
   (qa0 N.n r_L wd5 qd3 r_T yg8 qk7).bind fun r7 =>
   (j99 N.n level r7).bind fun r8 =>
   bif (r8 != 0) then
    (qa0 N.n r_L wd5 qd3 r_T yg8 qk7).bind fun r9 =>
    (j99 N.n level r9).bind fun r10 =>
    bif decide (wd5 < (r_L.length:Int)) then
     bif inR wd5 r_L.length then
     l7 level a r_L wd5 qd3 r_T yg8 qk7 q35 q47 r10 (((q25 r_L wd5 q31).2.2.2.1).1,((q25 r_L wd5 q31).2.2.2.1).2.1)
     else none
    else
     l7 level a r_L wd5 qd3 r_T yg8 qk7 q35 q47 r10 (0,0)
   else
    some (((r_L,wd5,qd3,r_T,yg8,qk7,()),()),(a,()))
  else
   some (((r_L,wd5,qd3,r_T,yg8,qk7,()),()),(a,()))
def w51 (N:Gr0)(level q35 q47:Int)(K0:OX8→Option OX0)(e:Int×List q33×Int×Int×List q20×Int×Int):Option OX0:=wk0 N level q35 q47 (fun level a r_L wd5 qd3 r_T yg8 qk7 q35 q47 r10 e=>at1 N.n (w45 N level a r_L wd5 qd3 r_T yg8 qk7 q35 q47 r10 K0 e)) K0 e
theorem xc8 (N:Gr0)(level q35 q47:Int)(n_:Nat)(e:Int×List q33×Int×Int×List q20×Int×Int):q58 (ws6 N ) n_ ((qk4 level q35 q47) e) ((qk0 level q35 q47) e)=q87 (w51 N level q35 q47 ) n_ e :=
 q41 (qk4 level q35 q47) (qk0 level q35 q47) (by
  intro K e
  have h:(ws6 N ) K ((qk4 level q35 q47) e) ((qk0 level q35 q47) e)=wk0 N level q35 q47 (fun level a r_L wd5 qd3 r_T yg8 qk7 q35 q47 r10 e=>jmp N.n (j53 N K) (j64 level a r_L wd5 qd3 r_T yg8 qk7 q35 q47 r10 e) (j43 level a r_L wd5 qd3 r_T yg8 qk7 q35 q47 r10 e)) (fun e=>K ((qk4 level q35 q47) e) ((qk0 level q35 q47) e)) e:=by obtain ⟨a,r_L,wd5,qd3,r_T,yg8,qk7⟩:=e; kernel_rfl
  rw [h]
  simp only [w51,xb2] <;> rfl) n_ e
noncomputable def ws2 (N:Gr0):List TV→List TOb→Option OX0:=x83 DR q55 (q54 N) (q88 (q08 (q08 (q08 (q08 (q08 (q13 Tryz.f65))))))) (qc5 DR q55 (q54 N) (q08 (q08 (q08 (q08 (q08 (q08 (q13 Tryz.f65))))))) (q76.loops.drop 0) (qd9 N))
def wi4 (N:Gr0)(level:Int)(q43:List q33)(q23 q19:Int)(q65:List q20)(q79 q29 q35 q47:Int)(l6:Int→Int→Int→OX8→Option OX0)(e:Unit):Option OX0 :=
 bif q27 (level + 1) then
 (N.r7_Reader_expr q43 q23 q19 q65 q79 q29 (level + 1)).bind fun r6 =>
 l6 level q35 q47 (r6.2.1,r6.1.1.1,r6.1.1.2.1,r6.1.1.2.2.1,r6.1.1.2.2.2.1,r6.1.1.2.2.2.2.1,r6.1.1.2.2.2.2.2.1)
 else none
def qg6 (N:Gr0)(level:Int)(q43:List q33)(q23 q19:Int)(q65:List q20)(q79 q29 q35 q47:Int)(e:Unit):Option OX0:=wi4 N level q43 q23 q19 q65 q79 q29 q35 q47 (fun level q35 q47 e=>q87 (w51 N level q35 q47) N.n e) e
theorem xm5 (N:Gr0)(level:Int)(q43:List q33)(q23 q19:Int)(q65:List q20)(q79 q29 q35 q47:Int)(e:Unit):jmp N.n (ws2 N ) ((ws4 level q43 q23 q19 q65 q79 q29 q35 q47) e) ((wq7 level q43 q23 q19 q65 q79 q29 q35 q47) e)=at1 N.n (qg6 N level q43 q23 q19 q65 q79 q29 q35 q47 e):=qn7 (by
 have h:(ws2 N ) ((ws4 level q43 q23 q19 q65 q79 q29 q35 q47) e) ((wq7 level q43 q23 q19 q65 q79 q29 q35 q47) e)=wi4 N level q43 q23 q19 q65 q79 q29 q35 q47 (fun level q35 q47 e=>q58 (ws6 N ) N.n (qk4 level q35 q47 e) (qk0 level q35 q47 e)) e:=by kernel_rfl
 rw [h]
 simp only [qg6,xc8] <;> rfl) N.n
noncomputable def wq8 (N:Gr0):List TV→List TOb→Option OX0:=x83 DR q55 (q54 N) (q88 (q88 (q08 (q08 (q08 (q08 (q13 Tryz.f65))))))) (qc5 DR q55 (q54 N) (q08 (q88 (q08 (q08 (q08 (q08 (q13 Tryz.f65))))))) (q76.loops.drop 0) (qc5 DR q55 (q54 N) (q08 (q08 (q08 (q08 (q08 (q13 Tryz.f65)))))) (q76.loops.drop 0) (qd9 N)))
def wk1 (N:Gr0)(level:Int)(q43:List q33)(q23 q19:Int)(q65:List q20)(q79 q29:Int)(l2 l3:Int→(List q33)→Int→Int→(List q20)→Int→Int→Int→Int→Unit→Option OX0)(e:Int×Int):Option OX0 :=
 match e with
 | (q35,q47) =>
  bif (level == 2) then
   (qa0 N.n q43 q23 q19 q65 q79 q29).bind fun r1 =>
   bif (r1 == ([110,111,116]:List UInt8)) then
    l2 level q43 q23 q19 q65 q79 q29 q35 q47 ()
   else
    bif (level == 6) then
     (qa0 N.n q43 q23 q19 q65 q79 q29).bind fun r2 =>
     bif (r2 == ([45]:List UInt8)) then
      l2 level q43 q23 q19 q65 q79 q29 q35 q47 ()
     else
      l3 level q43 q23 q19 q65 q79 q29 q35 q47 ()
    else
     l3 level q43 q23 q19 q65 q79 q29 q35 q47 ()
  else
   bif (level == 6) then
    (qa0 N.n q43 q23 q19 q65 q79 q29).bind fun r3 =>
    bif (r3 == ([45]:List UInt8)) then
     l2 level q43 q23 q19 q65 q79 q29 q35 q47 ()
    else
     l3 level q43 q23 q19 q65 q79 q29 q35 q47 ()
   else
    l3 level q43 q23 q19 q65 q79 q29 q35 q47 ()
def qs4 (N:Gr0)(level:Int)(q43:List q33)(q23 q19:Int)(q65:List q20)(q79 q29:Int)(e:Int×Int):Option OX0:=wk1 N level q43 q23 q19 q65 q79 q29 (fun level q43 q23 q19 q65 q79 q29 q35 q47 e=>at1 N.n (qk6 N level q43 q23 q19 q65 q79 q29 q35 q47 e)) (fun level q43 q23 q19 q65 q79 q29 q35 q47 e=>at1 N.n (qg6 N level q43 q23 q19 q65 q79 q29 q35 q47 e)) e
theorem xl5 (N:Gr0)(level:Int)(q43:List q33)(q23 q19:Int)(q65:List q20)(q79 q29:Int)(e:Int×Int):jmp N.n (wq8 N ) ((ws0 level q43 q23 q19 q65 q79 q29) e) ((wq6 level q43 q23 q19 q65 q79 q29) e)=at1 N.n (qs4 N level q43 q23 q19 q65 q79 q29 e):=qn7 (by
 have h:(wq8 N ) ((ws0 level q43 q23 q19 q65 q79 q29) e) ((wq6 level q43 q23 q19 q65 q79 q29) e)=wk1 N level q43 q23 q19 q65 q79 q29 (fun level q43 q23 q19 q65 q79 q29 q35 q47 e=>jmp N.n (wp5 N ) (ws7 level q43 q23 q19 q65 q79 q29 q35 q47 e) (wr9 level q43 q23 q19 q65 q79 q29 q35 q47 e)) (fun level q43 q23 q19 q65 q79 q29 q35 q47 e=>jmp N.n (ws2 N ) (ws4 level q43 q23 q19 q65 q79 q29 q35 q47 e) (wq7 level q43 q23 q19 q65 q79 q29 q35 q47 e)) e:=by obtain ⟨q35,q47⟩:=e; kernel_rfl
 rw [h]
 simp only [qs4,xe9,xm5] <;> rfl) N.n
def wc4 (N:Gr0)(q43:List q33)(q23 q19:Int)(q65:List q20)(q79 q29 level:Int)(l1:Int→(List q33)→Int→Int→(List q20)→Int→Int→(Int×Int)→Option OX0):Option OX0 :=
 bif (q79 != 0) then
  some (((q43,q23,q19,q65,q79,q29,()),()),((-1),()))
 else
  bif (level == 7) then
   (N.r7_Reader_atom q43 q23 q19 q65 q79 q29).bind fun r =>
   some (r.1,r.2)
  else
   bif decide (q23 < (q43.length:Int)) then
    bif inR q23 q43.length then
    l1 level q43 q23 q19 q65 q79 q29 (((q25 q43 q23 q31).2.2.2.1).1,((q25 q43 q23 q31).2.2.2.1).2.1)
    else none
   else
    l1 level q43 q23 q19 q65 q79 q29 (0,0)
def qf1 (N:Gr0)(q43:List q33)(q23 q19:Int)(q65:List q20)(q79 q29 level:Int):Option OX0:=wc4 N q43 q23 q19 q65 q79 q29 level (fun level q43 q23 q19 q65 q79 q29 e=>at1 N.n (qs4 N level q43 q23 q19 q65 q79 q29 e))
noncomputable def jj3 (N:Gr0)(q43:List q33)(q23 q19:Int)(q65:List q20)(q79 q29 level:Int):Option (ObR qg3):=q24 DR Tryz.prog N.n (z46 N) q76 Tryz.f65 (q13 Tryz.f65) (ObR qg3) (encX qg3 ((q43,q23,q19,q65,q79,q29,()),()) (level,())) (encY qg3 ((q43,q23,q19,q65,q79,q29,()),())) (kObj qg3)
theorem x81 (N:Gr0)(q43:List q33)(q23 q19:Int)(q65:List q20)(q79 q29 level:Int):jj3 N q43 q23 q19 q65 q79 q29 level=qf1 N q43 q23 q19 q65 q79 q29 level:=by
 have h:jj3 N q43 q23 q19 q65 q79 q29 level=wc4 N q43 q23 q19 q65 q79 q29 level (fun level q43 q23 q19 q65 q79 q29 e=>jmp N.n (wq8 N ) (ws0 level q43 q23 q19 q65 q79 q29 e) (wq6 level q43 q23 q19 q65 q79 q29 e)):=by kernel_rfl
 rw [h]
 simp only [qf1,xl5] <;> rfl
theorem ys6 (N:Gr0)(h:v74 N):q17 Tryz.prog 65 (qf4 (qf1 N)):=z28 (xf3 N h) Tryz.func65 rfl (by kernel_rfl) (by kernel_rfl) fun (y:OX2×Unit) (x:Els [(.int .i64)])=>x81 N y.1.1 y.1.2.1 y.1.2.2.1 y.1.2.2.2.1 y.1.2.2.2.2.1 y.1.2.2.2.2.2.1 x.1
def qx1 :FH:=⟨[],[],[(1,⟨9,115,0,[],[]⟩),(4,⟨11,115,1,[(10,.alloc 0)],[]⟩)],[],false,[143],[(9,⟨[(0,.asis)],[(0,[.lst qd2,.int .i64,.int .i64,.own q81 2003 54 8,.int .i64,.int .i64])],[.cells [.int .u8,.str,.int .u8,.int .i64,.str,.int .i64,.int .i64],.cells [.int .u8,.int .u8,.int .i64,.str,.str,.own (.int .i64) 2205 3 1,.int .i64,.int .i64]]⟩),(34,⟨[(0,.asis),(4,.asis)],[(0,[.lst qd2,.int .i64,.int .i64,.own q81 2003 54 8,.int .i64,.int .i64])],[.cells [.int .u8,.str,.int .u8,.int .i64,.str,.int .i64,.int .i64],.cells [.int .u8,.int .u8,.int .i64,.str,.str,.own (.int .i64) 2205 3 1,.int .i64,.int .i64]]⟩)]⟩
noncomputable def z52 (N:Gr0):q49:=tab [(205,qi6 N.n),(206,vk2 N.n),(207,wd3 N.r7_Reader_call),(143,qn5 N.n),(144,ql9 N.n),(208,wk6 N.n),(65,qf4 N.r7_Reader_expr),(145,w55 N.n)]
theorem xj8 (N:Gr0)(h:v74 N):q14 Tryz.prog (z52 N):=q06 (ql8 N.n) <| q06 (ul1 N.n) <| q06 h.r7_Reader_call <| q06 (qq3 N.n) <| q06 (qr0 N.n) <| q06 (z77 N.n) <| q06 h.r7_Reader_expr <| q06 (wf2 N.n) <| q28 _
noncomputable def qr4 :Sc:=wm4 Tryz.prog qx1
noncomputable def qr9 (N:Gr0):Cfg:=⟨N.n,z52 N,1⟩
noncomputable def zt6 (N:Gr0):Exit→List TV→List TOb→Option OX0:=fin Tryz.prog 1 Tryz.f141.results.toList (kObj qg7)
def j07 (q43:List q33)(q23:Int)(q65:List q20)(qg8:Int)(z44:List UInt8)(qx4 ji2:Int)(ji1:List UInt8)(qm6 qx5 qw8 jj6:Int)(jk5:List UInt8)(qn4 qy0:Int)(e:Int×Int×Int):List TV:=match e with
 | (qj3,r_E,zg3)=>frm 115 [(0,.ref 0 0)]
def j55 (q43:List q33)(q23:Int)(q65:List q20)(qg8:Int)(z44:List UInt8)(qx4 ji2:Int)(ji1:List UInt8)(qm6 qx5 qw8 jj6:Int)(jk5:List UInt8)(qn4 qy0:Int)(e:Int×Int×Int):List TOb:=match e with
 | (qj3,r_E,zg3)=>[.cells [.tl qd2 q43 .unk,.int .i64 q23,.int .i64 qj3,.tl q81 q65 (.own 2003 54 8),.int .i64 r_E,.int .i64 zg3] 161 true,.cells [.int .u8 qg8,.str z44,.int .u8 qx4,.int .i64 ji2,.str ji1,.int .i64 qm6,.int .i64 qx5] 105 true,.cells [.int .u8 1,.int .u8 qw8,.int .i64 jj6,.str jk5,.str [],.tl (.int .i64) [] (.own 2205 3 1),.int .i64 qn4,.int .i64 qy0] 54 true]
def j09 (q43:List q33)(q23 q19:Int)(q65:List q20)(q79 q29 wc5:Int)(wc7:List UInt8)(qn2 z61:Int)(z48:List UInt8)(qi1 qn0 q15 q18:Int)(e:Int×Int×Int×List UInt8×List UInt8):List TV:=match e with
 | (jh1,q26,q61,q62,q39)=>frm 115 [(0,.ref 0 0),(4,.ref 2 0)]
def j08 (q43:List q33)(q23 q19:Int)(q65:List q20)(q79 q29 wc5:Int)(wc7:List UInt8)(qn2 z61:Int)(z48:List UInt8)(qi1 qn0 q15 q18:Int)(e:Int×Int×Int×List UInt8×List UInt8):List TOb:=match e with
 | (jh1,q26,q61,q62,q39)=>[.cells [.tl qd2 q43 .unk,.int .i64 q23,.int .i64 q19,.tl q81 q65 (.own 2003 54 8),.int .i64 q79,.int .i64 q29] 161 true,.cells [.int .u8 wc5,.str wc7,.int .u8 qn2,.int .i64 z61,.str z48,.int .i64 qi1,.int .i64 qn0] 105 true,.cells [.int .u8 jh1,.int .u8 q26,.int .i64 q61,.str q62,.str q39,.tl (.int .i64) [] (.own 2205 3 1),.int .i64 q15,.int .i64 q18] 54 true]
noncomputable def zy5 (N:Gr0):List TV→List TOb→Option OX0:=x83 DR qr4 (qr9 N) (q88 (q08 (q08 (q08 (q08 (q08 (q13 Tryz.f141))))))) (qc5 DR qr4 (qr9 N) (q08 (q08 (q08 (q08 (q08 (q08 (q13 Tryz.f141))))))) (qx1.loops.drop 0) (zt6 N))
def w38 (N:Gr0)(q43:List q33)(q23 q19:Int)(q65:List q20)(q79 q29 wc5:Int)(wc7:List UInt8)(qn2 z61:Int)(z48:List UInt8)(qi1 qn0 q15 q18:Int)(e:Int×Int×Int×List UInt8×List UInt8):Option OX0 :=
 match e with
 | (jh1,q26,q61,q62,q39) =>
  bif q27 (q23 + 1) then
  (qp4 N.n q43 (q23 + 1) q19 q65 q79 q29 (jh1,(q26,q61,q62,()),q39,[],(q15,q18,()),())).bind fun r6 =>
  some (r6.1,r6.2)
  else none
theorem xk1 (N:Gr0)(q43:List q33)(q23 q19:Int)(q65:List q20)(q79 q29 wc5:Int)(wc7:List UInt8)(qn2 z61:Int)(z48:List UInt8)(qi1 qn0 q15 q18:Int)(e:Int×Int×Int×List UInt8×List UInt8):jmp N.n (zy5 N ) ((j09 q43 q23 q19 q65 q79 q29 wc5 wc7 qn2 z61 z48 qi1 qn0 q15 q18) e) ((j08 q43 q23 q19 q65 q79 q29 wc5 wc7 qn2 z61 z48 qi1 qn0 q15 q18) e)=at1 N.n (w38 N q43 q23 q19 q65 q79 q29 wc5 wc7 qn2 z61 z48 qi1 qn0 q15 q18 e):=qn7 (by obtain ⟨jh1,q26,q61,q62,q39⟩:=e; kernel_rfl) N.n
noncomputable def j41 (N:Gr0):List TV→List TOb→Option OX0:=x83 DR qr4 (qr9 N) (q88 (q08 (zh9 (q08 (zh9 (q08 (zh9 (q08 (zh9 (q08 (qc6 (q08 (q88 (q08 (q08 (q08 (q08 (q13 Tryz.f141)))))))))))))))))) (qc5 DR qr4 (qr9 N) (q08 (q08 (zh9 (q08 (zh9 (q08 (zh9 (q08 (zh9 (q08 (qc6 (q08 (q88 (q08 (q08 (q08 (q08 (q13 Tryz.f141)))))))))))))))))) (qx1.loops.drop 0) (qj9 0 (qc5 DR qr4 (qr9 N) (q08 (q08 (q08 (q08 (q08 (q13 Tryz.f141)))))) (qx1.loops.drop 0) (zt6 N))))
def w40 (N:Gr0)(q43:List q33)(q23:Int)(q65:List q20)(qg8:Int)(z44:List UInt8)(qx4 ji2:Int)(ji1:List UInt8)(qm6 qx5 qw8 jj6:Int)(jk5:List UInt8)(qn4 qy0:Int)(e:Int×Int×Int):Option OX0 :=
 match e with
 | (qj3,r_E,zg3) =>
  (qj4 N.n q43 q23 qj3 q65 r_E zg3 [40]).bind fun r3 =>
  (N.r7_Reader_expr r3.1.1.1 r3.1.1.2.1 r3.1.1.2.2.1 r3.1.1.2.2.2.1 r3.1.1.2.2.2.2.1 r3.1.1.2.2.2.2.2.1 0).bind fun r4 =>
  (qj4 N.n r4.1.1.1 r4.1.1.2.1 r4.1.1.2.2.1 r4.1.1.2.2.2.1 r4.1.1.2.2.2.2.1 r4.1.1.2.2.2.2.2.1 [41]).bind fun r5 =>
  bif q27 (r5.1.1.2.2.1 - 1) then
  some (((r5.1.1.1,r5.1.1.2.1,r5.1.1.2.2.1 - 1,r5.1.1.2.2.2.1,r5.1.1.2.2.2.2.1,r5.1.1.2.2.2.2.2.1,()),()),r4.2)
  else none
theorem xl9 (N:Gr0)(q43:List q33)(q23:Int)(q65:List q20)(qg8:Int)(z44:List UInt8)(qx4 ji2:Int)(ji1:List UInt8)(qm6 qx5 qw8 jj6:Int)(jk5:List UInt8)(qn4 qy0:Int)(e:Int×Int×Int):jmp N.n (j41 N ) ((j07 q43 q23 q65 qg8 z44 qx4 ji2 ji1 qm6 qx5 qw8 jj6 jk5 qn4 qy0) e) ((j55 q43 q23 q65 qg8 z44 qx4 ji2 ji1 qm6 qx5 qw8 jj6 jk5 qn4 qy0) e)=at1 N.n (w40 N q43 q23 q65 qg8 z44 qx4 ji2 ji1 qm6 qx5 qw8 jj6 jk5 qn4 qy0 e):=qn7 (by obtain ⟨qj3,r_E,zg3⟩:=e; kernel_rfl) N.n
def z60 (N:Gr0)(q43:List q33)(q23 q19:Int)(q65:List q20)(q79 q29:Int)(l1:(List q33)→Int→Int→(List q20)→Int→Int→Int→(List UInt8)→Int→Int→(List UInt8)→Int→Int→Int→Int→(Int×Int×Int×List UInt8×List UInt8)→Option OX0)(l2:(List q33)→Int→(List q20)→Int→(List UInt8)→Int→Int→(List UInt8)→Int→Int→Int→Int→(List UInt8)→Int→Int→(Int×Int×Int)→Option OX0):Option OX0 :=
 bif decide (q23 ≥ (q43.length:Int)) then
  bif (q79 == 0) then
   some (((q43,q23,q19,q65,4,q23,()),()),((-1),()))
  else
   some (((q43,q23,q19,q65,q79,q29,()),()),((-1),()))
 else
  bif inR q23 q43.length then
  bif (((q25 q43 q23 q31).1) == 2) then
   l1 q43 q23 q19 q65 q79 q29 ((q25 q43 q23 q31).1) ((q25 q43 q23 q31).2.1) (((q25 q43 q23 q31).2.2.1).1) (((q25 q43 q23 q31).2.2.1).2.1) (((q25 q43 q23 q31).2.2.1).2.2.1) (((q25 q43 q23 q31).2.2.2.1).1) (((q25 q43 q23 q31).2.2.2.1).2.1) (((q25 q43 q23 q31).2.2.2.1).1) (((q25 q43 q23 q31).2.2.2.1).2.1) (2,0,0,[],(q25 q43 q23 q31).2.1)
  else
   bif (((q25 q43 q23 q31).1) == 3) then
    l1 q43 q23 q19 q65 q79 q29 ((q25 q43 q23 q31).1) ((q25 q43 q23 q31).2.1) (((q25 q43 q23 q31).2.2.1).1) (((q25 q43 q23 q31).2.2.1).2.1) (((q25 q43 q23 q31).2.2.1).2.2.1) (((q25 q43 q23 q31).2.2.2.1).1) (((q25 q43 q23 q31).2.2.2.1).2.1) (((q25 q43 q23 q31).2.2.2.1).1) (((q25 q43 q23 q31).2.2.2.1).2.1) (3,0,0,[],[])
   else
    bif (((q25 q43 q23 q31).1) == 4) then
     l1 q43 q23 q19 q65 q79 q29 ((q25 q43 q23 q31).1) ((q25 q43 q23 q31).2.1) (((q25 q43 q23 q31).2.2.1).1) (((q25 q43 q23 q31).2.2.1).2.1) (((q25 q43 q23 q31).2.2.1).2.2.1) (((q25 q43 q23 q31).2.2.2.1).1) (((q25 q43 q23 q31).2.2.2.1).2.1) (((q25 q43 q23 q31).2.2.2.1).1) (((q25 q43 q23 q31).2.2.2.1).2.1) (1,((q25 q43 q23 q31).2.2.1).1,((q25 q43 q23 q31).2.2.1).2.1,((q25 q43 q23 q31).2.2.1).2.2.1,[])
    else
     bif (((q25 q43 q23 q31).1) == 5) then
      l1 q43 q23 q19 q65 q79 q29 ((q25 q43 q23 q31).1) ((q25 q43 q23 q31).2.1) (((q25 q43 q23 q31).2.2.1).1) (((q25 q43 q23 q31).2.2.1).2.1) (((q25 q43 q23 q31).2.2.1).2.2.1) (((q25 q43 q23 q31).2.2.2.1).1) (((q25 q43 q23 q31).2.2.2.1).2.1) (((q25 q43 q23 q31).2.2.2.1).1) (((q25 q43 q23 q31).2.2.2.1).2.1) (1,((q25 q43 q23 q31).2.2.1).1,((q25 q43 q23 q31).2.2.1).2.1,((q25 q43 q23 q31).2.2.1).2.2.1,[])
     else
      bif (((q25 q43 q23 q31).1) == 6) then
       l1 q43 q23 q19 q65 q79 q29 ((q25 q43 q23 q31).1) ((q25 q43 q23 q31).2.1) (((q25 q43 q23 q31).2.2.1).1) (((q25 q43 q23 q31).2.2.1).2.1) (((q25 q43 q23 q31).2.2.1).2.2.1) (((q25 q43 q23 q31).2.2.2.1).1) (((q25 q43 q23 q31).2.2.2.1).2.1) (((q25 q43 q23 q31).2.2.2.1).1) (((q25 q43 q23 q31).2.2.2.1).2.1) (1,((q25 q43 q23 q31).2.2.1).1,((q25 q43 q23 q31).2.2.1).2.1,((q25 q43 q23 q31).2.2.1).2.2.1,[])
      else
       bif (((q25 q43 q23 q31).1) == 1) then
        (ja1 N.n ((q25 q43 q23 q31).2.1)).bind fun r =>
        bif (r.1 != 0) then
         (N.r7_Reader_call q43 q23 q19 q65 q79 q29 r.1 r.2.1 r.2.2.1).bind fun r1 =>
         some (r1.1,r1.2)
        else
         bif (((q25 q43 q23 q31).2.1) == ([116,114,117,101]:List UInt8)) then
          l1 q43 q23 q19 q65 q79 q29 ((q25 q43 q23 q31).1) ((q25 q43 q23 q31).2.1) (((q25 q43 q23 q31).2.2.1).1) (((q25 q43 q23 q31).2.2.1).2.1) (((q25 q43 q23 q31).2.2.1).2.2.1) (((q25 q43 q23 q31).2.2.2.1).1) (((q25 q43 q23 q31).2.2.2.1).2.1) (((q25 q43 q23 q31).2.2.2.1).1) (((q25 q43 q23 q31).2.2.2.1).2.1) (1,4,1,[],[])
         else
          bif (((q25 q43 q23 q31).2.1) == ([102,97,108,115,101]:List UInt8)) then
           l1 q43 q23 q19 q65 q79 q29 ((q25 q43 q23 q31).1) ((q25 q43 q23 q31).2.1) (((q25 q43 q23 q31).2.2.1).1) (((q25 q43 q23 q31).2.2.1).2.1) (((q25 q43 q23 q31).2.2.1).2.2.1) (((q25 q43 q23 q31).2.2.2.1).1) (((q25 q43 q23 q31).2.2.2.1).2.1) (((q25 q43 q23 q31).2.2.2.1).1) (((q25 q43 q23 q31).2.2.2.1).2.1) (1,4,0,[],[])
          else
           bif (((q25 q43 q23 q31).2.1) == ([110,117,108,108]:List UInt8)) then
            l1 q43 q23 q19 q65 q79 q29 ((q25 q43 q23 q31).1) ((q25 q43 q23 q31).2.1) (((q25 q43 q23 q31).2.2.1).1) (((q25 q43 q23 q31).2.2.1).2.1) (((q25 q43 q23 q31).2.2.1).2.2.1) (((q25 q43 q23 q31).2.2.2.1).1) (((q25 q43 q23 q31).2.2.2.1).2.1) (((q25 q43 q23 q31).2.2.2.1).1) (((q25 q43 q23 q31).2.2.2.1).2.1) (1,0,0,[],[])
           else
            bif (q79 == 0) then
             some (((q43,q23,q19,q65,4,q23,()),()),((-1),()))
            else
             some (((q43,q23,q19,q65,q79,q29,()),()),((-1),()))
       else
        (qa0 N.n q43 q23 q19 q65 q79 q29).bind fun r2 =>
        bif (r2 == ([40]:List UInt8)) then
         bif decide (q19 ≥ 12) then
          bif (q79 == 0) then
           bif q27 (q19 + 1) then
           l2 q43 q23 q65 ((q25 q43 q23 q31).1) ((q25 q43 q23 q31).2.1) (((q25 q43 q23 q31).2.2.1).1) (((q25 q43 q23 q31).2.2.1).2.1) (((q25 q43 q23 q31).2.2.1).2.2.1) (((q25 q43 q23 q31).2.2.2.1).1) (((q25 q43 q23 q31).2.2.2.1).2.1) (((q25 q43 q23 q31).2.2.1).1) (((q25 q43 q23 q31).2.2.1).2.1) (((q25 q43 q23 q31).2.2.1).2.2.1) (((q25 q43 q23 q31).2.2.2.1).1) (((q25 q43 q23 q31).2.2.2.1).2.1) (q19 + 1,12,q23)
           else none
          else
           bif q27 (q19 + 1) then
           l2 q43 q23 q65 ((q25 q43 q23 q31).1) ((q25 q43 q23 q31).2.1) (((q25 q43 q23 q31).2.2.1).1) (((q25 q43 q23 q31).2.2.1).2.1) (((q25 q43 q23 q31).2.2.1).2.2.1) (((q25 q43 q23 q31).2.2.2.1).1) (((q25 q43 q23 q31).2.2.2.1).2.1) (((q25 q43 q23 q31).2.2.1).1) (((q25 q43 q23 q31).2.2.1).2.1) (((q25 q43 q23 q31).2.2.1).2.2.1) (((q25 q43 q23 q31).2.2.2.1).1) (((q25 q43 q23 q31).2.2.2.1).2.1) (q19 + 1,q79,q29)
           else none
         else
          bif q27 (q19 + 1) then
          l2 q43 q23 q65 ((q25 q43 q23 q31).1) ((q25 q43 q23 q31).2.1) (((q25 q43 q23 q31).2.2.1).1) (((q25 q43 q23 q31).2.2.1).2.1) (((q25 q43 q23 q31).2.2.1).2.2.1) (((q25 q43 q23 q31).2.2.2.1).1) (((q25 q43 q23 q31).2.2.2.1).2.1) (((q25 q43 q23 q31).2.2.1).1) (((q25 q43 q23 q31).2.2.1).2.1) (((q25 q43 q23 q31).2.2.1).2.2.1) (((q25 q43 q23 q31).2.2.2.1).1) (((q25 q43 q23 q31).2.2.2.1).2.1) (q19 + 1,q79,q29)
          else none
        else
         l2 q43 q23 q65 ((q25 q43 q23 q31).1) ((q25 q43 q23 q31).2.1) (((q25 q43 q23 q31).2.2.1).1) (((q25 q43 q23 q31).2.2.1).2.1) (((q25 q43 q23 q31).2.2.1).2.2.1) (((q25 q43 q23 q31).2.2.2.1).1) (((q25 q43 q23 q31).2.2.2.1).2.1) (((q25 q43 q23 q31).2.2.1).1) (((q25 q43 q23 q31).2.2.1).2.1) (((q25 q43 q23 q31).2.2.1).2.2.1) (((q25 q43 q23 q31).2.2.2.1).1) (((q25 q43 q23 q31).2.2.2.1).2.1) (q19,q79,q29)
  else none
def qm8 (N:Gr0)(q43:List q33)(q23 q19:Int)(q65:List q20)(q79 q29:Int):Option OX0:=z60 N q43 q23 q19 q65 q79 q29 (fun q43 q23 q19 q65 q79 q29 wc5 wc7 qn2 z61 z48 qi1 qn0 q15 q18 e=>at1 N.n (w38 N q43 q23 q19 q65 q79 q29 wc5 wc7 qn2 z61 z48 qi1 qn0 q15 q18 e)) (fun q43 q23 q65 qg8 z44 qx4 ji2 ji1 qm6 qx5 qw8 jj6 jk5 qn4 qy0 e=>at1 N.n (w40 N q43 q23 q65 qg8 z44 qx4 ji2 ji1 qm6 qx5 qw8 jj6 jk5 qn4 qy0 e))
noncomputable def jk3 (N:Gr0)(q43:List q33)(q23 q19:Int)(q65:List q20)(q79 q29:Int):Option (ObR qg7):=q24 DR Tryz.prog N.n (z52 N) qx1 Tryz.f141 (q13 Tryz.f141) (ObR qg7) (encX qg7 ((q43,q23,q19,q65,q79,q29,()),()) (())) (encY qg7 ((q43,q23,q19,q65,q79,q29,()),())) (kObj qg7)
theorem x00 (N:Gr0)(q43:List q33)(q23 q19:Int)(q65:List q20)(q79 q29:Int):jk3 N q43 q23 q19 q65 q79 q29=qm8 N q43 q23 q19 q65 q79 q29:=by
 have h:jk3 N q43 q23 q19 q65 q79 q29=z60 N q43 q23 q19 q65 q79 q29 (fun q43 q23 q19 q65 q79 q29 wc5 wc7 qn2 z61 z48 qi1 qn0 q15 q18 e=>jmp N.n (zy5 N ) (j09 q43 q23 q19 q65 q79 q29 wc5 wc7 qn2 z61 z48 qi1 qn0 q15 q18 e) (j08 q43 q23 q19 q65 q79 q29 wc5 wc7 qn2 z61 z48 qi1 qn0 q15 q18 e)) (fun q43 q23 q65 qg8 z44 qx4 ji2 ji1 qm6 qx5 qw8 jj6 jk5 qn4 qy0 e=>jmp N.n (j41 N ) (j07 q43 q23 q65 qg8 z44 qx4 ji2 ji1 qm6 qx5 qw8 jj6 jk5 qn4 qy0 e) (j55 q43 q23 q65 qg8 z44 qx4 ji2 ji1 qm6 qx5 qw8 jj6 jk5 qn4 qy0 e)):=by kernel_rfl
 rw [h]
 simp only [qm8,xk1,xl9] <;> rfl
theorem ys3 (N:Gr0)(h:v74 N):q17 Tryz.prog 141 (wd4 (qm8 N)):=z28 (xj8 N h) Tryz.func141 rfl (by kernel_rfl) (by kernel_rfl) fun (y:OX2×Unit) (x:Els [])=>x00 N y.1.1 y.1.2.1 y.1.2.2.1 y.1.2.2.2.1 y.1.2.2.2.2.1 y.1.2.2.2.2.2.1 
def w53 :LH:=⟨[(0,.asis),(2,.int .i64),(3,.int .i64),(9,.asis)],[(0,[.lst qd2,.int .i64,.int .i64,.own q81 2003 54 8,.int .i64,.int .i64])],[.cells [.int .u8,.int .u8,.int .i64,.str,.str,.own (.int .i64) 2105 3 1,.int .i64,.int .i64]]⟩
def q94 :FH:=⟨[w53],[],[(7,⟨5,93,0,[],[(3,[(false,0)])]⟩)],[],false,[142,143],[(2,⟨[(0,.asis),(2,.int .i64),(3,.int .i64),(9,.asis)],[(0,[.lst qd2,.int .i64,.int .i64,.own q81 2003 54 8,.int .i64,.int .i64])],[.cells [.int .u8,.int .u8,.int .i64,.str,.str,.own (.int .i64) 2105 3 1,.int .i64,.int .i64]]⟩),(5,⟨[(0,.asis),(2,.int .i64),(3,.int .i64),(9,.asis)],[(0,[.lst qd2,.int .i64,.int .i64,.own q81 2003 54 8,.int .i64,.int .i64])],[.cells [.int .u8,.int .u8,.int .i64,.str,.str,.own (.int .i64) 2105 3 1,.int .i64,.int .i64]]⟩),(10,⟨[(0,.asis),(2,.int .i64),(3,.int .i64),(9,.asis),(10,.str)],[(0,[.lst qd2,.int .i64,.int .i64,.own q81 2003 54 8,.int .i64,.int .i64])],[.cells [.int .u8,.int .u8,.int .i64,.str,.str,.own (.int .i64) 2105 3 1,.int .i64,.int .i64]]⟩),(11,⟨[(0,.asis),(2,.int .i64),(3,.int .i64),(9,.asis),(10,.str)],[(0,[.lst qd2,.int .i64,.int .i64,.own q81 2003 54 8,.int .i64,.int .i64])],[.cells [.int .u8,.int .u8,.int .i64,.str,.str,.own (.int .i64) 2105 3 1,.int .i64,.int .i64]]⟩),(13,⟨[(0,.asis),(9,.asis)],[(0,[.lst qd2,.int .i64,.int .i64,.own q81 2003 54 8,.int .i64,.int .i64])],[.cells [.int .u8,.int .u8,.int .i64,.str,.str,.own (.int .i64) 2105 3 1,.int .i64,.int .i64]]⟩)]⟩
noncomputable def z56 (N:Gr0):q49:=tab [(142,w18 N.n),(143,qn5 N.n),(144,ql9 N.n),(208,wk6 N.n),(65,qf4 N.r7_Reader_expr),(205,qi6 N.n),(145,w55 N.n)]
theorem xg9 (N:Gr0)(h:v74 N):q14 Tryz.prog (z56 N):=q06 (wi1 N.n) <| q06 (qq3 N.n) <| q06 (qr0 N.n) <| q06 (z77 N.n) <| q06 h.r7_Reader_expr <| q06 (ql8 N.n) <| q06 (wf2 N.n) <| q28 _
noncomputable def q74 :Sc:=wm4 Tryz.prog q94
noncomputable def q67 (N:Gr0):Cfg:=⟨N.n,z56 N,1⟩
noncomputable def qh6 (N:Gr0):Exit→List TV→List TOb→Option OX0:=fin Tryz.prog 1 Tryz.f207.results.toList (kObj qf9)
def ws5 (least most:Int)(q43:List q33)(q23 q19:Int)(q65:List q20)(q79 q29 op:Int)(e:Int×Int):List TV:=match e with
 | (q15,q18)=>frm 93 [(0,.ref 0 0),(2,.int .i64 least),(3,.int .i64 most),(9,.ref 1 0)]
def wp7 (least most:Int)(q43:List q33)(q23 q19:Int)(q65:List q20)(q79 q29 op:Int)(e:Int×Int):List TOb:=match e with
 | (q15,q18)=>[.cells [.tl qd2 q43 .unk,.int .i64 q23,.int .i64 q19,.tl q81 q65 (.own 2003 54 8),.int .i64 q79,.int .i64 q29] 161 true,.cells [.int .u8 op,.int .u8 0,.int .i64 0,.str [],.str [],.tl (.int .i64) [] (.own 2105 3 1),.int .i64 q15,.int .i64 q18] 54 true]
def wq9 (least most:Int)(q43:List q33)(wd5:Int)(q65:List q20)(op q15 q18:Int)(e:Int×Int×Int):List TV:=match e with
 | (qj3,r_E,zg3)=>frm 93 [(0,.ref 0 0),(2,.int .i64 least),(3,.int .i64 most),(9,.ref 1 0)]
def wr4 (least most:Int)(q43:List q33)(wd5:Int)(q65:List q20)(op q15 q18:Int)(e:Int×Int×Int):List TOb:=match e with
 | (qj3,r_E,zg3)=>[.cells [.tl qd2 q43 .unk,.int .i64 wd5,.int .i64 qj3,.tl q81 q65 (.own 2003 54 8),.int .i64 r_E,.int .i64 zg3] 161 true,.cells [.int .u8 op,.int .u8 0,.int .i64 0,.str [],.str [],.tl (.int .i64) [] (.own 2105 3 1),.int .i64 q15,.int .i64 q18] 54 true]
def qc3 (least most op q26 q61:Int)(q62 q39:List UInt8)(q15 q18:Int)(e:List q33×Int×Int×List q20×Int×Int×List Int):List TV:=match e with
 | (r_L,r_At1,qd3,r_T,yg8,qk7,qb2)=>frm 93 [(0,.ref 0 0),(2,.int .i64 least),(3,.int .i64 most),(9,.ref 1 0)]
def qc4 (least most op q26 q61:Int)(q62 q39:List UInt8)(q15 q18:Int)(e:List q33×Int×Int×List q20×Int×Int×List Int):List TOb:=match e with
 | (r_L,r_At1,qd3,r_T,yg8,qk7,qb2)=>[.cells [.tl qd2 r_L .unk,.int .i64 r_At1,.int .i64 qd3,.tl q81 r_T (.own 2003 54 8),.int .i64 yg8,.int .i64 qk7] 161 true,.cells [.int .u8 op,.int .u8 q26,.int .i64 q61,.str q62,.str q39,.tl (.int .i64) qb2 (.own 2105 3 1),.int .i64 q15,.int .i64 q18] 54 true]
def wr1 (least most:Int)(r3:List UInt8)(uk7:List q33)(zz8 qv8:Int)(ue1:List q20)(ul5 wn4 op q26 q61:Int)(q62 q39:List UInt8)(qv1:List Int)(q15 q18:Int)(e:Unit):List TV:=frm 93 [(0,.ref 0 0),(2,.int .i64 least),(3,.int .i64 most),(9,.ref 1 0),(10,.str r3)]
def wq1 (least most:Int)(r3:List UInt8)(uk7:List q33)(zz8 qv8:Int)(ue1:List q20)(ul5 wn4 op q26 q61:Int)(q62 q39:List UInt8)(qv1:List Int)(q15 q18:Int)(e:Unit):List TOb:=[.cells [.tl qd2 uk7 .unk,.int .i64 zz8,.int .i64 qv8,.tl q81 ue1 (.own 2003 54 8),.int .i64 ul5,.int .i64 wn4] 161 true,.cells [.int .u8 op,.int .u8 q26,.int .i64 q61,.str q62,.str q39,.tl (.int .i64) qv1 (.own 2105 3 1),.int .i64 q15,.int .i64 q18] 54 true]
def w43 (least most:Int)(r3:List UInt8)(op q26 q61:Int)(q62 q39:List UInt8)(q15 q18:Int)(e:List q33×Int×Int×List q20×Int×Int×List Int):List TV:=match e with
 | (r_L2,r_At3,r_Deep3,r_T2,r_E3,r_Bad3,n_Kids2)=>frm 93 [(0,.ref 0 0),(2,.int .i64 least),(3,.int .i64 most),(9,.ref 1 0),(10,.str r3)]
def w59 (least most:Int)(r3:List UInt8)(op q26 q61:Int)(q62 q39:List UInt8)(q15 q18:Int)(e:List q33×Int×Int×List q20×Int×Int×List Int):List TOb:=match e with
 | (r_L2,r_At3,r_Deep3,r_T2,r_E3,r_Bad3,n_Kids2)=>[.cells [.tl qd2 r_L2 .unk,.int .i64 r_At3,.int .i64 r_Deep3,.tl q81 r_T2 (.own 2003 54 8),.int .i64 r_E3,.int .i64 r_Bad3] 161 true,.cells [.int .u8 op,.int .u8 q26,.int .i64 q61,.str q62,.str q39,.tl (.int .i64) n_Kids2 (.own 2105 3 1),.int .i64 q15,.int .i64 q18] 54 true]
def wq4 (op q26 q61:Int)(q62 q39:List UInt8)(q15 q18:Int)(e:List q33×Int×Int×List q20×Int×Int×List Int):List TV:=match e with
 | (r_L3,r_At4,r_Deep4,r_T3,r_E4,r_Bad4,n_Kids3)=>frm 93 [(0,.ref 0 0),(9,.ref 1 0)]
def wr7 (op q26 q61:Int)(q62 q39:List UInt8)(q15 q18:Int)(e:List q33×Int×Int×List q20×Int×Int×List Int):List TOb:=match e with
 | (r_L3,r_At4,r_Deep4,r_T3,r_E4,r_Bad4,n_Kids3)=>[.cells [.tl qd2 r_L3 .unk,.int .i64 r_At4,.int .i64 r_Deep4,.tl q81 r_T3 (.own 2003 54 8),.int .i64 r_E4,.int .i64 r_Bad4] 161 true,.cells [.int .u8 op,.int .u8 q26,.int .i64 q61,.str q62,.str q39,.tl (.int .i64) n_Kids3 (.own 2105 3 1),.int .i64 q15,.int .i64 q18] 54 true]
noncomputable def ws1 (N:Gr0):List TV→List TOb→Option OX0:=x83 DR q74 (q67 N) (q88 (q08 (q08 (q08 (q08 (q08 (q08 (q13 Tryz.f207)))))))) (qc5 DR q74 (q67 N) (q08 (q08 (q08 (q08 (q08 (q08 (q08 (q13 Tryz.f207)))))))) (q94.loops.drop 1) (qh6 N))
def qr1 (N:Gr0)(op q26 q61:Int)(q62 q39:List UInt8)(q15 q18:Int)(e:List q33×Int×Int×List q20×Int×Int×List Int):Option OX0 :=
 match e with
 | (r_L3,r_At4,r_Deep4,r_T3,r_E4,r_Bad4,n_Kids3) =>
  (qj4 N.n r_L3 r_At4 r_Deep4 r_T3 r_E4 r_Bad4 [41]).bind fun r4 =>
  bif q27 (r4.1.1.2.2.1 - 1) then
  (qp4 N.n r4.1.1.1 r4.1.1.2.1 (r4.1.1.2.2.1 - 1) r4.1.1.2.2.2.1 r4.1.1.2.2.2.2.1 r4.1.1.2.2.2.2.2.1 (op,(q26,q61,q62,()),q39,n_Kids3,(q15,q18,()),())).bind fun r5 =>
  some (r5.1,r5.2)
  else none
theorem zx8 (N:Gr0)(op q26 q61:Int)(q62 q39:List UInt8)(q15 q18:Int)(e:List q33×Int×Int×List q20×Int×Int×List Int):jmp N.n (ws1 N ) ((wq4 op q26 q61 q62 q39 q15 q18) e) ((wr7 op q26 q61 q62 q39 q15 q18) e)=at1 N.n (qr1 N op q26 q61 q62 q39 q15 q18 e):=qn7 (by obtain ⟨r_L3,r_At4,r_Deep4,r_T3,r_E4,r_Bad4,n_Kids3⟩:=e; kernel_rfl) N.n
noncomputable def w41 (N:Gr0)(K0r:List TV→List TOb→Option OX0):List TV→List TOb→Option OX0:=x83 DR q74 (q67 N) (q88 (q88 (q08 (q08 (q08 (qc6 (q08 (qm3 (qc6 (q88 (q08 (q08 (q08 (q08 (q08 (q13 Tryz.f207)))))))))))))))) (qc5 DR q74 (q67 N) (q08 (q88 (q08 (q08 (q08 (qc6 (q08 (qm3 (qc6 (q88 (q08 (q08 (q08 (q08 (q08 (q13 Tryz.f207)))))))))))))))) (q94.loops.drop 1) (qc5 DR q74 (q67 N) (q08 (q08 (q08 (q08 (qc6 (q08 (qm3 (qc6 (q88 (q08 (q08 (q08 (q08 (q08 (q13 Tryz.f207))))))))))))))) (q94.loops.drop 1) (qj9 1 (ug3 (q67 N) w53 (qj9 0 (qc5 DR q74 (q67 N) (q08 (q08 (q08 (q08 (q08 (q08 (q13 Tryz.f207))))))) (q94.loops.drop 1) (qh6 N))) K0r))))
def wj2 (N:Gr0)(least most:Int)(r3:List UInt8)(op q26 q61:Int)(q62 q39:List UInt8)(q15 q18:Int)(K0:OX5→Option OX0)(l6:Int→Int→Int→(List UInt8)→(List UInt8)→Int→Int→OX5→Option OX0)(e:List q33×Int×Int×List q20×Int×Int×List Int):Option OX0 :=
 match e with
 | (r_L2,r_At3,r_Deep3,r_T2,r_E3,r_Bad3,n_Kids2) =>
  bif (!(r3 == ([44]:List UInt8))) then
   l6 op q26 q61 q62 q39 q15 q18 (r_L2,r_At3,r_Deep3,r_T2,r_E3,r_Bad3,n_Kids2)
  else
   bif (r_E3 != 0) then
    l6 op q26 q61 q62 q39 q15 q18 (r_L2,r_At3,r_Deep3,r_T2,r_E3,r_Bad3,n_Kids2)
   else
    bif q27 (r_At3 + 1) then
    K0 (r_L2,r_At3 + 1,r_Deep3,r_T2,r_E3,r_Bad3,n_Kids2)
    else none
def qg1 (N:Gr0)(least most:Int)(r3:List UInt8)(op q26 q61:Int)(q62 q39:List UInt8)(q15 q18:Int)(K0:OX5→Option OX0)(e:List q33×Int×Int×List q20×Int×Int×List Int):Option OX0:=wj2 N least most r3 op q26 q61 q62 q39 q15 q18 K0 (fun op q26 q61 q62 q39 q15 q18 e=>at1 N.n (qr1 N op q26 q61 q62 q39 q15 q18 e)) e
theorem zx5 (N:Gr0)(least most:Int)(r3:List UInt8)(op q26 q61:Int)(q62 q39:List UInt8)(q15 q18:Int)(K0r:List TV→List TOb→Option OX0)(e:List q33×Int×Int×List q20×Int×Int×List Int):jmp N.n (w41 N K0r) ((w43 least most r3 op q26 q61 q62 q39 q15 q18) e) ((w59 least most r3 op q26 q61 q62 q39 q15 q18) e)=at1 N.n (qg1 N least most r3 op q26 q61 q62 q39 q15 q18 (fun a=>K0r (qc3 least most op q26 q61 q62 q39 q15 q18 a) (qc4 least most op q26 q61 q62 q39 q15 q18 a)) e):=qn7 (by
 have h:(w41 N K0r) ((w43 least most r3 op q26 q61 q62 q39 q15 q18) e) ((w59 least most r3 op q26 q61 q62 q39 q15 q18) e)=wj2 N least most r3 op q26 q61 q62 q39 q15 q18 (fun a=>K0r (qc3 least most op q26 q61 q62 q39 q15 q18 a) (qc4 least most op q26 q61 q62 q39 q15 q18 a)) (fun op q26 q61 q62 q39 q15 q18 e=>jmp N.n (ws1 N ) (wq4 op q26 q61 q62 q39 q15 q18 e) (wr7 op q26 q61 q62 q39 q15 q18 e)) e:=by obtain ⟨r_L2,r_At3,r_Deep3,r_T2,r_E3,r_Bad3,n_Kids2⟩:=e; kernel_rfl
 rw [h]
 simp only [qg1,zx8] <;> rfl) N.n
noncomputable def wp2 (N:Gr0)(K0r:List TV→List TOb→Option OX0):List TV→List TOb→Option OX0:=x83 DR q74 (q67 N) (yu6 (q08 (q88 (q08 (q08 (qc6 (q08 (qm3 (qc6 (q88 (q08 (q08 (q08 (q08 (q08 (q13 Tryz.f207)))))))))))))))) (qc5 DR q74 (q67 N) (q08 (q08 (q08 (qc6 (q08 (qm3 (qc6 (q88 (q08 (q08 (q08 (q08 (q08 (q13 Tryz.f207)))))))))))))) (q94.loops.drop 1) (qj9 1 (ug3 (q67 N) w53 (qj9 0 (qc5 DR q74 (q67 N) (q08 (q08 (q08 (q08 (q08 (q08 (q13 Tryz.f207))))))) (q94.loops.drop 1) (qh6 N))) K0r)))
def wk2 (N:Gr0)(least most:Int)(r3:List UInt8)(uk7:List q33)(zz8 qv8:Int)(ue1:List q20)(ul5 wn4 op q26 q61:Int)(q62 q39:List UInt8)(qv1:List Int)(q15 q18:Int)(K0:OX5→Option OX0)(l5:Int→Int→(List UInt8)→Int→Int→Int→(List UInt8)→(List UInt8)→Int→Int→OX5→Option OX0)(e:Unit):Option OX0 :=
 bif (ul5 == 0) then
  l5 least most r3 op q26 q61 q62 q39 q15 q18 (uk7,zz8,qv8,ue1,14,zz8,qv1)
 else
  l5 least most r3 op q26 q61 q62 q39 q15 q18 (uk7,zz8,qv8,ue1,ul5,wn4,qv1)
def qr2 (N:Gr0)(least most:Int)(r3:List UInt8)(uk7:List q33)(zz8 qv8:Int)(ue1:List q20)(ul5 wn4 op q26 q61:Int)(q62 q39:List UInt8)(qv1:List Int)(q15 q18:Int)(K0:OX5→Option OX0)(e:Unit):Option OX0:=wk2 N least most r3 uk7 zz8 qv8 ue1 ul5 wn4 op q26 q61 q62 q39 qv1 q15 q18 K0 (fun least most r3 op q26 q61 q62 q39 q15 q18 e=>at1 N.n (qg1 N least most r3 op q26 q61 q62 q39 q15 q18 K0 e)) e
theorem xa1 (N:Gr0)(least most:Int)(r3:List UInt8)(uk7:List q33)(zz8 qv8:Int)(ue1:List q20)(ul5 wn4 op q26 q61:Int)(q62 q39:List UInt8)(qv1:List Int)(q15 q18:Int)(K0r:List TV→List TOb→Option OX0)(e:Unit):jmp N.n (wp2 N K0r) ((wr1 least most r3 uk7 zz8 qv8 ue1 ul5 wn4 op q26 q61 q62 q39 qv1 q15 q18) e) ((wq1 least most r3 uk7 zz8 qv8 ue1 ul5 wn4 op q26 q61 q62 q39 qv1 q15 q18) e)=at1 N.n (qr2 N least most r3 uk7 zz8 qv8 ue1 ul5 wn4 op q26 q61 q62 q39 qv1 q15 q18 (fun a=>K0r (qc3 least most op q26 q61 q62 q39 q15 q18 a) (qc4 least most op q26 q61 q62 q39 q15 q18 a)) e):=qn7 (by
 have h:(wp2 N K0r) ((wr1 least most r3 uk7 zz8 qv8 ue1 ul5 wn4 op q26 q61 q62 q39 qv1 q15 q18) e) ((wq1 least most r3 uk7 zz8 qv8 ue1 ul5 wn4 op q26 q61 q62 q39 qv1 q15 q18) e)=wk2 N least most r3 uk7 zz8 qv8 ue1 ul5 wn4 op q26 q61 q62 q39 qv1 q15 q18 (fun a=>K0r (qc3 least most op q26 q61 q62 q39 q15 q18 a) (qc4 least most op q26 q61 q62 q39 q15 q18 a)) (fun least most r3 op q26 q61 q62 q39 q15 q18 e=>jmp N.n (w41 N K0r) (w43 least most r3 op q26 q61 q62 q39 q15 q18 e) (w59 least most r3 op q26 q61 q62 q39 q15 q18 e)) e:=by kernel_rfl
 rw [h]
 simp only [qr2,zx5] <;> rfl) N.n
noncomputable def wq5 (N:Gr0):(List TV→List TOb→Option OX0)→List TV→List TOb→Option OX0:=w66 DR q74 (q67 N) (qm3 (qc6 (q88 (q08 (q08 (q08 (q08 (q08 (q13 Tryz.f207))))))))) w53 (q94.loops.drop 1) (qj9 0 (qc5 DR q74 (q67 N) (q08 (q08 (q08 (q08 (q08 (q08 (q13 Tryz.f207))))))) (q94.loops.drop 1) (qh6 N)))
def wk5 (N:Gr0)(least most op q26 q61:Int)(q62 q39:List UInt8)(q15 q18:Int)(l4:Int→Int→(List UInt8)→(List q33)→Int→Int→(List q20)→Int→Int→Int→Int→Int→(List UInt8)→(List UInt8)→(List Int)→Int→Int→Unit→Option OX0)(l5:Int→Int→(List UInt8)→Int→Int→Int→(List UInt8)→(List UInt8)→Int→Int→OX5→Option OX0)(l6:Int→Int→Int→(List UInt8)→(List UInt8)→Int→Int→OX5→Option OX0)(K0:OX5→Option OX0)(e:List q33×Int×Int×List q20×Int×Int×List Int):Option OX0 :=
 match e with
 | (r_L,r_At1,qd3,r_T,yg8,qk7,qb2) =>
  bif (yg8 == 0) then
   (N.r7_Reader_expr r_L r_At1 qd3 r_T yg8 qk7 0).bind fun r2 =>
   bif w33 (qb2.length + [r2.2.1].length) 17592186044416 then
   (qa0 N.n r2.1.1.1 r2.1.1.2.1 r2.1.1.2.2.1 r2.1.1.2.2.2.1 r2.1.1.2.2.2.2.1 r2.1.1.2.2.2.2.2.1).bind fun r3 =>
   bif (r3 == ([44]:List UInt8)) then
    bif (((qb2 ++ [r2.2.1]).length:Int) == most) then
     l4 least most r3 r2.1.1.1 r2.1.1.2.1 r2.1.1.2.2.1 r2.1.1.2.2.2.1 r2.1.1.2.2.2.2.1 r2.1.1.2.2.2.2.2.1 op q26 q61 q62 q39 (qb2 ++ [r2.2.1]) q15 q18 ()
    else
     bif (r3 == ([41]:List UInt8)) then
      bif decide (((qb2 ++ [r2.2.1]).length:Int) < least) then
       l4 least most r3 r2.1.1.1 r2.1.1.2.1 r2.1.1.2.2.1 r2.1.1.2.2.2.1 r2.1.1.2.2.2.2.1 r2.1.1.2.2.2.2.2.1 op q26 q61 q62 q39 (qb2 ++ [r2.2.1]) q15 q18 ()
      else
       l5 least most r3 op q26 q61 q62 q39 q15 q18 (r2.1.1.1,r2.1.1.2.1,r2.1.1.2.2.1,r2.1.1.2.2.2.1,r2.1.1.2.2.2.2.1,r2.1.1.2.2.2.2.2.1,(qb2 ++ [r2.2.1]))
     else
      l5 least most r3 op q26 q61 q62 q39 q15 q18 (r2.1.1.1,r2.1.1.2.1,r2.1.1.2.2.1,r2.1.1.2.2.2.1,r2.1.1.2.2.2.2.1,r2.1.1.2.2.2.2.2.1,(qb2 ++ [r2.2.1]))
   else
    bif (r3 == ([41]:List UInt8)) then
     bif decide (((qb2 ++ [r2.2.1]).length:Int) < least) then
      l4 least most r3 r2.1.1.1 r2.1.1.2.1 r2.1.1.2.2.1 r2.1.1.2.2.2.1 r2.1.1.2.2.2.2.1 r2.1.1.2.2.2.2.2.1 op q26 q61 q62 q39 (qb2 ++ [r2.2.1]) q15 q18 ()
     else
      l5 least most r3 op q26 q61 q62 q39 q15 q18 (r2.1.1.1,r2.1.1.2.1,r2.1.1.2.2.1,r2.1.1.2.2.2.1,r2.1.1.2.2.2.2.1,r2.1.1.2.2.2.2.2.1,(qb2 ++ [r2.2.1]))
    else
     l5 least most r3 op q26 q61 q62 q39 q15 q18 (r2.1.1.1,r2.1.1.2.1,r2.1.1.2.2.1,r2.1.1.2.2.2.1,r2.1.1.2.2.2.2.1,r2.1.1.2.2.2.2.2.1,(qb2 ++ [r2.2.1]))
   else none
  else
   l6 op q26 q61 q62 q39 q15 q18 (r_L,r_At1,qd3,r_T,yg8,qk7,qb2)
def w47 (N:Gr0)(least most op q26 q61:Int)(q62 q39:List UInt8)(q15 q18:Int)(K0:OX5→Option OX0)(e:List q33×Int×Int×List q20×Int×Int×List Int):Option OX0:=wk5 N least most op q26 q61 q62 q39 q15 q18 (fun least most r3 uk7 zz8 qv8 ue1 ul5 wn4 op q26 q61 q62 q39 qv1 q15 q18 e=>at1 N.n (qr2 N least most r3 uk7 zz8 qv8 ue1 ul5 wn4 op q26 q61 q62 q39 qv1 q15 q18 K0 e)) (fun least most r3 op q26 q61 q62 q39 q15 q18 e=>at1 N.n (qg1 N least most r3 op q26 q61 q62 q39 q15 q18 K0 e)) (fun op q26 q61 q62 q39 q15 q18 e=>at1 N.n (qr1 N op q26 q61 q62 q39 q15 q18 e)) K0 e
theorem xh1 (N:Gr0)(least most op q26 q61:Int)(q62 q39:List UInt8)(q15 q18:Int)(n_:Nat)(e:List q33×Int×Int×List q20×Int×Int×List Int):q58 (wq5 N ) n_ ((qc3 least most op q26 q61 q62 q39 q15 q18) e) ((qc4 least most op q26 q61 q62 q39 q15 q18) e)=q87 (w47 N least most op q26 q61 q62 q39 q15 q18 ) n_ e :=
 q41 (qc3 least most op q26 q61 q62 q39 q15 q18) (qc4 least most op q26 q61 q62 q39 q15 q18) (by
  intro K e
  have h:(wq5 N ) K ((qc3 least most op q26 q61 q62 q39 q15 q18) e) ((qc4 least most op q26 q61 q62 q39 q15 q18) e)=wk5 N least most op q26 q61 q62 q39 q15 q18 (fun least most r3 uk7 zz8 qv8 ue1 ul5 wn4 op q26 q61 q62 q39 qv1 q15 q18 e=>jmp N.n (wp2 N K) (wr1 least most r3 uk7 zz8 qv8 ue1 ul5 wn4 op q26 q61 q62 q39 qv1 q15 q18 e) (wq1 least most r3 uk7 zz8 qv8 ue1 ul5 wn4 op q26 q61 q62 q39 qv1 q15 q18 e)) (fun least most r3 op q26 q61 q62 q39 q15 q18 e=>jmp N.n (w41 N K) (w43 least most r3 op q26 q61 q62 q39 q15 q18 e) (w59 least most r3 op q26 q61 q62 q39 q15 q18 e)) (fun op q26 q61 q62 q39 q15 q18 e=>jmp N.n (ws1 N ) (wq4 op q26 q61 q62 q39 q15 q18 e) (wr7 op q26 q61 q62 q39 q15 q18 e)) (fun e=>K ((qc3 least most op q26 q61 q62 q39 q15 q18) e) ((qc4 least most op q26 q61 q62 q39 q15 q18) e)) e:=by obtain ⟨r_L,r_At1,qd3,r_T,yg8,qk7,qb2⟩:=e; kernel_rfl
  rw [h]
  simp only [w47,xa1,zx5,zx8] <;> rfl) n_ e
noncomputable def wr2 (N:Gr0):List TV→List TOb→Option OX0:=x83 DR q74 (q67 N) (q88 (q08 (q08 (q08 (q08 (q13 Tryz.f207)))))) (qc5 DR q74 (q67 N) (q08 (q08 (q08 (q08 (q08 (q13 Tryz.f207)))))) (q94.loops.drop 0) (qh6 N))
def wm1 (N:Gr0)(least most:Int)(q43:List q33)(wd5:Int)(q65:List q20)(op q15 q18:Int)(l3:Int→Int→Int→Int→Int→(List UInt8)→(List UInt8)→Int→Int→OX5→Option OX0)(e:Int×Int×Int):Option OX0 :=
 match e with
 | (qj3,r_E,zg3) =>
  (qj4 N.n q43 wd5 qj3 q65 r_E zg3 [40]).bind fun r1 =>
  l3 least most op 0 0 [] [] q15 q18 (r1.1.1.1,r1.1.1.2.1,r1.1.1.2.2.1,r1.1.1.2.2.2.1,r1.1.1.2.2.2.2.1,r1.1.1.2.2.2.2.2.1,[])
def qs9 (N:Gr0)(least most:Int)(q43:List q33)(wd5:Int)(q65:List q20)(op q15 q18:Int)(e:Int×Int×Int):Option OX0:=wm1 N least most q43 wd5 q65 op q15 q18 (fun least most op q26 q61 q62 q39 q15 q18 e=>q87 (w47 N least most op q26 q61 q62 q39 q15 q18) N.n e) e
theorem xl0 (N:Gr0)(least most:Int)(q43:List q33)(wd5:Int)(q65:List q20)(op q15 q18:Int)(e:Int×Int×Int):jmp N.n (wr2 N ) ((wq9 least most q43 wd5 q65 op q15 q18) e) ((wr4 least most q43 wd5 q65 op q15 q18) e)=at1 N.n (qs9 N least most q43 wd5 q65 op q15 q18 e):=qn7 (by
 have h:(wr2 N ) ((wq9 least most q43 wd5 q65 op q15 q18) e) ((wr4 least most q43 wd5 q65 op q15 q18) e)=wm1 N least most q43 wd5 q65 op q15 q18 (fun least most op q26 q61 q62 q39 q15 q18 e=>q58 (wq5 N ) N.n (qc3 least most op q26 q61 q62 q39 q15 q18 e) (qc4 least most op q26 q61 q62 q39 q15 q18 e)) e:=by obtain ⟨qj3,r_E,zg3⟩:=e; kernel_rfl
 rw [h]
 simp only [qs9,xh1] <;> rfl) N.n
noncomputable def wp0 (N:Gr0):List TV→List TOb→Option OX0:=x83 DR q74 (q67 N) (q88 (q08 (q08 (q13 Tryz.f207)))) (qc5 DR q74 (q67 N) (q08 (q08 (q08 (q13 Tryz.f207)))) (q94.loops.drop 0) (qh6 N))
def wl9 (N:Gr0)(least most:Int)(q43:List q33)(q23 q19:Int)(q65:List q20)(q79 q29 op:Int)(l2:Int→Int→(List q33)→Int→(List q20)→Int→Int→Int→(Int×Int×Int)→Option OX0)(e:Int×Int):Option OX0 :=
 match e with
 | (q15,q18) =>
  bif q27 (q23 + 1) then
  (qa0 N.n q43 (q23 + 1) q19 q65 q79 q29).bind fun r =>
  bif (r == ([40]:List UInt8)) then
   bif decide (q19 ≥ 12) then
    bif (q79 == 0) then
     bif q27 (q19 + 1) then
     l2 least most q43 (q23 + 1) q65 op q15 q18 (q19 + 1,12,q23 + 1)
     else none
    else
     bif q27 (q19 + 1) then
     l2 least most q43 (q23 + 1) q65 op q15 q18 (q19 + 1,q79,q29)
     else none
   else
    bif q27 (q19 + 1) then
    l2 least most q43 (q23 + 1) q65 op q15 q18 (q19 + 1,q79,q29)
    else none
  else
   l2 least most q43 (q23 + 1) q65 op q15 q18 (q19,q79,q29)
  else none
def qt8 (N:Gr0)(least most:Int)(q43:List q33)(q23 q19:Int)(q65:List q20)(q79 q29 op:Int)(e:Int×Int):Option OX0:=wl9 N least most q43 q23 q19 q65 q79 q29 op (fun least most q43 wd5 q65 op q15 q18 e=>at1 N.n (qs9 N least most q43 wd5 q65 op q15 q18 e)) e
theorem xj9 (N:Gr0)(least most:Int)(q43:List q33)(q23 q19:Int)(q65:List q20)(q79 q29 op:Int)(e:Int×Int):jmp N.n (wp0 N ) ((ws5 least most q43 q23 q19 q65 q79 q29 op) e) ((wp7 least most q43 q23 q19 q65 q79 q29 op) e)=at1 N.n (qt8 N least most q43 q23 q19 q65 q79 q29 op e):=qn7 (by
 have h:(wp0 N ) ((ws5 least most q43 q23 q19 q65 q79 q29 op) e) ((wp7 least most q43 q23 q19 q65 q79 q29 op) e)=wl9 N least most q43 q23 q19 q65 q79 q29 op (fun least most q43 wd5 q65 op q15 q18 e=>jmp N.n (wr2 N ) (wq9 least most q43 wd5 q65 op q15 q18 e) (wr4 least most q43 wd5 q65 op q15 q18 e)) e:=by obtain ⟨q15,q18⟩:=e; kernel_rfl
 rw [h]
 simp only [qt8,xl0] <;> rfl) N.n
def z49 (N:Gr0)(q43:List q33)(q23 q19:Int)(q65:List q20)(q79 q29 op least most:Int)(l1:Int→Int→(List q33)→Int→Int→(List q20)→Int→Int→Int→(Int×Int)→Option OX0):Option OX0 :=
 bif decide (q23 < (q43.length:Int)) then
  bif inR q23 q43.length then
  l1 least most q43 q23 q19 q65 q79 q29 op (((q25 q43 q23 q31).2.2.2.1).1,((q25 q43 q23 q31).2.2.2.1).2.1)
  else none
 else
  l1 least most q43 q23 q19 q65 q79 q29 op (0,0)
def qm4 (N:Gr0)(q43:List q33)(q23 q19:Int)(q65:List q20)(q79 q29 op least most:Int):Option OX0:=z49 N q43 q23 q19 q65 q79 q29 op least most (fun least most q43 q23 q19 q65 q79 q29 op e=>at1 N.n (qt8 N least most q43 q23 q19 q65 q79 q29 op e))
noncomputable def jk0 (N:Gr0)(q43:List q33)(q23 q19:Int)(q65:List q20)(q79 q29 op least most:Int):Option (ObR qf9):=q24 DR Tryz.prog N.n (z56 N) q94 Tryz.f207 (q13 Tryz.f207) (ObR qf9) (encX qf9 ((q43,q23,q19,q65,q79,q29,()),()) (op,least,most,())) (encY qf9 ((q43,q23,q19,q65,q79,q29,()),())) (kObj qf9)
theorem yv4 (N:Gr0)(q43:List q33)(q23 q19:Int)(q65:List q20)(q79 q29 op least most:Int):jk0 N q43 q23 q19 q65 q79 q29 op least most=qm4 N q43 q23 q19 q65 q79 q29 op least most:=by
 have h:jk0 N q43 q23 q19 q65 q79 q29 op least most=z49 N q43 q23 q19 q65 q79 q29 op least most (fun least most q43 q23 q19 q65 q79 q29 op e=>jmp N.n (wp0 N ) (ws5 least most q43 q23 q19 q65 q79 q29 op e) (wp7 least most q43 q23 q19 q65 q79 q29 op e)):=by kernel_rfl
 rw [h]
 simp only [qm4,xj9] <;> rfl
theorem yl8 (N:Gr0)(h:v74 N):q17 Tryz.prog 207 (wd3 (qm4 N)):=z28 (xg9 N h) Tryz.func207 rfl (by kernel_rfl) (by kernel_rfl) fun (y:OX2×Unit) (x:Els [(.int .u8),(.int .i64),(.int .i64)])=>yv4 N y.1.1 y.1.2.1 y.1.2.2.1 y.1.2.2.2.1 y.1.2.2.2.2.1 y.1.2.2.2.2.2.1 x.1 x.2.1 x.2.2.1
def xo9 (n:Nat):Nat→Gr0
 | 0=>⟨n,fun _ _ _ _ _ _ _=>none,fun _ _ _ _ _ _=>none,fun _ _ _ _ _ _ _ _ _=>none⟩
 | d + 1=>⟨n,qf1 (xo9 n d),qm8 (xo9 n d),qm4 (xo9 n d)⟩
theorem v27 (n:Nat):∀ d,v74 (xo9 n d)
 | 0=>⟨yo8,yo8,yo8⟩
 | d + 1=>⟨ys6 _ (v27 n d),ys3 _ (v27 n d),yl8 _ (v27 n d)⟩
def r7_Reader_expr (N:Nat):(List q33)→Int→Int→(List q20)→Int→Int→Int→Option OX0:=(xo9 N N).r7_Reader_expr
def zu0 (N:Nat):Ent:=qf4 (r7_Reader_expr N)
theorem yc4 (N:Nat):q17 Tryz.prog 65 (zu0 N):=(v27 N N).r7_Reader_expr
def kt3 :FH:=⟨[],[],[(6,⟨10,50,0,[],[]⟩),(9,⟨9,50,0,[],[]⟩)],[],false,[],[]⟩
noncomputable def vy2 (N:Nat):q49:=tab [(65,zu0 N)]
theorem kc3 (N:Nat):q14 Tryz.prog (vy2 N):=q06 (yc4 N) <| q28 _
def y83 (N:Nat)(l:List q33)(ug1:Int):Option ((List q20)×Int×Int×Unit) :=
 bif decide (ug1 < 0) then
  some ([],0,2,())
 else
  bif decide (ug1 > (l.length:Int)) then
   some ([],0,2,())
  else
   (r7_Reader_expr N l ug1 0 [] 0 0 0).bind fun r =>
   bif (r.1.1.2.2.2.2.1 != 0) then
    some ([],r.1.1.2.2.2.2.2.1,r.1.1.2.2.2.2.1,())
   else
    bif decide ((r.1.1.2.2.2.1.length:Int) > 60) then
     some ([],ug1,7,())
    else
     some (r.1.1.2.2.2.1,r.1.1.2.1,0,())
noncomputable def kr5 (N:Nat)(l:List q33)(ug1:Int):Option (RT [(.list q81),(.int .i64),(.int .i64)]):=q24 DR Tryz.prog N (vy2 N) kt3 Tryz.f30 (q13 Tryz.f30) (RT [(.list q81),(.int .i64),(.int .i64)]) (qd4 [(.list qd2),(.int .i64)] (l,ug1,())) [] (q42 [(.list q81),(.int .i64),(.int .i64)])
theorem uv3 (N:Nat)(l:List q33)(ug1:Int):kr5 N l ug1=y83 N l ug1:=by kernel_rfl
def ul8 (m:(List q33)→Int→Option ((List q20)×Int×Int×Unit)):Ent:=q37 [(.list qd2),(.int .i64)] [(.list q81),(.int .i64),(.int .i64)] fun (x:Els [(.list qd2),(.int .i64)])=>m x.1 x.2.1
def xt2 (N:Nat):Ent:=ul8 (y83 N)
theorem vx2 (N:Nat):q17 Tryz.prog 30 (xt2 N):=q16 (kc3 N) Tryz.func30 rfl (by kernel_rfl) fun (x:Els [(.list qd2),(.int .i64)])=>uv3 N x.1 x.2.1
def k93 :FH:=⟨[],[],[],[],false,[],[]⟩
noncomputable def vf4 (N:Nat):q49:=tab []
theorem k46 (N:Nat):q14 Tryz.prog (vf4 N):=q28 _
def j65 (N:Nat)(l:List q33):Option qi2 :=
 bif ((l.length:Int) == 0) then
  some (1,1,())
 else
  bif q27 ((l.length:Int) - 1) then
  bif inR ((l.length:Int) - 1) l.length then
  bif (((q25 l ((l.length:Int) - 1) q31).1) == 2) then
   bif q27 ((((q25 l ((l.length:Int) - 1) q31).2.1).length:Int) + 1) then
   bif (((q25 l ((l.length:Int) - 1) q31).1) == 5) then
    bif q27 (((((q25 l ((l.length:Int) - 1) q31).2.1).length:Int) + 1) + 2) then
    bif q27 ((((q25 l ((l.length:Int) - 1) q31).2.2.2.1).2.1) + (((((q25 l ((l.length:Int) - 1) q31).2.1).length:Int) + 1) + 2)) then
    some (((q25 l ((l.length:Int) - 1) q31).2.2.2.1).1,(((q25 l ((l.length:Int) - 1) q31).2.2.2.1).2.1) + (((((q25 l ((l.length:Int) - 1) q31).2.1).length:Int) + 1) + 2),())
    else none
    else none
   else
    bif q27 ((((q25 l ((l.length:Int) - 1) q31).2.2.2.1).2.1) + ((((q25 l ((l.length:Int) - 1) q31).2.1).length:Int) + 1)) then
    some (((q25 l ((l.length:Int) - 1) q31).2.2.2.1).1,(((q25 l ((l.length:Int) - 1) q31).2.2.2.1).2.1) + ((((q25 l ((l.length:Int) - 1) q31).2.1).length:Int) + 1),())
    else none
   else none
  else
   bif (((q25 l ((l.length:Int) - 1) q31).1) == 3) then
    bif q27 ((((q25 l ((l.length:Int) - 1) q31).2.1).length:Int) + 1) then
    bif (((q25 l ((l.length:Int) - 1) q31).1) == 5) then
     bif q27 (((((q25 l ((l.length:Int) - 1) q31).2.1).length:Int) + 1) + 2) then
     bif q27 ((((q25 l ((l.length:Int) - 1) q31).2.2.2.1).2.1) + (((((q25 l ((l.length:Int) - 1) q31).2.1).length:Int) + 1) + 2)) then
     some (((q25 l ((l.length:Int) - 1) q31).2.2.2.1).1,(((q25 l ((l.length:Int) - 1) q31).2.2.2.1).2.1) + (((((q25 l ((l.length:Int) - 1) q31).2.1).length:Int) + 1) + 2),())
     else none
     else none
    else
     bif q27 ((((q25 l ((l.length:Int) - 1) q31).2.2.2.1).2.1) + ((((q25 l ((l.length:Int) - 1) q31).2.1).length:Int) + 1)) then
     some (((q25 l ((l.length:Int) - 1) q31).2.2.2.1).1,(((q25 l ((l.length:Int) - 1) q31).2.2.2.1).2.1) + ((((q25 l ((l.length:Int) - 1) q31).2.1).length:Int) + 1),())
     else none
    else none
   else
    bif (((q25 l ((l.length:Int) - 1) q31).1) == 6) then
     bif q27 ((((q25 l ((l.length:Int) - 1) q31).2.1).length:Int) + 1) then
     bif (((q25 l ((l.length:Int) - 1) q31).1) == 5) then
      bif q27 (((((q25 l ((l.length:Int) - 1) q31).2.1).length:Int) + 1) + 2) then
      bif q27 ((((q25 l ((l.length:Int) - 1) q31).2.2.2.1).2.1) + (((((q25 l ((l.length:Int) - 1) q31).2.1).length:Int) + 1) + 2)) then
      some (((q25 l ((l.length:Int) - 1) q31).2.2.2.1).1,(((q25 l ((l.length:Int) - 1) q31).2.2.2.1).2.1) + (((((q25 l ((l.length:Int) - 1) q31).2.1).length:Int) + 1) + 2),())
      else none
      else none
     else
      bif q27 ((((q25 l ((l.length:Int) - 1) q31).2.2.2.1).2.1) + ((((q25 l ((l.length:Int) - 1) q31).2.1).length:Int) + 1)) then
      some (((q25 l ((l.length:Int) - 1) q31).2.2.2.1).1,(((q25 l ((l.length:Int) - 1) q31).2.2.2.1).2.1) + ((((q25 l ((l.length:Int) - 1) q31).2.1).length:Int) + 1),())
      else none
     else none
    else
     bif (((q25 l ((l.length:Int) - 1) q31).1) == 5) then
      bif q27 ((((q25 l ((l.length:Int) - 1) q31).2.1).length:Int) + 2) then
      bif q27 ((((q25 l ((l.length:Int) - 1) q31).2.2.2.1).2.1) + ((((q25 l ((l.length:Int) - 1) q31).2.1).length:Int) + 2)) then
      some (((q25 l ((l.length:Int) - 1) q31).2.2.2.1).1,(((q25 l ((l.length:Int) - 1) q31).2.2.2.1).2.1) + ((((q25 l ((l.length:Int) - 1) q31).2.1).length:Int) + 2),())
      else none
      else none
     else
      bif q27 ((((q25 l ((l.length:Int) - 1) q31).2.2.2.1).2.1) + (((q25 l ((l.length:Int) - 1) q31).2.1).length:Int)) then
      some (((q25 l ((l.length:Int) - 1) q31).2.2.2.1).1,(((q25 l ((l.length:Int) - 1) q31).2.2.2.1).2.1) + (((q25 l ((l.length:Int) - 1) q31).2.1).length:Int),())
      else none
  else none
  else none
noncomputable def k64 (N:Nat)(l:List q33):Option (RT [w78]):=q24 DR Tryz.prog N (vf4 N) k93 Tryz.f31 (q13 Tryz.f31) (RT [w78]) (qd4 [(.list qd2)] (l,())) [] (q42 [w78])
theorem uh2 (N:Nat)(l:List q33):k64 N l=j65 N l:=by kernel_rfl
def vq7 (m:(List q33)→Option qi2):Ent:=q37 [(.list qd2)] [w78] fun (x:Els [(.list qd2)])=>m x.1
def yw5 (N:Nat):Ent:=vq7 (j65 N)
theorem vc3 (N:Nat):q17 Tryz.prog 31 (yw5 N):=q16 (k46 N) Tryz.func31 rfl (by kernel_rfl) fun (x:Els [(.list qd2)])=>uh2 N x.1
end Go.Proofs.YtgicljncknbgcaaGreat.Abs
