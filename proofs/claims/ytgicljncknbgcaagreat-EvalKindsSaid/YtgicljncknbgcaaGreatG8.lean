/- The functions of the program, told on typed values, printed by a program: each tells what the reckoning of its body tells. -/
import Derived.Test.YtgicljncknbgcaaGreatL7
import Derived.Test.YtgicljncknbgcaaGreatG7
import Derived.Test.YtgicljncknbgcaaGreatLA
import Derived.Test.YtgicljncknbgcaaGreatProg
set_option linter.unusedVariables false
set_option linter.unusedSimpArgs false
set_option linter.unusedSectionVars false
namespace Go.Proofs.YtgicljncknbgcaaGreat.Abs
set_option maxRecDepth 100000
open Go Go.Proofs
def wq8 :Ty:=.st [.str,(.int .u8)]
abbrev q86 :Type:=(List UInt8)×Int×Unit
def qo7 :q86:=([],0,())
def wj4 :Ty:=.st [(.list wq8),(.int .u8)]
abbrev qw2 :Type:=(List q86)×Int×Unit
def r8_call_H :FH:=⟨[],[],[],[],false,[],[]⟩
noncomputable def ko1 (N:Nat):q46:=tab []
theorem w1b (N:Nat):q13 Tryz.prog (ko1 N):=q25 _
def vz5 (N:Nat)(op:Int):Option (List UInt8):=bif inR (IntKind.u8.wrap (op-18)) ([[97,98,115],[109,105,110],[109,97,120],[109,111,100],[108,101,110,103,116,104],[117,112,112,101,114],[99,111,110,116,97,105,110,115],[115,116,97,114,116,115],[105,102]]).length then some (q17 ([[97,98,115],[109,105,110],[109,97,120],[109,111,100],[108,101,110,103,116,104],[117,112,112,101,114],[99,111,110,116,97,105,110,115],[115,116,97,114,116,115],[105,102]]) (IntKind.u8.wrap (op-18)) []) else none
noncomputable def r8_call_C (N:Nat)(op:Int):Option (RT [.str]):=q20 DR Tryz.prog N (ko1 N) r8_call_H Tryz.f152 (q31 Tryz.f152) (RT [.str]) (qb7 [(.int .u8)] (op,())) [] (q38 [.str])
theorem q1s (N:Nat)(op:Int):r8_call_C N op=vz5 N op:=by kernel_rfl
def ko2 (m:Int→Option (List UInt8)):Ent:=q29 [(.int .u8)] [.str] fun (x:Els [(.int .u8)])=>m x.1
def x32 (N:Nat):Ent:=ko2 (vz5 N)
theorem xh5 (N:Nat):q16 Tryz.prog 152 (x32 N):=q10 (w1b N) Tryz.func152 rfl (by kernel_rfl) fun (x:Els [(.int .u8)])=>q1s N x.1
def jd5 :FH:=⟨[],[],[],[],false,[],[(3,⟨[(0,.int .u8),(1,.int .i64)],[],[]⟩),(7,⟨[(0,.int .u8),(1,.int .i64)],[],[]⟩)]⟩
noncomputable def vz6 (N:Nat):q46:=tab [(152,x32 N),(206,x19 N)]
theorem w1c (N:Nat):q13 Tryz.prog (vz6 N):=q06 (xh5 N)<|q06 (xg6 N)<|q25 _
noncomputable def zo6 :Sc:=w89 Tryz.prog jd5
noncomputable def zo5 (N:Nat):Cfg:=⟨N,vz6 N,0⟩
noncomputable def vz8 (N:Nat):Exit→KT Bool:=fin Tryz.prog 0 Tryz.f147.results.toList (q38 [.bool])
def xx4 (op n:Int)(e:Unit):List TV:=frm 57 [(0,.int .u8 op),(1,.int .i64 n)]
def xx6 (op n:Int)(e:Unit):List TOb:=[]
def um4 (op n:Int)(e:Unit):List TV:=frm 57 [(0,.int .u8 op),(1,.int .i64 n)]
def um6 (op n:Int)(e:Unit):List TOb:=[]
noncomputable def um5 (N:Nat):KT Bool:=yr0 DR zo6 (zo5 N) (nv [0,3,1,3,1,3,1,4,0,1] Tryz.f147) (qa6 DR zo6 (zo5 N) (nv [1,3,1,3,1,3,1,4,0,1] Tryz.f147) (jd5.loops.drop 0) (qd6 0 (qa6 DR zo6 (zo5 N) (nv [1,1] Tryz.f147) (jd5.loops.drop 0) (vz8 N))))
def jd4 (N:Nat)(op n:Int)(e:Unit):Option Bool:=bif decide (op≥18) then bif decide (op≤26) then (vz5 N op).bind fun r=>(zv1 N r).bind fun r1=>bif decide (n≥r1.2.1) then some (decide (n≤r1.2.2.1)) else some false else some false else some false
theorem w1e (N:Nat)(op n:Int)(e:Unit):jmp N (um5 N ) ((um4 op n) e) ((um6 op n) e)=at1 N (jd4 N op n e):=qj5 (by kernel_rfl) N
noncomputable def xx5 (N:Nat):KT Bool:=yr0 DR zo6 (zo5 N) (nv [0,3,1,4,0,1] Tryz.f147) (qa6 DR zo6 (zo5 N) (nv [1,3,1,4,0,1] Tryz.f147) (jd5.loops.drop 0) (qd6 0 (qa6 DR zo6 (zo5 N) (nv [1,1] Tryz.f147) (jd5.loops.drop 0) (vz8 N))))
def x33 (N:Nat)(op n:Int)(l2:Int→Int→Unit→Option Bool)(e:Unit):Option Bool:=bif (op==6) then some (n==1) else bif (op==17) then some (n==1) else bif decide (op≥4) then bif decide (op≤16) then some (n==2) else l2 op n () else l2 op n ()
def jd3 (N:Nat)(op n:Int)(e:Unit):Option Bool:=x33 N op n (fun op n e=>at1 N (jd4 N op n e)) e
theorem w1d (N:Nat)(op n:Int)(e:Unit):jmp N (xx5 N ) ((xx4 op n) e) ((xx6 op n) e)=at1 N (jd3 N op n e):=qj5 (by
 have h:(xx5 N ) ((xx4 op n) e) ((xx6 op n) e)=x33 N op n (fun op n e=>jmp N (um5 N ) (um4 op n e) (um6 op n e)) e:=by kernel_rfl
 rw[h]
 simp only[jd3,w1e]<;>rfl) N
def vz9 (N:Nat)(op n:Int)(l1:Int→Int→Unit→Option Bool):Option Bool:=bif decide (op≥1) then bif decide (op≤3) then some (n==0) else l1 op n () else l1 op n ()
def xx3 (N:Nat)(op n:Int):Option Bool:=vz9 N op n (fun op n e=>at1 N (jd3 N op n e))
noncomputable def ko3 (N:Nat)(op n:Int):Option (RT [.bool]):=q20 DR Tryz.prog N (vz6 N) jd5 Tryz.f147 (q31 Tryz.f147) (RT [.bool]) (qb7 [(.int .u8),(.int .i64)] (op,n,())) [] (q38 [.bool])
theorem q1t (N:Nat)(op n:Int):ko3 N op n=xx3 N op n:=by
 have h:ko3 N op n=vz9 N op n (fun op n e=>jmp N (xx5 N ) (xx4 op n e) (xx6 op n e)):=by kernel_rfl
 rw[h]
 simp only[xx3,w1d]<;>rfl
def ko4 (m:Int→Int→Option Bool):Ent:=q29 [(.int .u8),(.int .i64)] [.bool] fun (x:Els [(.int .u8),(.int .i64)])=>m x.1 x.2.1
def vz7 (N:Nat):Ent:=ko4 (xx3 N)
theorem k26 (N:Nat):q16 Tryz.prog 147 (vz7 N):=q10 (w1c N) Tryz.func147 rfl (by kernel_rfl) fun (x:Els [(.int .u8),(.int .i64)])=>q1t N x.1 x.2.1
def x40 :LH:=⟨[(0,.lst q49),(3,.lst (.int .i64)),(4,.int .i64)],[],[]⟩
def u07 :LH:=⟨[(0,.lst q49),(3,.lst (.int .i64)),(4,.int .i64),(5,.int .i64),(6,.int .i64)],[],[]⟩
def wk7 :FH:=⟨[x40,u07],[],[(11,⟨17,70,0,[],[]⟩)],[],false,[],[]⟩
noncomputable def xy1 (N:Nat):q46:=tab [(147,vz7 N)]
theorem q1x (N:Nat):q13 Tryz.prog (xy1 N):=q06 (k26 N)<|q25 _
noncomputable def wy6 :Sc:=w89 Tryz.prog wk7
noncomputable def wi8 (N:Nat):Cfg:=⟨N,xy1 N,0⟩
noncomputable def v82 (N:Nat):Exit→KT Bool:=fin Tryz.prog 0 Tryz.f66.results.toList (q38 [.bool])
def wy4 (t:List q15)(e:List Int×Int):List TV:=match e with|(w03,i)=>frm 70 [(0,.tl q49 t .unk),(3,.tl (.int .i64) w03 .unk),(4,.int .i64 i)]
def wy5 (t:List q15)(e:List Int×Int):List TOb:=match e with|(w03,i)=>[]
def x39 (t:List q15)(w03:List Int)(i k e:Int):List TV:=match e with|j=>frm 70 [(0,.tl q49 t .unk),(3,.tl (.int .i64) w03 .unk),(4,.int .i64 i),(5,.int .i64 k),(6,.int .i64 j)]
def x42 (t:List q15)(w03:List Int)(i k e:Int):List TOb:=match e with|j=>[]
noncomputable def u08 (N:Nat)(K0r:KT Bool):(KT Bool)→KT Bool:=qy2 DR wy6 (wi8 N) (nv [5,4,1,0,1,1,4,0,1,5,4,1,0,1,1] Tryz.f66) u07 (wk7.loops.drop 2) (qd6 2 (qa6 DR wy6 (wi8 N) (nv [1,1,1,4,0,1,5,4,1,0,1,1] Tryz.f66) (wk7.loops.drop 2) (qd6 1 (qa6 DR wy6 (wi8 N) (nv [1,1,5,4,1,0,1,1] Tryz.f66) (wk7.loops.drop 2) (xp4 (wi8 N) x40 (qd6 0 (qa6 DR wy6 (wi8 N) (nv [1,1,1] Tryz.f66) (wk7.loops.drop 2) (v82 N))) K0r)))))
def x38 (N:Nat)(t:List q15)(w03:List Int)(i k:Int)(K0:(List Int×Int)→Option Bool)(K1:Int→Option Bool)(e:Int):Option Bool:=match e with|j=>bif decide (j<k) then bif inR i t.length then bif inR j ((q17 t i q43).2.2.2.1).length then bif q24 ((w03.length:Int)-k) then bif q24 (((w03.length:Int)-k)+j) then bif inR (((w03.length:Int)-k)+j) w03.length then bif ((q17 ((q17 t i q43).2.2.2.1) j 0) != (q17 w03 (((w03.length:Int)-k)+j) 0)) then some false else bif q24 (j+1) then K1 (j+1) else none else none else none else none else none else none else bif q24 ((w03.length:Int)-k) then bif upTo ((w03.length:Int)-k) w03.length then bif qr1 (([]:List Int).length+(w03.take ((w03.length:Int)-k).toNat).length) 17592186044416 then bif qr1 ((([]:List Int)++(w03.take ((w03.length:Int)-k).toNat)).length+[i].length) 17592186044416 then bif q24 (i+1) then K0 (((([]:List Int)++(w03.take ((w03.length:Int)-k).toNat))++[i]),i+1) else none else none else none else none else none
theorem q1z (N:Nat)(t:List q15)(w03:List Int)(i k:Int)(K0r:KT Bool)(n_:Nat)(e:Int):q55 (u08 N K0r) n_ ((x39 t w03 i k) e) ((x42 t w03 i k) e)=q80 (x38 N t w03 i k (fun a=>K0r (wy4 t a) (wy5 t a))) n_ e :=
 q36 (x39 t w03 i k) (x42 t w03 i k) (by intro K e;kernel_rfl) n_ e
noncomputable def x41 (N:Nat):(KT Bool)→KT Bool:=qy2 DR wy6 (wi8 N) (nv [5,4,1,0,1,1] Tryz.f66) x40 (wk7.loops.drop 1) (qd6 0 (qa6 DR wy6 (wi8 N) (nv [1,1,1] Tryz.f66) (wk7.loops.drop 2) (v82 N)))
def ye3 (N:Nat)(t:List q15)(l2:(List q15)→(List Int)→Int→Int→Int→Option Bool)(K0:(List Int×Int)→Option Bool)(e:List Int×Int):Option Bool:=match e with|(w03,i)=>bif decide (i<(t.length:Int)) then bif inR i t.length then bif inR i t.length then (xx3 N ((q17 t i q43).1) (((q17 t i q43).2.2.2.1).length:Int)).bind fun r=>bif (!r) then some false else bif decide ((((q17 t i q43).2.2.2.1).length:Int)>(w03.length:Int)) then some false else l2 t w03 i (((q17 t i q43).2.2.2.1).length:Int) 0 else none else none else some ((w03.length:Int)==1)
def jo2 (N:Nat)(t:List q15)(K0:(List Int×Int)→Option Bool)(e:List Int×Int):Option Bool:=ye3 N t (fun t w03 i k e=>q80 (x38 N t w03 i k K0) N e) K0 e
theorem q1y (N:Nat)(t:List q15)(n_:Nat)(e:List Int×Int):q55 (x41 N ) n_ ((wy4 t) e) ((wy5 t) e)=q80 (jo2 N t ) n_ e :=
 q36 (wy4 t) (wy5 t) (by
  intro K e
  have h:(x41 N ) K ((wy4 t) e) ((wy5 t) e)=ye3 N t (fun t w03 i k e=>q55 (u08 N K) N (x39 t w03 i k e) (x42 t w03 i k e)) (fun e=>K ((wy4 t) e) ((wy5 t) e)) e:=by obtain⟨w03,i⟩:=e;kernel_rfl
  rw[h]
  simp only[jo2,q1z]<;>rfl) n_ e
def xy2 (N:Nat)(t:List q15)(l1:(List q15)→(List Int×Int)→Option Bool):Option Bool:=l1 t ([],0)
def yj9 (N:Nat)(t:List q15):Option Bool:=xy2 N t (fun t e=>q80 (jo2 N t) N e)
noncomputable def un3 (N:Nat)(t:List q15):Option (RT [.bool]):=q20 DR Tryz.prog N (xy1 N) wk7 Tryz.f66 (q31 Tryz.f66) (RT [.bool]) (qb7 [(.list q49)] (t,())) [] (q38 [.bool])
theorem ko9 (N:Nat)(t:List q15):un3 N t=yj9 N t:=by
 have h:un3 N t=xy2 N t (fun t e=>q55 (x41 N ) N (wy4 t e) (wy5 t e)):=by kernel_rfl
 rw[h]
 simp only[yj9,q1y]<;>rfl
def k29 (m:(List q15)→Option Bool):Ent:=q29 [(.list q49)] [.bool] fun (x:Els [(.list q49)])=>m x.1
def v81 (N:Nat):Ent:=k29 (yj9 N)
theorem uc4 (N:Nat):q16 Tryz.prog 66 (v81 N):=q10 (q1x N) Tryz.func66 rfl (by kernel_rfl) fun (x:Els [(.list q49)])=>ko9 N x.1
def yj6 :FH:=⟨[],[],[],[],false,[],[(9,⟨[(0,.int .u8)],[],[]⟩)]⟩
noncomputable def xx7 (N:Nat):q46:=tab []
theorem q1u (N:Nat):q13 Tryz.prog (xx7 N):=q25 _
noncomputable def x36 :Sc:=w89 Tryz.prog yj6
noncomputable def x35 (N:Nat):Cfg:=⟨N,xx7 N,0⟩
noncomputable def ko5 (N:Nat):Exit→KT Int:=fin Tryz.prog 0 Tryz.f150.results.toList (q38 [(.int .i64)])
def u00 (op:Int)(e:Unit):List TV:=frm 36 [(0,.int .u8 op)]
def u02 (op:Int)(e:Unit):List TOb:=[]
noncomputable def u01 (N:Nat):KT Int:=yr0 DR x36 (x35 N) (nv [0,3,1,3,1,3,1,3,1,4,0,1] Tryz.f150) (qa6 DR x36 (x35 N) (nv [1,3,1,3,1,3,1,3,1,4,0,1] Tryz.f150) (yj6.loops.drop 0) (qd6 0 (qa6 DR x36 (x35 N) (nv [1,1] Tryz.f150) (yj6.loops.drop 0) (ko5 N))))
def jo1 (N:Nat)(op:Int)(e:Unit):Option Int:=bif (op==13) then some 4 else bif (op==14) then some 4 else bif (op==15) then some 5 else bif (op==16) then some 5 else bif (op==17) then some 6 else some 8
theorem q1v (N:Nat)(op:Int)(e:Unit):jmp N (u01 N ) ((u00 op) e) ((u02 op) e)=at1 N (jo1 N op e):=qj5 (by kernel_rfl) N
def xx8 (N:Nat)(op:Int)(l1:Int→Unit→Option Int):Option Int:=bif (op==4) then some 0 else bif (op==5) then some 1 else bif (op==6) then some 2 else bif decide (op≥7) then bif decide (op≤12) then some 3 else l1 op () else l1 op ()
def jo0 (N:Nat)(op:Int):Option Int:=xx8 N op (fun op e=>at1 N (jo1 N op e))
noncomputable def um7 (N:Nat)(op:Int):Option (RT [(.int .i64)]):=q20 DR Tryz.prog N (xx7 N) yj6 Tryz.f150 (q31 Tryz.f150) (RT [(.int .i64)]) (qb7 [(.int .u8)] (op,())) [] (q38 [(.int .i64)])
theorem ko6 (N:Nat)(op:Int):um7 N op=jo0 N op:=by
 have h:um7 N op=xx8 N op (fun op e=>jmp N (u01 N ) (u00 op e) (u02 op e)):=by kernel_rfl
 rw[h]
 simp only[jo0,q1v]<;>rfl
def k27 (m:Int→Option Int):Ent:=q29 [(.int .u8)] [(.int .i64)] fun (x:Els [(.int .u8)])=>m x.1
def ye2 (N:Nat):Ent:=k27 (jo0 N)
theorem yt1 (N:Nat):q16 Tryz.prog 150 (ye2 N):=q10 (q1u N) Tryz.func150 rfl (by kernel_rfl) fun (x:Els [(.int .u8)])=>ko6 N x.1
def w0y :FH:=⟨[],[],[],[],false,[],[]⟩
noncomputable def um3 (N:Nat):q46:=tab []
theorem q1q (N:Nat):q13 Tryz.prog (um3 N):=q25 _
def yj5 (N:Nat)(op:Int):Option (List UInt8):=bif decide (op<4) then some [] else bif decide (op>16) then some [] else bif inR (IntKind.u8.wrap (op-4)) ([[111,114],[97,110,100],[],[61],[60,62],[60],[60,61],[62],[62,61],[43],[45],[42],[47]]).length then some (q17 ([[111,114],[97,110,100],[],[61],[60,62],[60],[60,61],[62],[62,61],[43],[45],[42],[47]]) (IntKind.u8.wrap (op-4)) []) else none
noncomputable def w0x (N:Nat)(op:Int):Option (RT [.str]):=q20 DR Tryz.prog N (um3 N) w0y Tryz.f151 (q31 Tryz.f151) (RT [.str]) (qb7 [(.int .u8)] (op,())) [] (q38 [.str])
theorem kn8 (N:Nat)(op:Int):w0x N op=yj5 N op:=by kernel_rfl
def k24 (m:Int→Option (List UInt8)):Ent:=q29 [(.int .u8)] [.str] fun (x:Els [(.int .u8)])=>m x.1
def v80 (N:Nat):Ent:=k24 (yj5 N)
theorem uc3 (N:Nat):q16 Tryz.prog 151 (v80 N):=q10 (q1q N) Tryz.func151 rfl (by kernel_rfl) fun (x:Els [(.int .u8)])=>kn8 N x.1
def z88 (m:(List q15)→Int→Option (List UInt8)):Ent:=q29 [(.list q49),(.int .i64)] [.str] fun (x:Els [(.list q49),(.int .i64)])=>m x.1 x.2.1
def xx2 (m:(List q15)→Int→Int→Option (List UInt8)):Ent:=q29 [(.list q49),(.int .i64),(.int .i64)] [.str] fun (x:Els [(.list q49),(.int .i64),(.int .i64)])=>m x.1 x.2.1 x.2.2.1
structure Gr1 where
 n:Nat
 r8_text:(List q15)→Int→Option (List UInt8)
 r8_at:(List q15)→Int→Int→Option (List UInt8)
structure k90 (N:Gr1):Prop where
 r8_text:q16 Tryz.prog 67 (z88 N.r8_text)
 r8_at:q16 Tryz.prog 149 (xx2 N.r8_at)
def xx9 :LH:=⟨[(0,.lst q49),(5,.asis),(7,.str),(8,.int .i64)],[],[.cells [.int .u8,.int .u8,.int .i64,.str,.str,.lst (.int .i64),.int .i64,.int .i64]]⟩
def jd7 :FH:=⟨[xx9],[],[(15,⟨18,119,0,[],[]⟩),(17,⟨21,119,0,[],[]⟩)],[],false,[],[(24,⟨[(0,.lst q49),(5,.asis),(7,.str),(8,.int .i64)],[],[.cells [.int .u8,.int .u8,.int .i64,.str,.str,.lst (.int .i64),.int .i64,.int .i64]]⟩)]⟩
noncomputable def u03 (N:Gr1):q46:=tab [(148,x08 N.n),(149,xx2 N.r8_at),(150,ye2 N.n),(151,v80 N.n),(152,x32 N.n),(67,z88 N.r8_text)]
theorem w1f (N:Gr1)(h:k90 N):q13 Tryz.prog (u03 N):=q06 (xf3 N.n)<|q06 h.r8_at<|q06 (yt1 N.n)<|q06 (uc3 N.n)<|q06 (xh5 N.n)<|q06 h.r8_text<|q25 _
noncomputable def jd8 :Sc:=w89 Tryz.prog jd7
noncomputable def zo9 (N:Gr1):Cfg:=⟨N.n,u03 N,0⟩
noncomputable def u05 (N:Gr1):Exit→KT (List UInt8):=fin Tryz.prog 0 Tryz.f67.results.toList (q38 [.str])
def zo7 (t:List q15)(qg3 q18 q44:Int)(q45 q28:List UInt8)(q56:List Int)(q07 q14:Int)(e:List UInt8×Int):List TV:=match e with|(s,k)=>frm 119 [(0,.tl q49 t .unk),(5,.ref 0 0),(7,.str s),(8,.int .i64 k)]
def zo8 (t:List q15)(qg3 q18 q44:Int)(q45 q28:List UInt8)(q56:List Int)(q07 q14:Int)(e:List UInt8×Int):List TOb:=match e with|(s,k)=>[.cells [.int .u8 qg3,.int .u8 q18,.int .i64 q44,.str q45,.str q28,.tl (.int .i64) q56 .unk,.int .i64 q07,.int .i64 q14] 54 true]
def um8 (t:List q15)(k qg3 q18 q44:Int)(q45 q28:List UInt8)(q56:List Int)(q07 q14:Int)(e:List UInt8):List TV:=match e with|s1=>frm 119 [(0,.tl q49 t .unk),(5,.ref 0 0),(7,.str s1),(8,.int .i64 k)]
def un2 (t:List q15)(k qg3 q18 q44:Int)(q45 q28:List UInt8)(q56:List Int)(q07 q14:Int)(e:List UInt8):List TOb:=match e with|s1=>[.cells [.int .u8 qg3,.int .u8 q18,.int .i64 q44,.str q45,.str q28,.tl (.int .i64) q56 .unk,.int .i64 q07,.int .i64 q14] 54 true]
noncomputable def um9 (N:Gr1)(K0r:KT (List UInt8)):KT (List UInt8):=yr0 DR jd8 (zo9 N) (nv [1,4,0,1,5,4,1,0,1,1,1,1,1,1,1] Tryz.f67) (qd6 2 (qa6 DR jd8 (zo9 N) (nv [1,1,5,4,1,0,1,1,1,1,1,1,1] Tryz.f67) (jd7.loops.drop 1) (xp4 (zo9 N) xx9 (qd6 1 (qa6 DR jd8 (zo9 N) (nv [1,1,1,1,1,1,1,1] Tryz.f67) (jd7.loops.drop 1) (u05 N))) K0r)))
def yj8 (N:Gr1)(t:List q15)(k qg3 q18 q44:Int)(q45 q28:List UInt8)(q56:List Int)(q07 q14:Int)(K0:(List UInt8×Int)→Option (List UInt8))(e:List UInt8):Option (List UInt8):=match e with|s1=>bif inR k q56.length then (N.r8_text t (q17 q56 k 0)).bind fun r11=>bif qj1 s1 r11 then bif q24 (k+1) then K0 ((s1++r11),k+1) else none else none else none
theorem w1h (N:Gr1)(t:List q15)(k qg3 q18 q44:Int)(q45 q28:List UInt8)(q56:List Int)(q07 q14:Int)(K0r:KT (List UInt8))(e:List UInt8):jmp N.n (um9 N K0r) ((um8 t k qg3 q18 q44 q45 q28 q56 q07 q14) e) ((un2 t k qg3 q18 q44 q45 q28 q56 q07 q14) e)=at1 N.n (yj8 N t k qg3 q18 q44 q45 q28 q56 q07 q14 (fun a=>K0r (zo7 t qg3 q18 q44 q45 q28 q56 q07 q14 a) (zo8 t qg3 q18 q44 q45 q28 q56 q07 q14 a)) e):=qj5 (by kernel_rfl) N.n
noncomputable def xy0 (N:Gr1):(KT (List UInt8))→KT (List UInt8):=qy2 DR jd8 (zo9 N) (nv [5,4,1,0,1,1,1,1,1,1,1] Tryz.f67) xx9 (jd7.loops.drop 1) (qd6 1 (qa6 DR jd8 (zo9 N) (nv [1,1,1,1,1,1,1,1] Tryz.f67) (jd7.loops.drop 1) (u05 N)))
def x37 (N:Gr1)(t:List q15)(qg3 q18 q44:Int)(q45 q28:List UInt8)(q56:List Int)(q07 q14:Int)(l2:(List q15)→Int→Int→Int→Int→(List UInt8)→(List UInt8)→(List Int)→Int→Int→(List UInt8)→Option (List UInt8))(K0:(List UInt8×Int)→Option (List UInt8))(e:List UInt8×Int):Option (List UInt8):=match e with|(s,k)=>bif decide (k<(q56.length:Int)) then bif decide (k>0) then bif qj1 s ([44,32]:List UInt8) then l2 t k qg3 q18 q44 q45 q28 q56 q07 q14 (s++([44,32]:List UInt8)) else none else l2 t k qg3 q18 q44 q45 q28 q56 q07 q14 s else bif qj1 s ([41]:List UInt8) then some (s++([41]:List UInt8)) else none
def yj7 (N:Gr1)(t:List q15)(qg3 q18 q44:Int)(q45 q28:List UInt8)(q56:List Int)(q07 q14:Int)(K0:(List UInt8×Int)→Option (List UInt8))(e:List UInt8×Int):Option (List UInt8):=x37 N t qg3 q18 q44 q45 q28 q56 q07 q14 (fun t k qg3 q18 q44 q45 q28 q56 q07 q14 e=>at1 N.n (yj8 N t k qg3 q18 q44 q45 q28 q56 q07 q14 K0 e)) K0 e
theorem w1g (N:Gr1)(t:List q15)(qg3 q18 q44:Int)(q45 q28:List UInt8)(q56:List Int)(q07 q14:Int)(n_:Nat)(e:List UInt8×Int):q55 (xy0 N ) n_ ((zo7 t qg3 q18 q44 q45 q28 q56 q07 q14) e) ((zo8 t qg3 q18 q44 q45 q28 q56 q07 q14) e)=q80 (yj7 N t qg3 q18 q44 q45 q28 q56 q07 q14 ) n_ e :=
 q36 (zo7 t qg3 q18 q44 q45 q28 q56 q07 q14) (zo8 t qg3 q18 q44 q45 q28 q56 q07 q14) (by
  intro K e
  have h:(xy0 N ) K ((zo7 t qg3 q18 q44 q45 q28 q56 q07 q14) e) ((zo8 t qg3 q18 q44 q45 q28 q56 q07 q14) e)=x37 N t qg3 q18 q44 q45 q28 q56 q07 q14 (fun t k qg3 q18 q44 q45 q28 q56 q07 q14 e=>jmp N.n (um9 N K) (um8 t k qg3 q18 q44 q45 q28 q56 q07 q14 e) (un2 t k qg3 q18 q44 q45 q28 q56 q07 q14 e)) (fun e=>K ((zo7 t qg3 q18 q44 q45 q28 q56 q07 q14) e) ((zo8 t qg3 q18 q44 q45 q28 q56 q07 q14) e)) e:=by obtain⟨s,k⟩:=e;kernel_rfl
  rw[h]
  simp only[yj7,w1h]<;>rfl) n_ e
def u06 (N:Gr1)(t:List q15)(i:Int)(l1:(List q15)→Int→Int→Int→(List UInt8)→(List UInt8)→(List Int)→Int→Int→(List UInt8×Int)→Option (List UInt8)):Option (List UInt8):=bif inR i t.length then bif (((q17 t i q43).1)==1) then (jm2 N.n ((q17 t i q43).2.1)).bind fun r=>some r else bif (((q17 t i q43).1)==2) then bif qj1 ([63]:List UInt8) ((q17 t i q43).2.2.1) then some (([63]:List UInt8)++((q17 t i q43).2.2.1)) else none else bif (((q17 t i q43).1)==3) then some [63] else bif (((q17 t i q43).1)==6) then bif inR 0 ((q17 t i q43).2.2.2.1).length then (N.r8_at t (q17 ((q17 t i q43).2.2.2.1) 0 0) 2).bind fun r1=>bif qj1 ([110,111,116,32]:List UInt8) r1 then some (([110,111,116,32]:List UInt8)++r1) else none else none else bif (((q17 t i q43).1)==17) then bif inR 0 ((q17 t i q43).2.2.2.1).length then (N.r8_at t (q17 ((q17 t i q43).2.2.2.1) 0 0) 6).bind fun r2=>bif qj1 ([45]:List UInt8) r2 then some (([45]:List UInt8)++r2) else none else none else (jo0 N.n ((q17 t i q43).1)).bind fun r3=>bif (r3==3) then bif inR 0 ((q17 t i q43).2.2.2.1).length then (N.r8_at t (q17 ((q17 t i q43).2.2.2.1) 0 0) 4).bind fun r4=>bif qj1 r4 ([32]:List UInt8) then (yj5 N.n ((q17 t i q43).1)).bind fun r5=>bif qj1 (r4++([32]:List UInt8)) r5 then bif qj1 ((r4++([32]:List UInt8))++r5) ([32]:List UInt8) then bif inR 1 ((q17 t i q43).2.2.2.1).length then (N.r8_at t (q17 ((q17 t i q43).2.2.2.1) 1 0) 4).bind fun r6=>bif qj1 (((r4++([32]:List UInt8))++r5)++([32]:List UInt8)) r6 then some ((((r4++([32]:List UInt8))++r5)++([32]:List UInt8))++r6) else none else none else none else none else none else none else bif decide (r3<8) then bif inR 0 ((q17 t i q43).2.2.2.1).length then (N.r8_at t (q17 ((q17 t i q43).2.2.2.1) 0 0) r3).bind fun r7=>bif qj1 r7 ([32]:List UInt8) then (yj5 N.n ((q17 t i q43).1)).bind fun r8=>bif qj1 (r7++([32]:List UInt8)) r8 then bif qj1 ((r7++([32]:List UInt8))++r8) ([32]:List UInt8) then bif inR 1 ((q17 t i q43).2.2.2.1).length then bif q24 (r3+1) then (N.r8_at t (q17 ((q17 t i q43).2.2.2.1) 1 0) (r3+1)).bind fun r9=>bif qj1 (((r7++([32]:List UInt8))++r8)++([32]:List UInt8)) r9 then some ((((r7++([32]:List UInt8))++r8)++([32]:List UInt8))++r9) else none else none else none else none else none else none else none else (vz5 N.n ((q17 t i q43).1)).bind fun r10=>bif qj1 r10 ([40]:List UInt8) then l1 t ((q17 t i q43).1) (((q17 t i q43).2.1).1) (((q17 t i q43).2.1).2.1) (((q17 t i q43).2.1).2.2.1) ((q17 t i q43).2.2.1) ((q17 t i q43).2.2.2.1) (((q17 t i q43).2.2.2.2.1).1) (((q17 t i q43).2.2.2.2.1).2.1) ((r10++([40]:List UInt8)),0) else none else none
def jd6 (N:Gr1)(t:List q15)(i:Int):Option (List UInt8):=u06 N t i (fun t qg3 q18 q44 q45 q28 q56 q07 q14 e=>q80 (yj7 N t qg3 q18 q44 q45 q28 q56 q07 q14) N.n e)
noncomputable def ko7 (N:Gr1)(t:List q15)(i:Int):Option (RT [.str]):=q20 DR Tryz.prog N.n (u03 N) jd7 Tryz.f67 (q31 Tryz.f67) (RT [.str]) (qb7 [(.list q49),(.int .i64)] (t,i,())) [] (q38 [.str])
theorem q1w (N:Gr1)(t:List q15)(i:Int):ko7 N t i=jd6 N t i:=by
 have h:ko7 N t i=u06 N t i (fun t qg3 q18 q44 q45 q28 q56 q07 q14 e=>q55 (xy0 N ) N.n (zo7 t qg3 q18 q44 q45 q28 q56 q07 q14 e) (zo8 t qg3 q18 q44 q45 q28 q56 q07 q14 e)):=by kernel_rfl
 rw[h]
 simp only[jd6,w1g]<;>rfl
theorem ko8 (N:Gr1)(h:k90 N):q16 Tryz.prog 67 (z88 (jd6 N)):=q10 (w1f N h) Tryz.func67 rfl (by kernel_rfl) fun (x:Els [(.list q49),(.int .i64)])=>q1w N x.1 x.2.1
def r8_at_H :FH:=⟨[],[],[],[],false,[],[]⟩
noncomputable def r8_at_T (N:Gr1):q46:=tab [(67,z88 N.r8_text),(150,ye2 N.n)]
theorem r8_at_Ts (N:Gr1)(h:k90 N):q13 Tryz.prog (r8_at_T N):=q06 h.r8_text<|q06 (yt1 N.n)<|q25 _
def vz4 (N:Gr1)(t:List q15)(i least:Int):Option (List UInt8):=(N.r8_text t i).bind fun r=>bif inR i t.length then (jo0 N.n ((q17 t i q43).1)).bind fun r1=>bif decide (r1<least) then bif qj1 ([40]:List UInt8) r then bif qj1 (([40]:List UInt8)++r) ([41]:List UInt8) then some ((([40]:List UInt8)++r)++([41]:List UInt8)) else none else none else some r else none
noncomputable def r8_at_C (N:Gr1)(t:List q15)(i least:Int):Option (RT [.str]):=q20 DR Tryz.prog N.n (r8_at_T N) r8_at_H Tryz.f149 (q31 Tryz.f149) (RT [.str]) (qb7 [(.list q49),(.int .i64),(.int .i64)] (t,i,least,())) [] (q38 [.str])
theorem r8_at_run (N:Gr1)(t:List q15)(i least:Int):r8_at_C N t i least=vz4 N t i least:=by kernel_rfl
theorem w1a (N:Gr1)(h:k90 N):q16 Tryz.prog 149 (xx2 (vz4 N)):=q10 (r8_at_Ts N h) Tryz.func149 rfl (by kernel_rfl) fun (x:Els [(.list q49),(.int .i64),(.int .i64)])=>r8_at_run N x.1 x.2.1 x.2.2.1
def j45 (n:Nat):Nat→Gr1
 |0=>⟨n,fun _ _=>none,fun _ _ _=>none⟩
 |d+1=>⟨n,jd6 (j45 n d),vz4 (j45 n d)⟩
theorem uq3 (n:Nat):∀ d,k90 (j45 n d)
 |0=>⟨ye7,ye7⟩
 |d+1=>⟨ko8 _ (uq3 n d),w1a _ (uq3 n d)⟩
def r8_text (N:Nat):(List q15)→Int→Option (List UInt8):=(j45 N N).r8_text
def u04 (N:Nat):Ent:=z88 (r8_text N)
theorem k28 (N:Nat):q16 Tryz.prog 67 (u04 N):=(uq3 N N).r8_text
def yj4 :LH:=⟨[(0,.lst q49),(1,.lst q49),(2,.bool),(7,.int .i64)],[],[]⟩
def xw8 :LH:=⟨[(0,.lst q49),(1,.lst q49),(2,.bool),(7,.int .i64),(8,.asis),(9,.asis),(10,.int .i64)],[],[.cells [.int .u8,.int .u8,.int .i64,.str,.str,.lst (.int .i64),.int .i64,.int .i64],.cells [.int .u8,.int .u8,.int .i64,.str,.str,.lst (.int .i64),.int .i64,.int .i64]]⟩
def we3 :FH:=⟨[yj4,xw8],[],[(6,⟨11,87,2,[(8,.alloc 0),(9,.alloc 1),(10,.store true 0)],[]⟩),(12,⟨10,87,0,[],[]⟩)],[],false,[],[]⟩
noncomputable def vy9 (N:Nat):q46:=tab []
theorem w0t (N:Nat):q13 Tryz.prog (vy9 N):=q25 _
noncomputable def wk6 :Sc:=w89 Tryz.prog we3
noncomputable def w00 (N:Nat):Cfg:=⟨N,vy9 N,0⟩
noncomputable def x31 (N:Nat):Exit→KT Bool:=fin Tryz.prog 0 Tryz.f68.results.toList (q38 [.bool])
def wy2 (a b:List q15)(qw0:Bool)(e:Int):List TV:=match e with|i=>frm 87 [(0,.tl q49 a .unk),(1,.tl q49 b .unk),(2,.bool qw0),(7,.int .i64 i)]
def wy3 (a b:List q15)(qw0:Bool)(e:Int):List TOb:=match e with|i=>[]
def xw7 (a b:List q15)(qw0:Bool)(i xl1 qq7 j10:Int)(j11 wr2:List UInt8)(w61:List Int)(qi8 qq5 xl4 qr0 j13:Int)(j14 wr3:List UInt8)(wd4:List Int)(qi9 qq8 e:Int):List TV:=match e with|k1=>frm 87 [(0,.tl q49 a .unk),(1,.tl q49 b .unk),(2,.bool qw0),(7,.int .i64 i),(8,.ref 0 0),(9,.ref 1 0),(10,.int .i64 k1)]
def xx1 (a b:List q15)(qw0:Bool)(i xl1 qq7 j10:Int)(j11 wr2:List UInt8)(w61:List Int)(qi8 qq5 xl4 qr0 j13:Int)(j14 wr3:List UInt8)(wd4:List Int)(qi9 qq8 e:Int):List TOb:=match e with|k1=>[.cells [.int .u8 xl1,.int .u8 qq7,.int .i64 j10,.str j11,.str wr2,.tl (.int .i64) w61 .unk,.int .i64 qi8,.int .i64 qq5] 54 true,.cells [.int .u8 xl4,.int .u8 qr0,.int .i64 j13,.str j14,.str wr3,.tl (.int .i64) wd4 .unk,.int .i64 qi9,.int .i64 qq8] 54 true]
def xw6 (a b:List q15)(qw0:Bool)(i q7h w19 xl2:Int)(xl3 j09:List UInt8)(z97:List Int)(qq6 w18 q7i w21 xl5:Int)(xl6 j12:List UInt8)(zl8:List Int)(qq9 w20 e:Int):List TV:=match e with|k=>frm 87 [(0,.tl q49 a .unk),(1,.tl q49 b .unk),(2,.bool qw0),(7,.int .i64 i),(8,.ref 0 0),(9,.ref 1 0),(10,.int .i64 k)]
def xx0 (a b:List q15)(qw0:Bool)(i q7h w19 xl2:Int)(xl3 j09:List UInt8)(z97:List Int)(qq6 w18 q7i w21 xl5:Int)(xl6 j12:List UInt8)(zl8:List Int)(qq9 w20 e:Int):List TOb:=match e with|k=>[.cells [.int .u8 q7h,.int .u8 w19,.int .i64 xl2,.str xl3,.str j09,.tl (.int .i64) z97 .unk,.int .i64 qq6,.int .i64 w18] 54 true,.cells [.int .u8 q7i,.int .u8 w21,.int .i64 xl5,.str xl6,.str j12,.tl (.int .i64) zl8 .unk,.int .i64 qq9,.int .i64 w20] 54 true]
noncomputable def um1 (N:Nat)(K0r:KT Bool):(KT Bool)→KT Bool:=qy2 DR wk6 (w00 N) (nv [5,4,1,1,1,4,0,1,5,4,1,0,1,1] Tryz.f68) xw8 (we3.loops.drop 2) (qd6 2 (qd6 1 (qa6 DR wk6 (w00 N) (nv [1,1,5,4,1,0,1,1] Tryz.f68) (we3.loops.drop 2) (xp4 (w00 N) yj4 (qd6 0 (qa6 DR wk6 (w00 N) (nv [1,1,1] Tryz.f68) (we3.loops.drop 2) (x31 N))) K0r))))
def xw4 (N:Nat)(a b:List q15)(qw0:Bool)(i q7h w19 xl2:Int)(xl3 j09:List UInt8)(z97:List Int)(qq6 w18 q7i w21 xl5:Int)(xl6 j12:List UInt8)(zl8:List Int)(qq9 w20:Int)(K0 K1:Int→Option Bool)(e:Int):Option Bool:=match e with|k=>bif decide (k<(z97.length:Int)) then bif inR k z97.length then bif inR k zl8.length then bif ((q17 z97 k 0) != (q17 zl8 k 0)) then some false else bif q24 (k+1) then K1 (k+1) else none else none else none else bif q24 (i+1) then K0 (i+1) else none
theorem w0v (N:Nat)(a b:List q15)(qw0:Bool)(i q7h w19 xl2:Int)(xl3 j09:List UInt8)(z97:List Int)(qq6 w18 q7i w21 xl5:Int)(xl6 j12:List UInt8)(zl8:List Int)(qq9 w20:Int)(K0r:KT Bool)(n_:Nat)(e:Int):q55 (um1 N K0r) n_ ((xw6 a b qw0 i q7h w19 xl2 xl3 j09 z97 qq6 w18 q7i w21 xl5 xl6 j12 zl8 qq9 w20) e) ((xx0 a b qw0 i q7h w19 xl2 xl3 j09 z97 qq6 w18 q7i w21 xl5 xl6 j12 zl8 qq9 w20) e)=q80 (xw4 N a b qw0 i q7h w19 xl2 xl3 j09 z97 qq6 w18 q7i w21 xl5 xl6 j12 zl8 qq9 w20 (fun a_=>K0r (wy2 a b qw0 a_) (wy3 a b qw0 a_))) n_ e :=
 q36 (xw6 a b qw0 i q7h w19 xl2 xl3 j09 z97 qq6 w18 q7i w21 xl5 xl6 j12 zl8 qq9 w20) (xx0 a b qw0 i q7h w19 xl2 xl3 j09 z97 qq6 w18 q7i w21 xl5 xl6 j12 zl8 qq9 w20) (by intro K e;kernel_rfl) n_ e
noncomputable def um2 (N:Nat)(K0r:KT Bool):(KT Bool)→KT Bool:=qy2 DR wk6 (w00 N) (nv [5,4,1,1,1,4,0,1,5,4,1,0,1,1] Tryz.f68) xw8 (we3.loops.drop 2) (qd6 2 (qd6 1 (qa6 DR wk6 (w00 N) (nv [1,1,5,4,1,0,1,1] Tryz.f68) (we3.loops.drop 2) (xp4 (w00 N) yj4 (qd6 0 (qa6 DR wk6 (w00 N) (nv [1,1,1] Tryz.f68) (we3.loops.drop 2) (x31 N))) K0r))))
def xw5 (N:Nat)(a b:List q15)(qw0:Bool)(i xl1 qq7 j10:Int)(j11 wr2:List UInt8)(w61:List Int)(qi8 qq5 xl4 qr0 j13:Int)(j14 wr3:List UInt8)(wd4:List Int)(qi9 qq8:Int)(K0 K1:Int→Option Bool)(e:Int):Option Bool:=match e with|k1=>bif decide (k1<(w61.length:Int)) then bif inR k1 w61.length then bif inR k1 wd4.length then bif ((q17 w61 k1 0) != (q17 wd4 k1 0)) then some false else bif q24 (k1+1) then K1 (k1+1) else none else none else none else bif q24 (i+1) then K0 (i+1) else none
theorem w0w (N:Nat)(a b:List q15)(qw0:Bool)(i xl1 qq7 j10:Int)(j11 wr2:List UInt8)(w61:List Int)(qi8 qq5 xl4 qr0 j13:Int)(j14 wr3:List UInt8)(wd4:List Int)(qi9 qq8:Int)(K0r:KT Bool)(n_:Nat)(e:Int):q55 (um2 N K0r) n_ ((xw7 a b qw0 i xl1 qq7 j10 j11 wr2 w61 qi8 qq5 xl4 qr0 j13 j14 wr3 wd4 qi9 qq8) e) ((xx1 a b qw0 i xl1 qq7 j10 j11 wr2 w61 qi8 qq5 xl4 qr0 j13 j14 wr3 wd4 qi9 qq8) e)=q80 (xw5 N a b qw0 i xl1 qq7 j10 j11 wr2 w61 qi8 qq5 xl4 qr0 j13 j14 wr3 wd4 qi9 qq8 (fun a_=>K0r (wy2 a b qw0 a_) (wy3 a b qw0 a_))) n_ e :=
 q36 (xw7 a b qw0 i xl1 qq7 j10 j11 wr2 w61 qi8 qq5 xl4 qr0 j13 j14 wr3 wd4 qi9 qq8) (xx1 a b qw0 i xl1 qq7 j10 j11 wr2 w61 qi8 qq5 xl4 qr0 j13 j14 wr3 wd4 qi9 qq8) (by intro K e;kernel_rfl) n_ e
noncomputable def xw9 (N:Nat):(KT Bool)→KT Bool:=qy2 DR wk6 (w00 N) (nv [5,4,1,0,1,1] Tryz.f68) yj4 (we3.loops.drop 1) (qd6 0 (qa6 DR wk6 (w00 N) (nv [1,1,1] Tryz.f68) (we3.loops.drop 2) (x31 N)))
def x30 (N:Nat)(a b:List q15)(qw0:Bool)(l2:(List q15)→(List q15)→Bool→Int→Int→Int→Int→(List UInt8)→(List UInt8)→(List Int)→Int→Int→Int→Int→Int→(List UInt8)→(List UInt8)→(List Int)→Int→Int→Int→Option Bool)(l3:(List q15)→(List q15)→Bool→Int→Int→Int→Int→(List UInt8)→(List UInt8)→(List Int)→Int→Int→Int→Int→Int→(List UInt8)→(List UInt8)→(List Int)→Int→Int→Int→Option Bool)(K0:Int→Option Bool)(e:Int):Option Bool:=match e with|i=>bif decide (i<(a.length:Int)) then bif inR i a.length then bif inR i b.length then bif (((q17 a i q43).1) != ((q17 b i q43).1)) then some false else bif (!(((((q17 a i q43).2.1).1)==(((q17 b i q43).2.1).1))&&(((((q17 a i q43).2.1).2.1)==(((q17 b i q43).2.1).2.1))&&(((((q17 a i q43).2.1).2.2.1)==(((q17 b i q43).2.1).2.2.1))&&true)))) then some false else bif (!(((q17 a i q43).2.2.1)==((q17 b i q43).2.2.1))) then some false else bif ((((q17 a i q43).2.2.2.1).length:Int) != (((q17 b i q43).2.2.2.1).length:Int)) then some false else bif (!qw0) then bif (!(((((q17 a i q43).2.2.2.2.1).1)==(((q17 b i q43).2.2.2.2.1).1))&&(((((q17 a i q43).2.2.2.2.1).2.1)==(((q17 b i q43).2.2.2.2.1).2.1))&&true))) then some false else l2 a b qw0 i ((q17 a i q43).1) (((q17 a i q43).2.1).1) (((q17 a i q43).2.1).2.1) (((q17 a i q43).2.1).2.2.1) ((q17 a i q43).2.2.1) ((q17 a i q43).2.2.2.1) (((q17 a i q43).2.2.2.2.1).1) (((q17 a i q43).2.2.2.2.1).2.1) ((q17 b i q43).1) (((q17 b i q43).2.1).1) (((q17 b i q43).2.1).2.1) (((q17 b i q43).2.1).2.2.1) ((q17 b i q43).2.2.1) ((q17 b i q43).2.2.2.1) (((q17 b i q43).2.2.2.2.1).1) (((q17 b i q43).2.2.2.2.1).2.1) 0 else l3 a b qw0 i ((q17 a i q43).1) (((q17 a i q43).2.1).1) (((q17 a i q43).2.1).2.1) (((q17 a i q43).2.1).2.2.1) ((q17 a i q43).2.2.1) ((q17 a i q43).2.2.2.1) (((q17 a i q43).2.2.2.2.1).1) (((q17 a i q43).2.2.2.2.1).2.1) ((q17 b i q43).1) (((q17 b i q43).2.1).1) (((q17 b i q43).2.1).2.1) (((q17 b i q43).2.1).2.2.1) ((q17 b i q43).2.2.1) ((q17 b i q43).2.2.2.1) (((q17 b i q43).2.2.2.2.1).1) (((q17 b i q43).2.2.2.2.1).2.1) 0 else none else none else some true
def yj3 (N:Nat)(a b:List q15)(qw0:Bool)(K0:Int→Option Bool)(e:Int):Option Bool:=x30 N a b qw0 (fun a b qw0 i q7h w19 xl2 xl3 j09 z97 qq6 w18 q7i w21 xl5 xl6 j12 zl8 qq9 w20 e=>q80 (xw4 N a b qw0 i q7h w19 xl2 xl3 j09 z97 qq6 w18 q7i w21 xl5 xl6 j12 zl8 qq9 w20 K0) N e) (fun a b qw0 i xl1 qq7 j10 j11 wr2 w61 qi8 qq5 xl4 qr0 j13 j14 wr3 wd4 qi9 qq8 e=>q80 (xw5 N a b qw0 i xl1 qq7 j10 j11 wr2 w61 qi8 qq5 xl4 qr0 j13 j14 wr3 wd4 qi9 qq8 K0) N e) K0 e
theorem w0u (N:Nat)(a b:List q15)(qw0:Bool)(n_:Nat)(e:Int):q55 (xw9 N ) n_ ((wy2 a b qw0) e) ((wy3 a b qw0) e)=q80 (yj3 N a b qw0 ) n_ e :=
 q36 (wy2 a b qw0) (wy3 a b qw0) (by
  intro K e
  have h:(xw9 N ) K ((wy2 a b qw0) e) ((wy3 a b qw0) e)=x30 N a b qw0 (fun a b qw0 i q7h w19 xl2 xl3 j09 z97 qq6 w18 q7i w21 xl5 xl6 j12 zl8 qq9 w20 e=>q55 (um1 N K) N (xw6 a b qw0 i q7h w19 xl2 xl3 j09 z97 qq6 w18 q7i w21 xl5 xl6 j12 zl8 qq9 w20 e) (xx0 a b qw0 i q7h w19 xl2 xl3 j09 z97 qq6 w18 q7i w21 xl5 xl6 j12 zl8 qq9 w20 e)) (fun a b qw0 i xl1 qq7 j10 j11 wr2 w61 qi8 qq5 xl4 qr0 j13 j14 wr3 wd4 qi9 qq8 e=>q55 (um2 N K) N (xw7 a b qw0 i xl1 qq7 j10 j11 wr2 w61 qi8 qq5 xl4 qr0 j13 j14 wr3 wd4 qi9 qq8 e) (xx1 a b qw0 i xl1 qq7 j10 j11 wr2 w61 qi8 qq5 xl4 qr0 j13 j14 wr3 wd4 qi9 qq8 e)) (fun e=>K ((wy2 a b qw0) e) ((wy3 a b qw0) e)) e:=by kernel_rfl
  rw[h]
  simp only[yj3,w0v,w0w]<;>rfl) n_ e
def vz1 (N:Nat)(a b:List q15)(qw0:Bool)(l1:(List q15)→(List q15)→Bool→Int→Option Bool):Option Bool:=bif ((a.length:Int) != (b.length:Int)) then some false else l1 a b qw0 0
def xw3 (N:Nat)(a b:List q15)(qw0:Bool):Option Bool:=vz1 N a b qw0 (fun a b qw0 e=>q80 (yj3 N a b qw0) N e)
noncomputable def kn6 (N:Nat)(a b:List q15)(qw0:Bool):Option (RT [.bool]):=q20 DR Tryz.prog N (vy9 N) we3 Tryz.f68 (q31 Tryz.f68) (RT [.bool]) (qb7 [(.list q49),(.list q49),.bool] (a,b,qw0,())) [] (q38 [.bool])
theorem q1p (N:Nat)(a b:List q15)(qw0:Bool):kn6 N a b qw0=xw3 N a b qw0:=by
 have h:kn6 N a b qw0=vz1 N a b qw0 (fun a b qw0 e=>q55 (xw9 N ) N (wy2 a b qw0 e) (wy3 a b qw0 e)):=by kernel_rfl
 rw[h]
 simp only[xw3,w0u]<;>rfl
def kn7 (m:(List q15)→(List q15)→Bool→Option Bool):Ent:=q29 [(.list q49),(.list q49),.bool] [.bool] fun (x:Els [(.list q49),(.list q49),.bool])=>m x.1 x.2.1 x.2.2.1
def vz0 (N:Nat):Ent:=kn7 (xw3 N)
theorem k23 (N:Nat):q16 Tryz.prog 68 (vz0 N):=q10 (w0t N) Tryz.func68 rfl (by kernel_rfl) fun (x:Els [(.list q49),(.list q49),.bool])=>q1p N x.1 x.2.1 x.2.2.1
def r8_Text_H :FH:=⟨[],[],[],[],false,[],[]⟩
noncomputable def kn9 (N:Nat):q46:=tab [(66,v81 N),(67,u04 N),(11,jn8 N),(68,vz0 N)]
theorem w0z (N:Nat):q13 Tryz.prog (kn9 N):=q06 (uc4 N)<|q06 (k28 N)<|q06 (jn9 N)<|q06 (k23 N)<|q25 _
def vz2 (N:Nat)(t:List q15):Option ((List UInt8)×Int×Unit):=bif decide ((t.length:Int)>60) then some ([],4,()) else (yj9 N t).bind fun r=>bif (!r) then some ([],4,()) else bif q24 ((t.length:Int)-1) then (r8_text N t ((t.length:Int)-1)).bind fun r1=>(zb1 N r1).bind fun r2=>bif (r2.2.2.1 != 0) then some ([],4,()) else (xw3 N t r2.1 true).bind fun r3=>bif (!r3) then some ([],4,()) else some (r1,0,()) else none
noncomputable def r8_Text_C (N:Nat)(t:List q15):Option (RT [.str,(.int .i64)]):=q20 DR Tryz.prog N (kn9 N) r8_Text_H Tryz.f33 (q31 Tryz.f33) (RT [.str,(.int .i64)]) (qb7 [(.list q49)] (t,())) [] (q38 [.str,(.int .i64)])
theorem q1r (N:Nat)(t:List q15):r8_Text_C N t=vz2 N t:=by kernel_rfl
def ko0 (m:(List q15)→Option ((List UInt8)×Int×Unit)):Ent:=q29 [(.list q49)] [.str,(.int .i64)] fun (x:Els [(.list q49)])=>m x.1
def vz3 (N:Nat):Ent:=ko0 (vz2 N)
theorem k25 (N:Nat):q16 Tryz.prog 33 (vz3 N):=q10 (w0z N) Tryz.func33 rfl (by kernel_rfl) fun (x:Els [(.list q49)])=>q1r N x.1
def un7 :LH:=⟨[(0,.lst wq8),(1,.str),(6,.int .i64)],[],[]⟩
def xh6 :FH:=⟨[un7],[],[],[],false,[],[]⟩
noncomputable def u16 (N:Nat):q46:=tab []
theorem w1o (N:Nat):q13 Tryz.prog (u16 N):=q25 _
noncomputable def uo0 :Sc:=w89 Tryz.prog xh6
noncomputable def un9 (N:Nat):Cfg:=⟨N,u16 N,0⟩
noncomputable def q2h (N:Nat):Exit→KT (Int×Bool×Unit):=fin Tryz.prog 0 Tryz.f69.results.toList (q38 [(.int .u8),.bool])
def xy7 (l:List q86)(name:List UInt8)(e:Int):List TV:=match e with|i=>frm 25 [(0,.tl wq8 l .unk),(1,.str name),(6,.int .i64 i)]
def xy8 (l:List q86)(name:List UInt8)(e:Int):List TOb:=match e with|i=>[]
noncomputable def un8 (N:Nat):(KT (Int×Bool×Unit))→KT (Int×Bool×Unit):=qy2 DR uo0 (un9 N) (nv [5,4,1,0,1] Tryz.f69) un7 (xh6.loops.drop 1) (qd6 0 (qa6 DR uo0 (un9 N) (nv [1,1] Tryz.f69) (xh6.loops.drop 1) (q2h N)))
def xy6 (N:Nat)(l:List q86)(name:List UInt8)(K0:Int→Option (Int×Bool×Unit))(e:Int):Option (Int×Bool×Unit):=match e with|i=>bif decide (i<(l.length:Int)) then bif inR i l.length then bif (((q17 l i qo7).1)==name) then bif inR i l.length then some ((q17 l i qo7).2.1,true,()) else none else bif q24 (i+1) then K0 (i+1) else none else none else some (0,false,())
theorem w1p (N:Nat)(l:List q86)(name:List UInt8)(n_:Nat)(e:Int):q55 (un8 N ) n_ ((xy7 l name) e) ((xy8 l name) e)=q80 (xy6 N l name ) n_ e :=
 q36 (xy7 l name) (xy8 l name) (by intro K e;kernel_rfl) n_ e
def u18 (N:Nat)(l:List q86)(name:List UInt8)(l1:(List q86)→(List UInt8)→Int→Option (Int×Bool×Unit)):Option (Int×Bool×Unit):=l1 l name 0
def xy5 (N:Nat)(l:List q86)(name:List UInt8):Option (Int×Bool×Unit):=u18 N l name (fun l name e=>q80 (xy6 N l name) N e)
noncomputable def kp9 (N:Nat)(l:List q86)(name:List UInt8):Option (RT [(.int .u8),.bool]):=q20 DR Tryz.prog N (u16 N) xh6 Tryz.f69 (q31 Tryz.f69) (RT [(.int .u8),.bool]) (qb7 [(.list wq8),.str] (l,name,())) [] (q38 [(.int .u8),.bool])
theorem q2i (N:Nat)(l:List q86)(name:List UInt8):kp9 N l name=xy5 N l name:=by
 have h:kp9 N l name=u18 N l name (fun l name e=>q55 (un8 N ) N (xy7 l name e) (xy8 l name e)):=by kernel_rfl
 rw[h]
 simp only[xy5,w1p]<;>rfl
def kq0 (m:(List q86)→(List UInt8)→Option (Int×Bool×Unit)):Ent:=q29 [(.list wq8),.str] [(.int .u8),.bool] fun (x:Els [(.list wq8),.str])=>m x.1 x.2.1
def u17 (N:Nat):Ent:=kq0 (xy5 N)
theorem k38 (N:Nat):q16 Tryz.prog 69 (u17 N):=q10 (w1o N) Tryz.func69 rfl (by kernel_rfl) fun (x:Els [(.list wq8),.str])=>q2i N x.1 x.2.1
def r9_goes_H :FH:=⟨[],[],[],[],false,[],[]⟩
noncomputable def kq1 (N:Nat):q46:=tab []
theorem w1q (N:Nat):q13 Tryz.prog (kq1 N):=q25 _
def ye4 (N:Nat)(k kind:Int):Option Bool:=bif (k==kind) then some true else some (k==0)
noncomputable def r9_goes_C (N:Nat)(k kind:Int):Option (RT [.bool]):=q20 DR Tryz.prog N (kq1 N) r9_goes_H Tryz.f73 (q31 Tryz.f73) (RT [.bool]) (qb7 [(.int .u8),(.int .u8)] (k,kind,())) [] (q38 [.bool])
theorem q2j (N:Nat)(k kind:Int):r9_goes_C N k kind=ye4 N k kind:=by kernel_rfl
def kq2 (m:Int→Int→Option Bool):Ent:=q29 [(.int .u8),(.int .u8)] [.bool] fun (x:Els [(.int .u8),(.int .u8)])=>m x.1 x.2.1
def x45 (N:Nat):Ent:=kq2 (ye4 N)
theorem xh7 (N:Nat):q16 Tryz.prog 73 (x45 N):=q10 (w1q N) Tryz.func73 rfl (by kernel_rfl) fun (x:Els [(.int .u8),(.int .u8)])=>q2j N x.1 x.2.1
def kp4 :LH:=⟨[(0,.lst (.int .u8)),(1,.int .u8),(5,.int .i64)],[],[]⟩
def vh9 :FH:=⟨[kp4],[],[],[],false,[],[]⟩
noncomputable def k36 (N:Nat):q46:=tab [(73,x45 N)]
theorem r9_all_Ts (N:Nat):q13 Tryz.prog (k36 N):=q06 (xh7 N)<|q25 _
noncomputable def kp7 :Sc:=w89 Tryz.prog vh9
noncomputable def kp6 (N:Nat):Cfg:=⟨N,k36 N,0⟩
noncomputable def w1m (N:Nat):Exit→KT Bool:=fin Tryz.prog 0 Tryz.f70.results.toList (q38 [.bool])
def u14 (kids:List Int)(kind e:Int):List TV:=match e with|i=>frm 19 [(0,.tl (.int .u8) kids .unk),(1,.int .u8 kind),(5,.int .i64 i)]
def u15 (kids:List Int)(kind e:Int):List TOb:=match e with|i=>[]
noncomputable def kp5 (N:Nat):(KT Bool)→KT Bool:=qy2 DR kp7 (kp6 N) (nv [5,4,1,0,1] Tryz.f70) kp4 (vh9.loops.drop 1) (qd6 0 (qa6 DR kp7 (kp6 N) (nv [1,1] Tryz.f70) (vh9.loops.drop 1) (w1m N)))
def u13 (N:Nat)(kids:List Int)(kind:Int)(K0:Int→Option Bool)(e:Int):Option Bool:=match e with|i=>bif decide (i<(kids.length:Int)) then bif inR i kids.length then (ye4 N (q17 kids i 0) kind).bind fun r=>bif (!r) then some false else bif q24 (i+1) then K0 (i+1) else none else none else some true
theorem r9_all_l1 (N:Nat)(kids:List Int)(kind:Int)(n_:Nat)(e:Int):q55 (kp5 N ) n_ ((u14 kids kind) e) ((u15 kids kind) e)=q80 (u13 N kids kind ) n_ e :=
 q36 (u14 kids kind) (u15 kids kind) (by intro K e;kernel_rfl) n_ e
def k37 (N:Nat)(kids:List Int)(kind:Int)(l1:(List Int)→Int→Int→Option Bool):Option Bool:=l1 kids kind 0
def jd9 (N:Nat)(kids:List Int)(kind:Int):Option Bool:=k37 N kids kind (fun kids kind e=>q80 (u13 N kids kind) N e)
noncomputable def q6x (N:Nat)(kids:List Int)(kind:Int):Option (RT [.bool]):=q20 DR Tryz.prog N (k36 N) vh9 Tryz.f70 (q31 Tryz.f70) (RT [.bool]) (qb7 [(.list (.int .u8)),(.int .u8)] (kids,kind,())) [] (q38 [.bool])
theorem w1n (N:Nat)(kids:List Int)(kind:Int):q6x N kids kind=jd9 N kids kind:=by
 have h:q6x N kids kind=k37 N kids kind (fun kids kind e=>q55 (kp5 N ) N (u14 kids kind e) (u15 kids kind e)):=by kernel_rfl
 rw[h]
 simp only[jd9,r9_all_l1]<;>rfl
def q2g (m:(List Int)→Int→Option Bool):Ent:=q29 [(.list (.int .u8)),(.int .u8)] [.bool] fun (x:Els [(.list (.int .u8)),(.int .u8)])=>m x.1 x.2.1
def un6 (N:Nat):Ent:=q2g (jd9 N)
theorem kp8 (N:Nat):q16 Tryz.prog 70 (un6 N):=q10 (r9_all_Ts N) Tryz.func70 rfl (by kernel_rfl) fun (x:Els [(.list (.int .u8)),(.int .u8)])=>w1n N x.1 x.2.1
def q2l :FH:=⟨[],[],[],[],false,[],[]⟩
noncomputable def u19 (N:Nat):q46:=tab []
theorem kq3 (N:Nat):q13 Tryz.prog (u19 N):=q25 _
def q72 (N:Nat)(k:Int):Option Bool:=some (decide (k≤2))
noncomputable def q2k (N:Nat)(k:Int):Option (RT [.bool]):=q20 DR Tryz.prog N (u19 N) q2l Tryz.f72 (q31 Tryz.f72) (RT [.bool]) (qb7 [(.int .u8)] (k,())) [] (q38 [.bool])
theorem k39 (N:Nat)(k:Int):q2k N k=q72 N k:=by kernel_rfl
def uc7 (m:Int→Option Bool):Ent:=q29 [(.int .u8)] [.bool] fun (x:Els [(.int .u8)])=>m x.1
def zn3 (N:Nat):Ent:=uc7 (q72 N)
theorem zv3 (N:Nat):q16 Tryz.prog 72 (zn3 N):=q10 (kq3 N) Tryz.func72 rfl (by kernel_rfl) fun (x:Els [(.int .u8)])=>k39 N x.1
def w1l :FH:=⟨[],[],[],[],false,[],[]⟩
noncomputable def un5 (N:Nat):q46:=tab [(72,zn3 N)]
theorem q2f (N:Nat):q13 Tryz.prog (un5 N):=q06 (zv3 N)<|q25 _
def yk1 (N:Nat)(a b:Int):Option Bool:=bif (a==0) then some true else bif (b==0) then some true else bif (a==b) then some true else (q72 N a).bind fun r=>bif r then (q72 N b).bind fun r1=>some r1 else some false
noncomputable def w1k (N:Nat)(a b:Int):Option (RT [.bool]):=q20 DR Tryz.prog N (un5 N) w1l Tryz.f71 (q31 Tryz.f71) (RT [.bool]) (qb7 [(.int .u8),(.int .u8)] (a,b,())) [] (q38 [.bool])
theorem kp3 (N:Nat)(a b:Int):w1k N a b=yk1 N a b:=by kernel_rfl
def k35 (m:Int→Int→Option Bool):Ent:=q29 [(.int .u8),(.int .u8)] [.bool] fun (x:Els [(.int .u8),(.int .u8)])=>m x.1 x.2.1
def v84 (N:Nat):Ent:=k35 (yk1 N)
theorem uc6 (N:Nat):q16 Tryz.prog 71 (v84 N):=q10 (q2f N) Tryz.func71 rfl (by kernel_rfl) fun (x:Els [(.int .u8),(.int .u8)])=>kp3 N x.1 x.2.1
def kq4 :LH:=⟨[(0,.lst (.int .u8)),(4,.int .u8),(5,.int .i64)],[],[]⟩
def vi0 :FH:=⟨[kq4],[],[],[],false,[],[]⟩
noncomputable def k40 (N:Nat):q46:=tab [(72,zn3 N)]
theorem r9_sum_Ts (N:Nat):q13 Tryz.prog (k40 N):=q06 (zv3 N)<|q25 _
noncomputable def kq7 :Sc:=w89 Tryz.prog vi0
noncomputable def kq6 (N:Nat):Cfg:=⟨N,k40 N,0⟩
noncomputable def w1r (N:Nat):Exit→KT (Int×Bool×Unit):=fin Tryz.prog 0 Tryz.f74.results.toList (q38 [(.int .u8),.bool])
def u21 (kids:List Int)(e:Int×Int):List TV:=match e with|(kind,i)=>frm 29 [(0,.tl (.int .u8) kids .unk),(4,.int .u8 kind),(5,.int .i64 i)]
def u22 (kids:List Int)(e:Int×Int):List TOb:=match e with|(kind,i)=>[]
noncomputable def kq5 (N:Nat):(KT (Int×Bool×Unit))→KT (Int×Bool×Unit):=qy2 DR kq7 (kq6 N) (nv [5,4,1,0,1,1] Tryz.f74) kq4 (vi0.loops.drop 1) (qd6 0 (qa6 DR kq7 (kq6 N) (nv [1,1,1] Tryz.f74) (vi0.loops.drop 1) (w1r N)))
def u20 (N:Nat)(kids:List Int)(K0:(Int×Int)→Option (Int×Bool×Unit))(e:Int×Int):Option (Int×Bool×Unit):=match e with|(kind,i)=>bif decide (i<(kids.length:Int)) then bif inR i kids.length then (q72 N (q17 kids i 0)).bind fun r=>bif (!r) then some (0,false,()) else bif inR i kids.length then bif decide ((q17 kids i 0)>kind) then bif inR i kids.length then bif q24 (i+1) then K0 ((q17 kids i 0),i+1) else none else none else bif q24 (i+1) then K0 (kind,i+1) else none else none else none else some (kind,true,())
theorem r9_sum_l1 (N:Nat)(kids:List Int)(n_:Nat)(e:Int×Int):q55 (kq5 N ) n_ ((u21 kids) e) ((u22 kids) e)=q80 (u20 N kids ) n_ e :=
 q36 (u21 kids) (u22 kids) (by intro K e;obtain⟨kind,i⟩:=e;kernel_rfl) n_ e
def k41 (N:Nat)(kids:List Int)(l1:(List Int)→(Int×Int)→Option (Int×Bool×Unit)):Option (Int×Bool×Unit):=l1 kids (0,0)
def uo1 (N:Nat)(kids:List Int):Option (Int×Bool×Unit):=k41 N kids (fun kids e=>q80 (u20 N kids) N e)
noncomputable def q6y (N:Nat)(kids:List Int):Option (RT [(.int .u8),.bool]):=q20 DR Tryz.prog N (k40 N) vi0 Tryz.f74 (q31 Tryz.f74) (RT [(.int .u8),.bool]) (qb7 [(.list (.int .u8))] (kids,())) [] (q38 [(.int .u8),.bool])
theorem w1s (N:Nat)(kids:List Int):q6y N kids=uo1 N kids:=by
 have h:q6y N kids=k41 N kids (fun kids e=>q55 (kq5 N ) N (u21 kids e) (u22 kids e)):=by kernel_rfl
 rw[h]
 simp only[uo1,r9_sum_l1]<;>rfl
def q2m (m:(List Int)→Option (Int×Bool×Unit)):Ent:=q29 [(.list (.int .u8))] [(.int .u8),.bool] fun (x:Els [(.list (.int .u8))])=>m x.1
def uo2 (N:Nat):Ent:=q2m (uo1 N)
theorem kq8 (N:Nat):q16 Tryz.prog 74 (uo2 N):=q10 (r9_sum_Ts N) Tryz.func74 rfl (by kernel_rfl) fun (x:Els [(.list (.int .u8))])=>w1s N x.1
def zn2 (m:(List q15)→Int→qw2→Option (Int×Int×Unit)):Ent:=q29 [(.list q49),(.int .i64),wj4] [(.int .u8),(.int .i64)] fun (x:Els [(.list q49),(.int .i64),wj4])=>m x.1 x.2.1 x.2.2.1
structure Gr2 where
 n:Nat
 r9_Wrong:(List q15)→Int→qw2→Option (Int×Int×Unit)
structure Gr2_ok (N:Gr2):Prop where
 r9_Wrong:q16 Tryz.prog 34 (zn2 N.r9_Wrong)
def u09 :LH:=⟨[(0,.lst q49),(5,.asis),(8,.asis),(9,.own (.int .u8) 509 5 1),(10,.int .i64)],[],[.cells [.lst wq8,.int .u8],.cells [.int .u8,.int .u8,.int .i64,.str,.str,.lst (.int .i64),.int .i64,.int .i64]]⟩
def yk0 :FH:=⟨[u09],[],[(6,⟨12,197,0,[],[]⟩),(29,⟨6,197,0,[],[]⟩),(45,⟨11,197,0,[],[]⟩)],[],false,[],[]⟩
noncomputable def xy3 (N:Gr2):q46:=tab [(34,zn2 N.r9_Wrong),(69,u17 N.n),(70,un6 N.n),(71,v84 N.n),(72,zn3 N.n),(73,x45 N.n),(74,uo2 N.n)]
theorem q2d (N:Gr2)(h:Gr2_ok N):q13 Tryz.prog (xy3 N):=q06 h.r9_Wrong<|q06 (k38 N.n)<|q06 (kp8 N.n)<|q06 (uc6 N.n)<|q06 (zv3 N.n)<|q06 (xh7 N.n)<|q06 (kq8 N.n)<|q25 _
noncomputable def u12 :Sc:=w89 Tryz.prog yk0
noncomputable def u11 (N:Gr2):Cfg:=⟨N.n,xy3 N,0⟩
noncomputable def kp1 (N:Gr2):Exit→KT (Int×Int×Unit):=fin Tryz.prog 0 Tryz.f34.results.toList (q38 [(.int .u8),(.int .i64)])
def x43 (t:List q15)(qk8:List q86)(qi7 qg3 q18 q44:Int)(q45 q28:List UInt8)(q56:List Int)(q07 q14:Int)(e:List Int×Int):List TV:=match e with|(kids,k)=>frm 197 [(0,.tl q49 t .unk),(5,.ref 0 0),(8,.ref 1 0),(9,.tl (.int .u8) kids (.own 509 5 1)),(10,.int .i64 k)]
def x44 (t:List q15)(qk8:List q86)(qi7 qg3 q18 q44:Int)(q45 q28:List UInt8)(q56:List Int)(q07 q14:Int)(e:List Int×Int):List TOb:=match e with|(kids,k)=>[.cells [.tl wq8 qk8 .unk,.int .u8 qi7] 24 true,.cells [.int .u8 qg3,.int .u8 q18,.int .i64 q44,.str q45,.str q28,.tl (.int .i64) q56 .unk,.int .i64 q07,.int .i64 q14] 54 true]
noncomputable def u10 (N:Gr2):(KT (Int×Int×Unit))→KT (Int×Int×Unit):=qy2 DR u12 (u11 N) (nv [5,4,1,0,1,1,1] Tryz.f34) u09 (yk0.loops.drop 1) (qd6 0 (qa6 DR u12 (u11 N) (nv [1,1,1,1] Tryz.f34) (yk0.loops.drop 1) (kp1 N)))
def q96 (N:Gr2)(t:List q15)(qk8:List q86)(qi7 qg3 q18 q44:Int)(q45 q28:List UInt8)(q56:List Int)(q07 q14:Int)(K0:(List Int×Int)→Option (Int×Int×Unit))(e:List Int×Int):Option (Int×Int×Unit):=match e with|(kids,k)=>bif decide (k<(q56.length:Int)) then bif inR k q56.length then (N.r9_Wrong t (q17 q56 k 0) (qk8,qi7,())).bind fun r=>bif qr1 (kids.length+[r.1].length) 140737488355328 then bif q24 (k+1) then K0 ((kids++[r.1]),k+1) else none else none else none else bif (qg3==1) then some (q18,0,()) else bif (qg3==2) then (xy5 N.n qk8 q28).bind fun r1=>bif (!r1.2.1) then some (0,11,()) else bif (!(decide (r1.1≤5))) then some (0,8,()) else some (r1.1,0,()) else bif (qg3==3) then bif (qi7==0) then some (0,11,()) else bif (!(decide (qi7≤5))) then some (0,8,()) else some (qi7,0,()) else bif (qg3==4) then (jd9 N.n kids 4).bind fun r2=>bif (!r2) then some (0,8,()) else some (4,0,()) else bif (qg3==5) then (jd9 N.n kids 4).bind fun r3=>bif (!r3) then some (0,8,()) else some (4,0,()) else bif (qg3==6) then (jd9 N.n kids 4).bind fun r4=>bif (!r4) then some (0,8,()) else some (4,0,()) else bif (qg3==7) then bif inR 0 kids.length then bif inR 1 kids.length then (yk1 N.n (q17 kids 0 0) (q17 kids 1 0)).bind fun r5=>bif (!r5) then some (0,8,()) else some (4,0,()) else none else none else bif (qg3==8) then bif inR 0 kids.length then bif inR 1 kids.length then (yk1 N.n (q17 kids 0 0) (q17 kids 1 0)).bind fun r6=>bif (!r6) then some (0,8,()) else some (4,0,()) else none else none else bif (qg3==9) then bif inR 0 kids.length then bif ((q17 kids 0 0)==0) then bif inR 1 kids.length then bif decide ((q17 kids 1 0)≤3) then some (4,0,()) else bif inR 1 kids.length then bif ((q17 kids 1 0)==0) then bif inR 0 kids.length then bif decide ((q17 kids 0 0)≤3) then some (4,0,()) else bif inR 0 kids.length then (q72 N.n (q17 kids 0 0)).bind fun r7=>bif r7 then bif inR 1 kids.length then (q72 N.n (q17 kids 1 0)).bind fun r8=>bif r8 then some (4,0,()) else bif inR 0 kids.length then bif ((q17 kids 0 0)==3) then bif inR 1 kids.length then bif (!((q17 kids 1 0)==3)) then some (0,8,()) else some (4,0,()) else none else some (0,8,()) else none else none else bif inR 0 kids.length then bif ((q17 kids 0 0)==3) then bif inR 1 kids.length then bif (!((q17 kids 1 0)==3)) then some (0,8,()) else some (4,0,()) else none else some (0,8,()) else none else none else none else bif inR 0 kids.length then (q72 N.n (q17 kids 0 0)).bind fun r9=>bif r9 then bif inR 1 kids.length then (q72 N.n (q17 kids 1 0)).bind fun r10=>bif r10 then some (4,0,()) else bif inR 0 kids.length then bif ((q17 kids 0 0)==3) then bif inR 1 kids.length then bif (!((q17 kids 1 0)==3)) then some (0,8,()) else some (4,0,()) else none else some (0,8,()) else none else none else bif inR 0 kids.length then bif ((q17 kids 0 0)==3) then bif inR 1 kids.length then bif (!((q17 kids 1 0)==3)) then some (0,8,()) else some (4,0,()) else none else some (0,8,()) else none else none else none else none else bif inR 1 kids.length then bif ((q17 kids 1 0)==0) then bif inR 0 kids.length then bif decide ((q17 kids 0 0)≤3) then some (4,0,()) else bif inR 0 kids.length then (q72 N.n (q17 kids 0 0)).bind fun r11=>bif r11 then bif inR 1 kids.length then (q72 N.n (q17 kids 1 0)).bind fun r12=>bif r12 then some (4,0,()) else bif inR 0 kids.length then bif ((q17 kids 0 0)==3) then bif inR 1 kids.length then bif (!((q17 kids 1 0)==3)) then some (0,8,()) else some (4,0,()) else none else some (0,8,()) else none else none else bif inR 0 kids.length then bif ((q17 kids 0 0)==3) then bif inR 1 kids.length then bif (!((q17 kids 1 0)==3)) then some (0,8,()) else some (4,0,()) else none else some (0,8,()) else none else none else none else bif inR 0 kids.length then (q72 N.n (q17 kids 0 0)).bind fun r13=>bif r13 then bif inR 1 kids.length then (q72 N.n (q17 kids 1 0)).bind fun r14=>bif r14 then some (4,0,()) else bif inR 0 kids.length then bif ((q17 kids 0 0)==3) then bif inR 1 kids.length then bif (!((q17 kids 1 0)==3)) then some (0,8,()) else some (4,0,()) else none else some (0,8,()) else none else none else bif inR 0 kids.length then bif ((q17 kids 0 0)==3) then bif inR 1 kids.length then bif (!((q17 kids 1 0)==3)) then some (0,8,()) else some (4,0,()) else none else some (0,8,()) else none else none else none else none else bif (qg3==10) then bif inR 0 kids.length then bif ((q17 kids 0 0)==0) then bif inR 1 kids.length then bif decide ((q17 kids 1 0)≤3) then some (4,0,()) else bif inR 1 kids.length then bif ((q17 kids 1 0)==0) then bif inR 0 kids.length then bif decide ((q17 kids 0 0)≤3) then some (4,0,()) else bif inR 0 kids.length then (q72 N.n (q17 kids 0 0)).bind fun r15=>bif r15 then bif inR 1 kids.length then (q72 N.n (q17 kids 1 0)).bind fun r16=>bif r16 then some (4,0,()) else bif inR 0 kids.length then bif ((q17 kids 0 0)==3) then bif inR 1 kids.length then bif (!((q17 kids 1 0)==3)) then some (0,8,()) else some (4,0,()) else none else some (0,8,()) else none else none else bif inR 0 kids.length then bif ((q17 kids 0 0)==3) then bif inR 1 kids.length then bif (!((q17 kids 1 0)==3)) then some (0,8,()) else some (4,0,()) else none else some (0,8,()) else none else none else none else bif inR 0 kids.length then (q72 N.n (q17 kids 0 0)).bind fun r17=>bif r17 then bif inR 1 kids.length then (q72 N.n (q17 kids 1 0)).bind fun r18=>bif r18 then some (4,0,()) else bif inR 0 kids.length then bif ((q17 kids 0 0)==3) then bif inR 1 kids.length then bif (!((q17 kids 1 0)==3)) then some (0,8,()) else some (4,0,()) else none else some (0,8,()) else none else none else bif inR 0 kids.length then bif ((q17 kids 0 0)==3) then bif inR 1 kids.length then bif (!((q17 kids 1 0)==3)) then some (0,8,()) else some (4,0,()) else none else some (0,8,()) else none else none else none else none else bif inR 1 kids.length then bif ((q17 kids 1 0)==0) then bif inR 0 kids.length then bif decide ((q17 kids 0 0)≤3) then some (4,0,()) else bif inR 0 kids.length then (q72 N.n (q17 kids 0 0)).bind fun r19=>bif r19 then bif inR 1 kids.length then (q72 N.n (q17 kids 1 0)).bind fun r20=>bif r20 then some (4,0,()) else bif inR 0 kids.length then bif ((q17 kids 0 0)==3) then bif inR 1 kids.length then bif (!((q17 kids 1 0)==3)) then some (0,8,()) else some (4,0,()) else none else some (0,8,()) else none else none else bif inR 0 kids.length then bif ((q17 kids 0 0)==3) then bif inR 1 kids.length then bif (!((q17 kids 1 0)==3)) then some (0,8,()) else some (4,0,()) else none else some (0,8,()) else none else none else none else bif inR 0 kids.length then (q72 N.n (q17 kids 0 0)).bind fun r21=>bif r21 then bif inR 1 kids.length then (q72 N.n (q17 kids 1 0)).bind fun r22=>bif r22 then some (4,0,()) else bif inR 0 kids.length then bif ((q17 kids 0 0)==3) then bif inR 1 kids.length then bif (!((q17 kids 1 0)==3)) then some (0,8,()) else some (4,0,()) else none else some (0,8,()) else none else none else bif inR 0 kids.length then bif ((q17 kids 0 0)==3) then bif inR 1 kids.length then bif (!((q17 kids 1 0)==3)) then some (0,8,()) else some (4,0,()) else none else some (0,8,()) else none else none else none else none else bif (qg3==11) then bif inR 0 kids.length then bif ((q17 kids 0 0)==0) then bif inR 1 kids.length then bif decide ((q17 kids 1 0)≤3) then some (4,0,()) else bif inR 1 kids.length then bif ((q17 kids 1 0)==0) then bif inR 0 kids.length then bif decide ((q17 kids 0 0)≤3) then some (4,0,()) else bif inR 0 kids.length then (q72 N.n (q17 kids 0 0)).bind fun r23=>bif r23 then bif inR 1 kids.length then (q72 N.n (q17 kids 1 0)).bind fun r24=>bif r24 then some (4,0,()) else bif inR 0 kids.length then bif ((q17 kids 0 0)==3) then bif inR 1 kids.length then bif (!((q17 kids 1 0)==3)) then some (0,8,()) else some (4,0,()) else none else some (0,8,()) else none else none else bif inR 0 kids.length then bif ((q17 kids 0 0)==3) then bif inR 1 kids.length then bif (!((q17 kids 1 0)==3)) then some (0,8,()) else some (4,0,()) else none else some (0,8,()) else none else none else none else bif inR 0 kids.length then (q72 N.n (q17 kids 0 0)).bind fun r25=>bif r25 then bif inR 1 kids.length then (q72 N.n (q17 kids 1 0)).bind fun r26=>bif r26 then some (4,0,()) else bif inR 0 kids.length then bif ((q17 kids 0 0)==3) then bif inR 1 kids.length then bif (!((q17 kids 1 0)==3)) then some (0,8,()) else some (4,0,()) else none else some (0,8,()) else none else none else bif inR 0 kids.length then bif ((q17 kids 0 0)==3) then bif inR 1 kids.length then bif (!((q17 kids 1 0)==3)) then some (0,8,()) else some (4,0,()) else none else some (0,8,()) else none else none else none else none else bif inR 1 kids.length then bif ((q17 kids 1 0)==0) then bif inR 0 kids.length then bif decide ((q17 kids 0 0)≤3) then some (4,0,()) else bif inR 0 kids.length then (q72 N.n (q17 kids 0 0)).bind fun r27=>bif r27 then bif inR 1 kids.length then (q72 N.n (q17 kids 1 0)).bind fun r28=>bif r28 then some (4,0,()) else bif inR 0 kids.length then bif ((q17 kids 0 0)==3) then bif inR 1 kids.length then bif (!((q17 kids 1 0)==3)) then some (0,8,()) else some (4,0,()) else none else some (0,8,()) else none else none else bif inR 0 kids.length then bif ((q17 kids 0 0)==3) then bif inR 1 kids.length then bif (!((q17 kids 1 0)==3)) then some (0,8,()) else some (4,0,()) else none else some (0,8,()) else none else none else none else bif inR 0 kids.length then (q72 N.n (q17 kids 0 0)).bind fun r29=>bif r29 then bif inR 1 kids.length then (q72 N.n (q17 kids 1 0)).bind fun r30=>bif r30 then some (4,0,()) else bif inR 0 kids.length then bif ((q17 kids 0 0)==3) then bif inR 1 kids.length then bif (!((q17 kids 1 0)==3)) then some (0,8,()) else some (4,0,()) else none else some (0,8,()) else none else none else bif inR 0 kids.length then bif ((q17 kids 0 0)==3) then bif inR 1 kids.length then bif (!((q17 kids 1 0)==3)) then some (0,8,()) else some (4,0,()) else none else some (0,8,()) else none else none else none else none else bif (qg3==12) then bif inR 0 kids.length then bif ((q17 kids 0 0)==0) then bif inR 1 kids.length then bif decide ((q17 kids 1 0)≤3) then some (4,0,()) else bif inR 1 kids.length then bif ((q17 kids 1 0)==0) then bif inR 0 kids.length then bif decide ((q17 kids 0 0)≤3) then some (4,0,()) else bif inR 0 kids.length then (q72 N.n (q17 kids 0 0)).bind fun r31=>bif r31 then bif inR 1 kids.length then (q72 N.n (q17 kids 1 0)).bind fun r32=>bif r32 then some (4,0,()) else bif inR 0 kids.length then bif ((q17 kids 0 0)==3) then bif inR 1 kids.length then bif (!((q17 kids 1 0)==3)) then some (0,8,()) else some (4,0,()) else none else some (0,8,()) else none else none else bif inR 0 kids.length then bif ((q17 kids 0 0)==3) then bif inR 1 kids.length then bif (!((q17 kids 1 0)==3)) then some (0,8,()) else some (4,0,()) else none else some (0,8,()) else none else none else none else bif inR 0 kids.length then (q72 N.n (q17 kids 0 0)).bind fun r33=>bif r33 then bif inR 1 kids.length then (q72 N.n (q17 kids 1 0)).bind fun r34=>bif r34 then some (4,0,()) else bif inR 0 kids.length then bif ((q17 kids 0 0)==3) then bif inR 1 kids.length then bif (!((q17 kids 1 0)==3)) then some (0,8,()) else some (4,0,()) else none else some (0,8,()) else none else none else bif inR 0 kids.length then bif ((q17 kids 0 0)==3) then bif inR 1 kids.length then bif (!((q17 kids 1 0)==3)) then some (0,8,()) else some (4,0,()) else none else some (0,8,()) else none else none else none else none else bif inR 1 kids.length then bif ((q17 kids 1 0)==0) then bif inR 0 kids.length then bif decide ((q17 kids 0 0)≤3) then some (4,0,()) else bif inR 0 kids.length then (q72 N.n (q17 kids 0 0)).bind fun r35=>bif r35 then bif inR 1 kids.length then (q72 N.n (q17 kids 1 0)).bind fun r36=>bif r36 then some (4,0,()) else bif inR 0 kids.length then bif ((q17 kids 0 0)==3) then bif inR 1 kids.length then bif (!((q17 kids 1 0)==3)) then some (0,8,()) else some (4,0,()) else none else some (0,8,()) else none else none else bif inR 0 kids.length then bif ((q17 kids 0 0)==3) then bif inR 1 kids.length then bif (!((q17 kids 1 0)==3)) then some (0,8,()) else some (4,0,()) else none else some (0,8,()) else none else none else none else bif inR 0 kids.length then (q72 N.n (q17 kids 0 0)).bind fun r37=>bif r37 then bif inR 1 kids.length then (q72 N.n (q17 kids 1 0)).bind fun r38=>bif r38 then some (4,0,()) else bif inR 0 kids.length then bif ((q17 kids 0 0)==3) then bif inR 1 kids.length then bif (!((q17 kids 1 0)==3)) then some (0,8,()) else some (4,0,()) else none else some (0,8,()) else none else none else bif inR 0 kids.length then bif ((q17 kids 0 0)==3) then bif inR 1 kids.length then bif (!((q17 kids 1 0)==3)) then some (0,8,()) else some (4,0,()) else none else some (0,8,()) else none else none else none else none else bif (qg3==21) then (jd9 N.n kids 1).bind fun r39=>bif (!r39) then some (0,8,()) else some (1,0,()) else bif (qg3==22) then (jd9 N.n kids 3).bind fun r40=>bif (!r40) then some (0,8,()) else some (1,0,()) else bif (qg3==23) then (jd9 N.n kids 3).bind fun r41=>bif (!r41) then some (0,8,()) else some (3,0,()) else bif (qg3==24) then (jd9 N.n kids 3).bind fun r42=>bif (!r42) then some (0,8,()) else some (4,0,()) else bif (qg3==25) then (jd9 N.n kids 3).bind fun r43=>bif (!r43) then some (0,8,()) else some (4,0,()) else bif (qg3==26) then bif inR 0 kids.length then (ye4 N.n (q17 kids 0 0) 4).bind fun r44=>bif r44 then bif inR 1 kids.length then bif inR 2 kids.length then bif ((q17 kids 1 0)==(q17 kids 2 0)) then bif inR 1 kids.length then bif ((q17 kids 1 0)==0) then bif inR 2 kids.length then some ((q17 kids 2 0),0,()) else none else some ((q17 kids 1 0),0,()) else none else bif inR 1 kids.length then bif ((q17 kids 1 0)==0) then bif inR 1 kids.length then bif ((q17 kids 1 0)==0) then bif inR 2 kids.length then some ((q17 kids 2 0),0,()) else none else some ((q17 kids 1 0),0,()) else none else bif inR 2 kids.length then bif inR 1 kids.length then bif ((q17 kids 1 0)==0) then bif inR 2 kids.length then bif (!((q17 kids 2 0)==0)) then some (0,8,()) else some ((q17 kids 2 0),0,()) else none else bif (!((q17 kids 2 0)==0)) then some (0,8,()) else some ((q17 kids 1 0),0,()) else none else none else none else none else none else bif inR 1 kids.length then bif ((q17 kids 1 0)==0) then bif inR 2 kids.length then some (0,8,()) else none else some (0,8,()) else none else none else (uo1 N.n kids).bind fun r45=>bif (!r45.2.1) then some (0,8,()) else some (r45.1,0,())
theorem q2e (N:Gr2)(t:List q15)(qk8:List q86)(qi7 qg3 q18 q44:Int)(q45 q28:List UInt8)(q56:List Int)(q07 q14:Int)(n_:Nat)(e:List Int×Int):q55 (u10 N ) n_ ((x43 t qk8 qi7 qg3 q18 q44 q45 q28 q56 q07 q14) e) ((x44 t qk8 qi7 qg3 q18 q44 q45 q28 q56 q07 q14) e)=q80 (q96 N t qk8 qi7 qg3 q18 q44 q45 q28 q56 q07 q14 ) n_ e :=
 q36 (x43 t qk8 qi7 qg3 q18 q44 q45 q28 q56 q07 q14) (x44 t qk8 qi7 qg3 q18 q44 q45 q28 q56 q07 q14) (by intro K e;obtain⟨kids,k⟩:=e;kernel_rfl) n_ e
def xy4 (N:Gr2)(t:List q15)(i:Int)(s:qw2)(l1:(List q15)→(List q86)→Int→Int→Int→Int→(List UInt8)→(List UInt8)→(List Int)→Int→Int→(List Int×Int)→Option (Int×Int×Unit)):Option (Int×Int×Unit):=bif inR i t.length then l1 t s.1 s.2.1 ((q17 t i q43).1) (((q17 t i q43).2.1).1) (((q17 t i q43).2.1).2.1) (((q17 t i q43).2.1).2.2.1) ((q17 t i q43).2.2.1) ((q17 t i q43).2.2.2.1) (((q17 t i q43).2.2.2.2.1).1) (((q17 t i q43).2.2.2.2.1).2.1) ([],0) else none
def zp0 (N:Gr2)(t:List q15)(i:Int)(s:qw2):Option (Int×Int×Unit):=xy4 N t i s (fun t qk8 qi7 qg3 q18 q44 q45 q28 q56 q07 q14 e=>q80 (q96 N t qk8 qi7 qg3 q18 q44 q45 q28 q56 q07 q14) N.n e)
noncomputable def un4 (N:Gr2)(t:List q15)(i:Int)(s:qw2):Option (RT [(.int .u8),(.int .i64)]):=q20 DR Tryz.prog N.n (xy3 N) yk0 Tryz.f34 (q31 Tryz.f34) (RT [(.int .u8),(.int .i64)]) (qb7 [(.list q49),(.int .i64),wj4] (t,i,s,())) [] (q38 [(.int .u8),(.int .i64)])
theorem kp2 (N:Gr2)(t:List q15)(i:Int)(s:qw2):un4 N t i s=zp0 N t i s:=by
 have h:un4 N t i s=xy4 N t i s (fun t qk8 qi7 qg3 q18 q44 q45 q28 q56 q07 q14 e=>q55 (u10 N ) N.n (x43 t qk8 qi7 qg3 q18 q44 q45 q28 q56 q07 q14 e) (x44 t qk8 qi7 qg3 q18 q44 q45 q28 q56 q07 q14 e)):=by kernel_rfl
 rw[h]
 simp only[zp0,q2e]<;>rfl
theorem k34 (N:Gr2)(h:Gr2_ok N):q16 Tryz.prog 34 (zn2 (zp0 N)):=q10 (q2d N h) Tryz.func34 rfl (by kernel_rfl) fun (x:Els [(.list q49),(.int .i64),wj4])=>kp2 N x.1 x.2.1 x.2.2.1
def v14 (n:Nat):Nat→Gr2
 |0=>⟨n,fun _ _ _=>none⟩
 |d+1=>⟨n,zp0 (v14 n d)⟩
theorem q4c (n:Nat):∀ d,Gr2_ok (v14 n d)
 |0=>⟨ye7⟩
 |d+1=>⟨k34 _ (q4c n d)⟩
def r9_Wrong (N:Nat):(List q15)→Int→qw2→Option (Int×Int×Unit):=(v14 N N).r9_Wrong
def v83 (N:Nat):Ent:=zn2 (r9_Wrong N)
theorem uc5 (N:Nat):q16 Tryz.prog 34 (v83 N):=(q4c N N).r9_Wrong
def q6t :LH:=⟨[(0,.lst q49),(3,.asis),(5,.asis),(7,.asis),(10,.int .u8),(11,.int .i64)],[],[.cells [.lst wq8,.int .u8],.cells [.int .i64,.int .i64],.cells [.int .i64,.int .i64]]⟩
def k32 :FH:=⟨[q6t],[],[(4,⟨2,44,0,[],[]⟩),(11,⟨8,44,0,[(7,.store true 1)],[]⟩),(12,⟨3,44,0,[],[]⟩)],[],false,[],[]⟩
noncomputable def q2a (N:Nat):q46:=tab [(33,vz3 N),(34,v83 N)]
theorem r9_Of_Ts (N:Nat):q13 Tryz.prog (q2a N):=q06 (k25 N)<|q06 (uc5 N)<|q25 _
noncomputable def q6w :Sc:=w89 Tryz.prog k32
noncomputable def q6v (N:Nat):Cfg:=⟨N,q2a N,0⟩
noncomputable def r9_Of_fin (N:Nat):Exit→KT (Int×qd5×Int×Unit):=fin Tryz.prog 0 Tryz.f13.results.toList (q38 [(.int .u8),qr3,(.int .i64)])
def k31 (t:List q15)(qk8:List q86)(qi7 wq7 j07 q51 q62:Int)(e:Int×Int):List TV:=match e with|(kind,i)=>frm 44 [(0,.tl q49 t .unk),(3,.ref 0 0),(5,.ref 1 0),(7,.ref 2 0),(10,.int .u8 kind),(11,.int .i64 i)]
def k33 (t:List q15)(qk8:List q86)(qi7 wq7 j07 q51 q62:Int)(e:Int×Int):List TOb:=match e with|(kind,i)=>[.cells [.tl wq8 qk8 .unk,.int .u8 qi7] 24 true,.cells [.int .i64 wq7,.int .i64 j07] 31 true,.cells [.int .i64 q51,.int .i64 q62] 31 true]
noncomputable def q6u (N:Nat):(KT (Int×qd5×Int×Unit))→KT (Int×qd5×Int×Unit):=qy2 DR q6w (q6v N) (nv [5,4,1,0,1,1,1,1,1] Tryz.f13) q6t (k32.loops.drop 1) (qd6 0 (qa6 DR q6w (q6v N) (nv [1,1,1,1,1,1] Tryz.f13) (k32.loops.drop 1) (r9_Of_fin N)))
def k30 (N:Nat)(t:List q15)(qk8:List q86)(qi7 wq7 j07 q51 q62:Int)(K0:(Int×Int)→Option (Int×qd5×Int×Unit))(e:Int×Int):Option (Int×qd5×Int×Unit):=match e with|(kind,i)=>bif decide (i<(t.length:Int)) then (r9_Wrong N t i (qk8,qi7,())).bind fun r1=>bif (r1.2.1 != 0) then bif inR i t.length then some (0,((q17 t i q43).2.2.2.2.1),r1.2.1,()) else none else bif q24 (i+1) then K0 (r1.1,i+1) else none else some (kind,(q51,q62,()),0,())
theorem r9_Of_l1 (N:Nat)(t:List q15)(qk8:List q86)(qi7 wq7 j07 q51 q62:Int)(n_:Nat)(e:Int×Int):q55 (q6u N ) n_ ((k31 t qk8 qi7 wq7 j07 q51 q62) e) ((k33 t qk8 qi7 wq7 j07 q51 q62) e)=q80 (k30 N t qk8 qi7 wq7 j07 q51 q62 ) n_ e :=
 q36 (k31 t qk8 qi7 wq7 j07 q51 q62) (k33 t qk8 qi7 wq7 j07 q51 q62) (by intro K e;obtain⟨kind,i⟩:=e;kernel_rfl) n_ e
def q2c (N:Nat)(t:List q15)(s:qw2)(l1:(List q15)→(List q86)→Int→Int→Int→Int→Int→(Int×Int)→Option (Int×qd5×Int×Unit)):Option (Int×qd5×Int×Unit):=(vz2 N t).bind fun r=>bif (r.2.1 != 0) then some (0,(0,0,()),4,()) else l1 t s.1 s.2.1 0 0 0 0 (0,0)
def w1i (N:Nat)(t:List q15)(s:qw2):Option (Int×qd5×Int×Unit):=q2c N t s (fun t qk8 qi7 wq7 j07 q51 q62 e=>q80 (k30 N t qk8 qi7 wq7 j07 q51 q62) N e)
noncomputable def r9_Of_C (N:Nat)(t:List q15)(s:qw2):Option (RT [(.int .u8),qr3,(.int .i64)]):=q20 DR Tryz.prog N (q2a N) k32 Tryz.f13 (q31 Tryz.f13) (RT [(.int .u8),qr3,(.int .i64)]) (qb7 [(.list q49),wj4] (t,s,())) [] (q38 [(.int .u8),qr3,(.int .i64)])
theorem r9_Of_run (N:Nat)(t:List q15)(s:qw2):r9_Of_C N t s=w1i N t s:=by
 have h:r9_Of_C N t s=q2c N t s (fun t qk8 qi7 wq7 j07 q51 q62 e=>q55 (q6u N ) N (k31 t qk8 qi7 wq7 j07 q51 q62 e) (k33 t qk8 qi7 wq7 j07 q51 q62 e)):=by kernel_rfl
 rw[h]
 simp only[w1i,r9_Of_l1]<;>rfl
def w1j (m:(List q15)→qw2→Option (Int×qd5×Int×Unit)):Ent:=q29 [(.list q49),wj4] [(.int .u8),qr3,(.int .i64)] fun (x:Els [(.list q49),wj4])=>m x.1 x.2.1
def kp0 (N:Nat):Ent:=w1j (w1i N)
theorem q2b (N:Nat):q16 Tryz.prog 13 (kp0 N):=q10 (r9_Of_Ts N) Tryz.func13 rfl (by kernel_rfl) fun (x:Els [(.list q49),wj4])=>r9_Of_run N x.1 x.2.1
end Go.Proofs.YtgicljncknbgcaaGreat.Abs
