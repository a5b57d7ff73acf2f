/- The functions of the program, told on typed values, printed by a program: each tells what the reckoning of its body tells. -/
import Derived.Test.YtgicljncknbgcaaGreatL7
import Derived.Test.YtgicljncknbgcaaGreatLA
import Derived.Test.YtgicljncknbgcaaGreatProg
set_option linter.unusedVariables false
set_option linter.unusedSimpArgs false
set_option linter.unusedSectionVars false
namespace Go.Proofs.YtgicljncknbgcaaGreat.Abs
set_option maxRecDepth 100000
open Go Go.Proofs
def q05 :Ty:=.st [(.int .u8),(.int .i64),.str]
abbrev q00 :Type:=Int×Int×(List UInt8)×Unit
def q26 :q00:=(0,0,[],())
def qf6 :Ty:=.st [.str,q05]
abbrev q30 :Type:=(List UInt8)×q00×Unit
def kb4 :q30:=([],q26,())
def qr3 :Ty:=.st [(.int .i64),(.int .i64)]
abbrev qd5 :Type:=Int×Int×Unit
def d_Place :qd5:=(0,0,())
def q49 :Ty:=.st [(.int .u8),q05,.str,(.list (.int .i64)),qr3]
abbrev q15 :Type:=Int×q00×(List UInt8)×(List Int)×qd5×Unit
def q43 :q15:=(0,q26,[],[],d_Place,())
def qd2 :Ty:=.st [(.int .u8),.str,q05,qr3]
abbrev q39 :Type:=Int×(List UInt8)×q00×qd5×Unit
def q33 :q39:=(0,[],q26,d_Place,())
def qm8 :Ty:=.st [.bool,(.list (.int .i64))]
abbrev qa3 :Type:=Bool×(List Int)×Unit
def q08 :Ty:=.st [q05,(.int .i64)]
abbrev q03 :Type:=q00×Int×Unit
def wz5 :q03:=(q26,0,())
def q69 :Ty:=.st [(.list q08),(.list .bool)]
abbrev q35 :Type:=(List q03)×(List Bool)×Unit
abbrev OX0 :Type:=((((List q39)×Int×Int×(List q15)×Int×Int×Unit)×Unit)×(Int×Unit))
abbrev OX1 :Type:=(((List q39)×Int×Int×(List q15)×Int×Int×Unit)×Unit)
abbrev OX2 :Type:=((List q39)×Int×Int×(List q15)×Int×Int×Unit)
abbrev OX3 :Type:=(q00×Int×Unit)
abbrev OX4 :Type:=(qa3×Bool×Bool×Unit)
abbrev OX5 :Type:=(List q39×Int×Int×List q15×Int×Int×List Int)
abbrev OX6 :Type:=((List q39)×qd5×Int×Unit)
abbrev OX7 :Type:=((List q00)×Bool×Int×Unit)
abbrev OX8 :Type:=(Int×List q39×Int×Int×List q15×Int×Int)
def q74 :List UInt8:=0::1::2::2::3::3::3::3::4::4::4::4::4::4::4::4::5::5::5::5::5::5::5::5::5::5::5::5::5::5::5::5::6::6::6::6::6::6::6::6::6::6::6::6::6::6::6::6::6::6::6::6::6::6::6::6::6::6::6::6::6::6::6::6::7::7::7::7::7::7::7::7::7::7::7::7::7::7::7::7::7::7::7::7::7::7::7::7::7::7::7::7::7::7::7::7::7::7::7::7::7::7::7::7::7::7::7::7::7::7::7::7::7::7::7::7::7::7::7::7::7::7::7::7::7::7::7::7::8::8::8::8::8::8::8::8::8::8::8::8::8::8::8::8::8::8::8::8::8::8::8::8::8::8::8::8::8::8::8::8::8::8::8::8::8::8::8::8::8::8::8::8::8::8::8::8::8::8::8::8::8::8::8::8::8::8::8::8::8::8::8::8::8::8::8::8::8::8::8::8::8::8::8::8::8::8::8::8::8::8::8::8::8::8::8::8::8::8::8::8::8::8::8::8::8::8::8::8::8::8::8::8::8::8::8::8::8::8::8::8::8::8::8::8::8::8::8::8::8::8::8::8::8::8::8::8::[]
def w0m :FH:=⟨[],[],[],[],false,[],[]⟩
noncomputable def ul5 (N:Nat):q46:=tab []
theorem q1h (N:Nat):q13 Tryz.prog (ul5 N):=q25 _
def yj0 (N:Nat)(c:Int):Option Bool:=bif decide (c≥97) then some (decide (c≤122)) else some false
noncomputable def w0l (N:Nat)(c:Int):Option (RT [.bool]):=q20 DR Tryz.prog N (ul5 N) w0m Tryz.f200 (q31 Tryz.f200) (RT [.bool]) (qb7 [(.int .u8)] (c,())) [] (q38 [.bool])
theorem km7 (N:Nat)(c:Int):w0l N c=yj0 N c:=by kernel_rfl
def k18 (m:Int→Option Bool):Ent:=q29 [(.int .u8)] [.bool] fun (x:Els [(.int .u8)])=>m x.1
def v77 (N:Nat):Ent:=k18 (yj0 N)
theorem ub8 (N:Nat):q16 Tryz.prog 200 (v77 N):=q10 (q1h N) Tryz.func200 rfl (by kernel_rfl) fun (x:Els [(.int .u8)])=>km7 N x.1
def w0i :FH:=⟨[],[],[],[],false,[],[]⟩
noncomputable def ul3 (N:Nat):q46:=tab []
theorem q1f (N:Nat):q13 Tryz.prog (ul3 N):=q25 _
def wf6 (N:Nat)(c:Int):Option Bool:=bif decide (c≥48) then some (decide (c≤57)) else some false
noncomputable def w0h (N:Nat)(c:Int):Option (RT [.bool]):=q20 DR Tryz.prog N (ul3 N) w0i Tryz.f136 (q31 Tryz.f136) (RT [.bool]) (qb7 [(.int .u8)] (c,())) [] (q38 [.bool])
theorem kl3 (N:Nat)(c:Int):w0h N c=wf6 N c:=by kernel_rfl
def k11 (m:Int→Option Bool):Ent:=q29 [(.int .u8)] [.bool] fun (x:Els [(.int .u8)])=>m x.1
def j02 (N:Nat):Ent:=k11 (wf6 N)
theorem j34 (N:Nat):q16 Tryz.prog 136 (j02 N):=q10 (q1f N) Tryz.func136 rfl (by kernel_rfl) fun (x:Els [(.int .u8)])=>kl3 N x.1
def km0 :LH:=⟨[(0,.str),(1,.int .i64)],[],[]⟩
def vh7 :FH:=⟨[km0],[],[],[],false,[],[]⟩
noncomputable def k15 (N:Nat):q46:=tab [(200,v77 N),(136,j02 N)]
theorem r6_run_Ts (N:Nat):q13 Tryz.prog (k15 N):=q06 (ub8 N)<|q06 (j34 N)<|q25 _
noncomputable def km3 :Sc:=w89 Tryz.prog vh7
noncomputable def km2 (N:Nat):Cfg:=⟨N,k15 N,0⟩
noncomputable def w0j (N:Nat):Exit→KT Int:=fin Tryz.prog 0 Tryz.f135.results.toList (q38 [(.int .i64)])
def vx3 (s:List UInt8)(e:Int):List TV:=match e with|at_1=>frm 36 [(0,.str s),(1,.int .i64 at_1)]
def vx4 (s:List UInt8)(e:Int):List TOb:=match e with|at_1=>[]
noncomputable def km1 (N:Nat):(KT Int)→KT Int:=qy2 DR km3 (km2 N) (nv [5,4,0,1,1] Tryz.f135) km0 (vh7.loops.drop 1) (qd6 0 (qa6 DR km3 (km2 N) (nv [1,1,1] Tryz.f135) (vh7.loops.drop 1) (w0j N)))
def jb5 (N:Nat)(s:List UInt8)(K0:Int→Option Int)(e:Int):Option Int:=match e with|at_1=>bif decide (at_1<(s.length:Int)) then bif inR at_1 s.length then (yj0 N (q37 s at_1)).bind fun r1=>bif r1 then bif q24 (at_1+1) then K0 (at_1+1) else none else bif inR at_1 s.length then (wf6 N (q37 s at_1)).bind fun r2=>bif r2 then bif q24 (at_1+1) then K0 (at_1+1) else none else some at_1 else none else none else some at_1
theorem r6_run_l1 (N:Nat)(s:List UInt8)(n_:Nat)(e:Int):q55 (km1 N ) n_ ((vx3 s) e) ((vx4 s) e)=q80 (jb5 N s ) n_ e :=
 q36 (vx3 s) (vx4 s) (by intro K e;kernel_rfl) n_ e
def vh8 (N:Nat)(s:List UInt8)(at_:Int)(l1:(List UInt8)→Int→Option Int):Option Int:=bif decide (at_≥(s.length:Int)) then some at_ else bif inR at_ s.length then (yj0 N (q37 s at_)).bind fun r=>bif (!r) then some at_ else l1 s at_ else none
def xg3 (N:Nat)(s:List UInt8)(at_:Int):Option Int:=vh8 N s at_ (fun s e=>q80 (jb5 N s) N e)
noncomputable def q6s (N:Nat)(s:List UInt8)(at_:Int):Option (RT [(.int .i64)]):=q20 DR Tryz.prog N (k15 N) vh7 Tryz.f135 (q31 Tryz.f135) (RT [(.int .i64)]) (qb7 [.str,(.int .i64)] (s,at_,())) [] (q38 [(.int .i64)])
theorem w0k (N:Nat)(s:List UInt8)(at_:Int):q6s N s at_=xg3 N s at_:=by
 have h:q6s N s at_=vh8 N s at_ (fun s e=>q55 (km1 N ) N (vx3 s e) (vx4 s e)):=by kernel_rfl
 rw[h]
 simp only[xg3,r6_run_l1]<;>rfl
def q1g (m:(List UInt8)→Int→Option Int):Ent:=q29 [.str,(.int .i64)] [(.int .i64)] fun (x:Els [.str,(.int .i64)])=>m x.1 x.2.1
def ul4 (N:Nat):Ent:=q1g (xg3 N)
theorem km4 (N:Nat):q16 Tryz.prog 135 (ul4 N):=q10 (r6_run_Ts N) Tryz.func135 rfl (by kernel_rfl) fun (x:Els [.str,(.int .i64)])=>w0k N x.1 x.2.1
def v66 :LH:=⟨[(0,.str),(1,.int .i64)],[],[]⟩
def yd1 :LH:=⟨[(0,.str),(1,.int .i64)],[],[]⟩
def w59 :FH:=⟨[v66,yd1],[],[],[],false,[],[]⟩
noncomputable def x16 (N:Nat):q46:=tab [(136,j02 N)]
theorem kl4 (N:Nat):q13 Tryz.prog (x16 N):=q06 (j34 N)<|q25 _
noncomputable def wk4 :Sc:=w89 Tryz.prog w59
noncomputable def wk3 (N:Nat):Cfg:=⟨N,x16 N,0⟩
noncomputable def jn0 (N:Nat):Exit→KT Int:=fin Tryz.prog 0 Tryz.f137.results.toList (q38 [(.int .i64)])
def z85 (s:List UInt8)(e:Int):List TV:=match e with|at_1=>frm 52 [(0,.str s),(1,.int .i64 at_1)]
def z86 (s:List UInt8)(e:Int):List TOb:=match e with|at_1=>[]
def yd0 (s:List UInt8)(e:Int):List TV:=match e with|at_3=>frm 52 [(0,.str s),(1,.int .i64 at_3)]
def yd4 (s:List UInt8)(e:Int):List TOb:=match e with|at_3=>[]
def yc9 (s:List UInt8)(e:Int):List TV:=match e with|at_2=>frm 52 [(0,.str s),(1,.int .i64 at_2)]
def yd3 (s:List UInt8)(e:Int):List TOb:=match e with|at_2=>[]
noncomputable def v67 (N:Nat):(KT Int)→KT Int:=qy2 DR wk4 (wk3 N) (nv [5,4,0,1,1,1,1] Tryz.f137) yd1 (w59.loops.drop 2) (qd6 2 (qa6 DR wk4 (wk3 N) (nv [1,1,1,1,1] Tryz.f137) (w59.loops.drop 2) (jn0 N)))
def w58 (N:Nat)(s:List UInt8)(K1:Int→Option Int)(e:Int):Option Int:=match e with|at_2=>bif decide (at_2<(s.length:Int)) then bif inR at_2 s.length then (wf6 N (q37 s at_2)).bind fun r2=>bif r2 then bif q24 (at_2+1) then K1 (at_2+1) else none else some at_2 else none else some at_2
theorem kl6 (N:Nat)(s:List UInt8)(n_:Nat)(e:Int):q55 (v67 N ) n_ ((yc9 s) e) ((yd3 s) e)=q80 (w58 N s ) n_ e :=
 q36 (yc9 s) (yd3 s) (by intro K e;kernel_rfl) n_ e
noncomputable def v68 (N:Nat):(KT Int)→KT Int:=qy2 DR wk4 (wk3 N) (nv [5,4,0,1,1,1,1] Tryz.f137) yd1 (w59.loops.drop 2) (qd6 2 (qa6 DR wk4 (wk3 N) (nv [1,1,1,1,1] Tryz.f137) (w59.loops.drop 2) (jn0 N)))
def z84 (N:Nat)(s:List UInt8)(K1:Int→Option Int)(e:Int):Option Int:=match e with|at_3=>bif decide (at_3<(s.length:Int)) then bif inR at_3 s.length then (wf6 N (q37 s at_3)).bind fun r4=>bif r4 then bif q24 (at_3+1) then K1 (at_3+1) else none else some at_3 else none else some at_3
theorem kl7 (N:Nat)(s:List UInt8)(n_:Nat)(e:Int):q55 (v68 N ) n_ ((yd0 s) e) ((yd4 s) e)=q80 (z84 N s ) n_ e :=
 q36 (yd0 s) (yd4 s) (by intro K e;kernel_rfl) n_ e
noncomputable def yd2 (N:Nat):(KT Int)→KT Int:=qy2 DR wk4 (wk3 N) (nv [5,4,0,1] Tryz.f137) v66 (w59.loops.drop 1) (qd6 0 (qa6 DR wk4 (wk3 N) (nv [1,1] Tryz.f137) (w59.loops.drop 1) (jn0 N)))
def zn1 (N:Nat)(s:List UInt8)(l2 l3:(List UInt8)→Int→Option Int)(K0:Int→Option Int)(e:Int):Option Int:=match e with|at_1=>bif decide (at_1<(s.length:Int)) then bif inR at_1 s.length then (wf6 N (q37 s at_1)).bind fun r=>bif r then bif q24 (at_1+1) then K0 (at_1+1) else none else bif q24 (at_1+1) then bif decide ((at_1+1)≥(s.length:Int)) then some at_1 else bif inR at_1 s.length then bif ((q37 s at_1) != 46) then some at_1 else bif q24 (at_1+1) then bif inR (at_1+1) s.length then (wf6 N (q37 s (at_1+1))).bind fun r1=>bif (!r1) then some at_1 else bif q24 (at_1+1) then l2 s (at_1+1) else none else none else none else none else none else none else bif q24 (at_1+1) then bif decide ((at_1+1)≥(s.length:Int)) then some at_1 else bif inR at_1 s.length then bif ((q37 s at_1) != 46) then some at_1 else bif q24 (at_1+1) then bif inR (at_1+1) s.length then (wf6 N (q37 s (at_1+1))).bind fun r3=>bif (!r3) then some at_1 else bif q24 (at_1+1) then l3 s (at_1+1) else none else none else none else none else none
def z83 (N:Nat)(s:List UInt8)(K0:Int→Option Int)(e:Int):Option Int:=zn1 N s (fun s e=>q80 (w58 N s) N e) (fun s e=>q80 (z84 N s) N e) K0 e
theorem kl5 (N:Nat)(s:List UInt8)(n_:Nat)(e:Int):q55 (yd2 N ) n_ ((z85 s) e) ((z86 s) e)=q80 (z83 N s ) n_ e :=
 q36 (z85 s) (z86 s) (by
  intro K e
  have h:(yd2 N ) K ((z85 s) e) ((z86 s) e)=zn1 N s (fun s e=>q55 (v67 N ) N (yc9 s e) (yd3 s e)) (fun s e=>q55 (v68 N ) N (yd0 s e) (yd4 s e)) (fun e=>K ((z85 s) e) ((z86 s) e)) e:=by kernel_rfl
  rw[h]
  simp only[z83,kl6,kl7]<;>rfl) n_ e
def jn1 (N:Nat)(s:List UInt8)(at_:Int)(l1:(List UInt8)→Int→Option Int):Option Int:=l1 s at_
def z82 (N:Nat)(s:List UInt8)(at_:Int):Option Int:=jn1 N s at_ (fun s e=>q80 (z83 N s) N e)
noncomputable def vw7 (N:Nat)(s:List UInt8)(at_:Int):Option (RT [(.int .i64)]):=q20 DR Tryz.prog N (x16 N) w59 Tryz.f137 (q31 Tryz.f137) (RT [(.int .i64)]) (qb7 [.str,(.int .i64)] (s,at_,())) [] (q38 [(.int .i64)])
theorem k12 (N:Nat)(s:List UInt8)(at_:Int):vw7 N s at_=z82 N s at_:=by
 have h:vw7 N s at_=jn1 N s at_ (fun s e=>q55 (yd2 N ) N (z85 s e) (z86 s e)):=by kernel_rfl
 rw[h]
 simp only[z82,kl5]<;>rfl
def ub5 (m:(List UInt8)→Int→Option Int):Ent:=q29 [.str,(.int .i64)] [(.int .i64)] fun (x:Els [.str,(.int .i64)])=>m x.1 x.2.1
def xg1 (N:Nat):Ent:=ub5 (z82 N)
theorem vw8 (N:Nat):q16 Tryz.prog 137 (xg1 N):=q10 (kl4 N) Tryz.func137 rfl (by kernel_rfl) fun (x:Els [.str,(.int .i64)])=>k12 N x.1 x.2.1
def q6c :LH:=⟨[(0,.int .i64),(2,.asis),(3,.bool),(4,.own (.int .i64) 504 3 1)],[],[.cells [.bool,.lst (.int .i64)]]⟩
def uy3 :FH:=⟨[q6c],[],[],[],false,[],[]⟩
noncomputable def q0d (N:Nat):q46:=tab []
theorem r1_Of_Ts (N:Nat):q13 Tryz.prog (q0d N):=q25 _
noncomputable def q6f :Sc:=w89 Tryz.prog uy3
noncomputable def q6e (N:Nat):Cfg:=⟨N,q0d N,0⟩
noncomputable def r1_Of_fin (N:Nat):Exit→KT qa3:=fin Tryz.prog 0 Tryz.f209.results.toList (q38 [qm8])
def uy2 (neg qa7:Bool)(z99:List Int)(e:Int×List Int):List TV:=match e with|(n1,d)=>frm 25 [(0,.int .i64 n1),(2,.ref 0 0),(3,.bool neg),(4,.tl (.int .i64) d (.own 504 3 1))]
def uy4 (neg qa7:Bool)(z99:List Int)(e:Int×List Int):List TOb:=match e with|(n1,d)=>[.cells [.bool qa7,.tl (.int .i64) z99 .unk] 265 true]
noncomputable def q6d (N:Nat):(KT qa3)→KT qa3:=qy2 DR q6f (q6e N) (nv [5,4,0,1,1,1] Tryz.f209) q6c (uy3.loops.drop 1) (qd6 0 (qa6 DR q6f (q6e N) (nv [1,1,1,1] Tryz.f209) (uy3.loops.drop 1) (r1_Of_fin N)))
def uy1 (N:Nat)(neg qa7:Bool)(z99:List Int)(K0:(Int×List Int)→Option qa3)(e:Int×List Int):Option qa3:=match e with|(n1,d)=>bif (n1 != 0) then bif decide ((Int.tmod n1 10000)<0) then bif q24 (0-(Int.tmod n1 10000)) then bif qr1 (d.length+[0-(Int.tmod n1 10000)].length) 17592186044416 then bif q24 (Int.tdiv n1 10000) then K0 (Int.tdiv n1 10000,(d++[0-(Int.tmod n1 10000)])) else none else none else none else bif qr1 (d.length+[Int.tmod n1 10000].length) 17592186044416 then bif q24 (Int.tdiv n1 10000) then K0 (Int.tdiv n1 10000,(d++[Int.tmod n1 10000])) else none else none else some (neg,d,())
theorem r1_Of_l1 (N:Nat)(neg qa7:Bool)(z99:List Int)(n_:Nat)(e:Int×List Int):q55 (q6d N ) n_ ((uy2 neg qa7 z99) e) ((uy4 neg qa7 z99) e)=q80 (uy1 N neg qa7 z99 ) n_ e :=
 q36 (uy2 neg qa7 z99) (uy4 neg qa7 z99) (by intro K e;obtain⟨n1,d⟩:=e;kernel_rfl) n_ e
def q0e (N:Nat)(n:Int)(l1:Bool→Bool→(List Int)→(Int×List Int)→Option qa3):Option qa3:=l1 (decide (n<0)) false [] (n,[])
def w23 (N:Nat)(n:Int):Option qa3:=q0e N n (fun neg qa7 z99 e=>q80 (uy1 N neg qa7 z99) N e)
noncomputable def r1_Of_C (N:Nat)(n:Int):Option (RT [qm8]):=q20 DR Tryz.prog N (q0d N) uy3 Tryz.f209 (q31 Tryz.f209) (RT [qm8]) (qb7 [(.int .i64)] (n,())) [] (q38 [qm8])
theorem r1_Of_run (N:Nat)(n:Int):r1_Of_C N n=w23 N n:=by
 have h:r1_Of_C N n=q0e N n (fun neg qa7 z99 e=>q55 (q6d N ) N (uy2 neg qa7 z99 e) (uy4 neg qa7 z99 e)):=by kernel_rfl
 rw[h]
 simp only[w23,r1_Of_l1]<;>rfl
def q9i (m:Int→Option qa3):Ent:=q29 [(.int .i64)] [qm8] fun (x:Els [(.int .i64)])=>m x.1
def ja3 (N:Nat):Ent:=q9i (w23 N)
theorem zt8 (N:Nat):q16 Tryz.prog 209 (ja3 N):=q10 (r1_Of_Ts N) Tryz.func209 rfl (by kernel_rfl) fun (x:Els [(.int .i64)])=>r1_Of_run N x.1
def q6m :LH:=⟨[(0,.lst (.int .i64)),(1,.lst (.int .i64)),(5,.own (.int .i64) 505 3 1),(6,.int .i64),(7,.int .i64)],[],[]⟩
def uz4 :FH:=⟨[q6m],[],[],[],false,[],[]⟩
noncomputable def q0q (N:Nat):q46:=tab []
theorem r1_up_Ts (N:Nat):q13 Tryz.prog (q0q N):=q25 _
noncomputable def q6p :Sc:=w89 Tryz.prog uz4
noncomputable def q6o (N:Nat):Cfg:=⟨N,q0q N,0⟩
noncomputable def r1_up_fin (N:Nat):Exit→KT (List Int):=fin Tryz.prog 0 Tryz.f276.results.toList (q38 [(.list (.int .i64))])
def uz3 (a b:List Int)(e:List Int×Int×Int):List TV:=match e with|(out,more,i)=>frm 52 [(0,.tl (.int .i64) a .unk),(1,.tl (.int .i64) b .unk),(5,.tl (.int .i64) out (.own 505 3 1)),(6,.int .i64 more),(7,.int .i64 i)]
def uz5 (a b:List Int)(e:List Int×Int×Int):List TOb:=match e with|(out,more,i)=>[]
noncomputable def q6n (N:Nat):(KT (List Int))→KT (List Int):=qy2 DR q6p (q6o N) (nv [5,4,1,0,1,1,1] Tryz.f276) q6m (uz4.loops.drop 1) (qd6 0 (qa6 DR q6p (q6o N) (nv [1,1,1,1] Tryz.f276) (uz4.loops.drop 1) (r1_up_fin N)))
def uz2 (N:Nat)(a b:List Int)(K0:(List Int×Int×Int)→Option (List Int))(e:List Int×Int×Int):Option (List Int):=match e with|(out,more,i)=>bif decide (i<(a.length:Int)) then bif decide (i<(a.length:Int)) then bif inR i a.length then bif q24 (more+(q17 a i 0)) then bif decide (i<(b.length:Int)) then bif inR i b.length then bif q24 ((more+(q17 a i 0))+(q17 b i 0)) then bif qr1 (out.length+[Int.tmod ((more+(q17 a i 0))+(q17 b i 0)) 10000].length) 17592186044416 then bif q24 (Int.tdiv ((more+(q17 a i 0))+(q17 b i 0)) 10000) then bif q24 (i+1) then K0 ((out++[Int.tmod ((more+(q17 a i 0))+(q17 b i 0)) 10000]),Int.tdiv ((more+(q17 a i 0))+(q17 b i 0)) 10000,i+1) else none else none else none else none else none else bif qr1 (out.length+[Int.tmod (more+(q17 a i 0)) 10000].length) 17592186044416 then bif q24 (Int.tdiv (more+(q17 a i 0)) 10000) then bif q24 (i+1) then K0 ((out++[Int.tmod (more+(q17 a i 0)) 10000]),Int.tdiv (more+(q17 a i 0)) 10000,i+1) else none else none else none else none else none else bif decide (i<(b.length:Int)) then bif inR i b.length then bif q24 (more+(q17 b i 0)) then bif qr1 (out.length+[Int.tmod (more+(q17 b i 0)) 10000].length) 17592186044416 then bif q24 (Int.tdiv (more+(q17 b i 0)) 10000) then bif q24 (i+1) then K0 ((out++[Int.tmod (more+(q17 b i 0)) 10000]),Int.tdiv (more+(q17 b i 0)) 10000,i+1) else none else none else none else none else none else bif qr1 (out.length+[Int.tmod more 10000].length) 17592186044416 then bif q24 (Int.tdiv more 10000) then bif q24 (i+1) then K0 ((out++[Int.tmod more 10000]),Int.tdiv more 10000,i+1) else none else none else none else bif decide (i<(b.length:Int)) then bif decide (i<(a.length:Int)) then bif inR i a.length then bif q24 (more+(q17 a i 0)) then bif decide (i<(b.length:Int)) then bif inR i b.length then bif q24 ((more+(q17 a i 0))+(q17 b i 0)) then bif qr1 (out.length+[Int.tmod ((more+(q17 a i 0))+(q17 b i 0)) 10000].length) 17592186044416 then bif q24 (Int.tdiv ((more+(q17 a i 0))+(q17 b i 0)) 10000) then bif q24 (i+1) then K0 ((out++[Int.tmod ((more+(q17 a i 0))+(q17 b i 0)) 10000]),Int.tdiv ((more+(q17 a i 0))+(q17 b i 0)) 10000,i+1) else none else none else none else none else none else bif qr1 (out.length+[Int.tmod (more+(q17 a i 0)) 10000].length) 17592186044416 then bif q24 (Int.tdiv (more+(q17 a i 0)) 10000) then bif q24 (i+1) then K0 ((out++[Int.tmod (more+(q17 a i 0)) 10000]),Int.tdiv (more+(q17 a i 0)) 10000,i+1) else none else none else none else none else none else bif decide (i<(b.length:Int)) then bif inR i b.length then bif q24 (more+(q17 b i 0)) then bif qr1 (out.length+[Int.tmod (more+(q17 b i 0)) 10000].length) 17592186044416 then bif q24 (Int.tdiv (more+(q17 b i 0)) 10000) then bif q24 (i+1) then K0 ((out++[Int.tmod (more+(q17 b i 0)) 10000]),Int.tdiv (more+(q17 b i 0)) 10000,i+1) else none else none else none else none else none else bif qr1 (out.length+[Int.tmod more 10000].length) 17592186044416 then bif q24 (Int.tdiv more 10000) then bif q24 (i+1) then K0 ((out++[Int.tmod more 10000]),Int.tdiv more 10000,i+1) else none else none else none else bif decide (more>0) then bif decide (i<(a.length:Int)) then bif inR i a.length then bif q24 (more+(q17 a i 0)) then bif decide (i<(b.length:Int)) then bif inR i b.length then bif q24 ((more+(q17 a i 0))+(q17 b i 0)) then bif qr1 (out.length+[Int.tmod ((more+(q17 a i 0))+(q17 b i 0)) 10000].length) 17592186044416 then bif q24 (Int.tdiv ((more+(q17 a i 0))+(q17 b i 0)) 10000) then bif q24 (i+1) then K0 ((out++[Int.tmod ((more+(q17 a i 0))+(q17 b i 0)) 10000]),Int.tdiv ((more+(q17 a i 0))+(q17 b i 0)) 10000,i+1) else none else none else none else none else none else bif qr1 (out.length+[Int.tmod (more+(q17 a i 0)) 10000].length) 17592186044416 then bif q24 (Int.tdiv (more+(q17 a i 0)) 10000) then bif q24 (i+1) then K0 ((out++[Int.tmod (more+(q17 a i 0)) 10000]),Int.tdiv (more+(q17 a i 0)) 10000,i+1) else none else none else none else none else none else bif decide (i<(b.length:Int)) then bif inR i b.length then bif q24 (more+(q17 b i 0)) then bif qr1 (out.length+[Int.tmod (more+(q17 b i 0)) 10000].length) 17592186044416 then bif q24 (Int.tdiv (more+(q17 b i 0)) 10000) then bif q24 (i+1) then K0 ((out++[Int.tmod (more+(q17 b i 0)) 10000]),Int.tdiv (more+(q17 b i 0)) 10000,i+1) else none else none else none else none else none else bif qr1 (out.length+[Int.tmod more 10000].length) 17592186044416 then bif q24 (Int.tdiv more 10000) then bif q24 (i+1) then K0 ((out++[Int.tmod more 10000]),Int.tdiv more 10000,i+1) else none else none else none else some out
theorem r1_up_l1 (N:Nat)(a b:List Int)(n_:Nat)(e:List Int×Int×Int):q55 (q6n N ) n_ ((uz3 a b) e) ((uz5 a b) e)=q80 (uz2 N a b ) n_ e :=
 q36 (uz3 a b) (uz5 a b) (by intro K e;obtain⟨out,more,i⟩:=e;kernel_rfl) n_ e
def q0r (N:Nat)(a b:List Int)(l1:(List Int)→(List Int)→(List Int×Int×Int)→Option (List Int)):Option (List Int):=l1 a b ([],0,0)
def q0p (N:Nat)(a b:List Int):Option (List Int):=q0r N a b (fun a b e=>q80 (uz2 N a b) N e)
noncomputable def r1_up_C (N:Nat)(a b:List Int):Option (RT [(.list (.int .i64))]):=q20 DR Tryz.prog N (q0q N) uz4 Tryz.f276 (q31 Tryz.f276) (RT [(.list (.int .i64))]) (qb7 [(.list (.int .i64)),(.list (.int .i64))] (a,b,())) [] (q38 [(.list (.int .i64))])
theorem r1_up_run (N:Nat)(a b:List Int):r1_up_C N a b=q0p N a b:=by
 have h:r1_up_C N a b=q0r N a b (fun a b e=>q55 (q6n N ) N (uz3 a b e) (uz5 a b e)):=by kernel_rfl
 rw[h]
 simp only[q0p,r1_up_l1]<;>rfl
def q9r (m:(List Int)→(List Int)→Option (List Int)):Ent:=q29 [(.list (.int .i64)),(.list (.int .i64))] [(.list (.int .i64))] fun (x:Els [(.list (.int .i64)),(.list (.int .i64))])=>m x.1 x.2.1
def vu0 (N:Nat):Ent:=q9r (q0p N)
theorem vu1 (N:Nat):q16 Tryz.prog 276 (vu0 N):=q10 (r1_up_Ts N) Tryz.func276 rfl (by kernel_rfl) fun (x:Els [(.list (.int .i64)),(.list (.int .i64))])=>r1_up_run N x.1 x.2.1
def uj4 :LH:=⟨[(0,.bool),(1,.lst (.int .i64)),(4,.asis)],[],[.cells [.bool,.lst (.int .i64)]]⟩
def xe8 :FH:=⟨[uj4],[],[],[],false,[],[]⟩
noncomputable def vt8 (N:Nat):q46:=tab []
theorem q9p (N:Nat):q13 Tryz.prog (vt8 N):=q25 _
noncomputable def uj7 :Sc:=w89 Tryz.prog xe8
noncomputable def uj6 (N:Nat):Cfg:=⟨N,vt8 N,0⟩
noncomputable def q0n (N:Nat):Exit→KT qa3:=fin Tryz.prog 0 Tryz.f268.results.toList (q38 [qm8])
def xr4 (neg q63:Bool)(qm7 e:List Int):List TV:=match e with|d1=>frm 30 [(0,.bool neg),(1,.tl (.int .i64) d1 .unk),(4,.ref 0 0)]
def xr5 (neg q63:Bool)(qm7 e:List Int):List TOb:=match e with|d1=>[.cells [.bool q63,.tl (.int .i64) qm7 .unk] 265 true]
noncomputable def uj5 (N:Nat):(KT qa3)→KT qa3:=qy2 DR uj7 (uj6 N) (nv [5,4,0,1] Tryz.f268) uj4 (xe8.loops.drop 1) (qd6 0 (qa6 DR uj7 (uj6 N) (nv [1,1] Tryz.f268) (xe8.loops.drop 1) (q0n N)))
def xr3 (N:Nat)(neg q63:Bool)(qm7:List Int)(K0:(List Int)→Option qa3)(e:List Int):Option qa3:=match e with|d1=>bif decide ((d1.length:Int)>0) then bif q24 ((d1.length:Int)-1) then bif inR ((d1.length:Int)-1) d1.length then bif ((q17 d1 ((d1.length:Int)-1) 0)==0) then bif q24 ((d1.length:Int)-1) then bif upTo ((d1.length:Int)-1) d1.length then K0 (d1.take ((d1.length:Int)-1).toNat) else none else none else bif neg then some (decide ((d1.length:Int)>0),d1,()) else some (false,d1,()) else none else none else bif neg then some (decide ((d1.length:Int)>0),d1,()) else some (false,d1,())
theorem q9q (N:Nat)(neg q63:Bool)(qm7:List Int)(n_:Nat)(e:List Int):q55 (uj5 N ) n_ ((xr4 neg q63 qm7) e) ((xr5 neg q63 qm7) e)=q80 (xr3 N neg q63 qm7 ) n_ e :=
 q36 (xr4 neg q63 qm7) (xr5 neg q63 qm7) (by intro K e;kernel_rfl) n_ e
def vt9 (N:Nat)(neg:Bool)(d:List Int)(l1:Bool→Bool→(List Int)→(List Int)→Option qa3):Option qa3:=l1 neg false [] d
def wo9 (N:Nat)(neg:Bool)(d:List Int):Option qa3:=vt9 N neg d (fun neg q63 qm7 e=>q80 (xr3 N neg q63 qm7) N e)
noncomputable def ki6 (N:Nat)(neg:Bool)(d:List Int):Option (RT [qm8]):=q20 DR Tryz.prog N (vt8 N) xe8 Tryz.f268 (q31 Tryz.f268) (RT [qm8]) (qb7 [.bool,(.list (.int .i64))] (neg,d,())) [] (q38 [qm8])
theorem q0o (N:Nat)(neg:Bool)(d:List Int):ki6 N neg d=wo9 N neg d:=by
 have h:ki6 N neg d=vt9 N neg d (fun neg q63 qm7 e=>q55 (uj5 N ) N (xr4 neg q63 qm7 e) (xr5 neg q63 qm7 e)):=by kernel_rfl
 rw[h]
 simp only[wo9,q9q]<;>rfl
def ki7 (m:Bool→(List Int)→Option qa3):Ent:=q29 [.bool,(.list (.int .i64))] [qm8] fun (x:Els [.bool,(.list (.int .i64))])=>m x.1 x.2.1
def zu0 (N:Nat):Ent:=ki7 (wo9 N)
theorem zn0 (N:Nat):q16 Tryz.prog 268 (zu0 N):=q10 (q9p N) Tryz.func268 rfl (by kernel_rfl) fun (x:Els [.bool,(.list (.int .i64))])=>q0o N x.1 x.2.1
def vs3 :LH:=⟨[(2,.asis),(3,.asis),(4,.asis),(5,.asis),(6,.int .i64)],[],[.cells [.bool,.lst (.int .i64)],.cells [.bool,.lst (.int .i64)],.cells [.bool,.lst (.int .i64)],.cells [.bool,.lst (.int .i64)]]⟩
def kh5 :LH:=⟨[(2,.asis),(3,.asis),(4,.asis),(5,.asis),(6,.int .i64),(7,.own (.int .i64) 507 3 1),(8,.int .i64),(9,.int .i64)],[],[.cells [.bool,.lst (.int .i64)],.cells [.bool,.lst (.int .i64)],.cells [.bool,.lst (.int .i64)],.cells [.bool,.lst (.int .i64)]]⟩
def zz2 :FH:=⟨[vs3,kh5],[],[(11,⟨12,69,0,[],[]⟩)],[],false,[],[]⟩
noncomputable def ux8 (N:Nat):q46:=tab [(276,vu0 N),(268,zu0 N)]
theorem r1_Mul_Ts (N:Nat):q13 Tryz.prog (ux8 N):=q06 (vu1 N)<|q06 (zn0 N)<|q25 _
noncomputable def ja2 :Sc:=w89 Tryz.prog zz2
noncomputable def zt7 (N:Nat):Cfg:=⟨N,ux8 N,0⟩
noncomputable def ui5 (N:Nat):Exit→KT qa3:=fin Tryz.prog 0 Tryz.f247.results.toList (q38 [qm8])
def ja0 (q32:Bool)(x_D:List Int)(qa2:Bool)(y_D:List Int)(q63:Bool)(qm7:List Int)(e:Int×Bool×List Int):List TV:=match e with|(i,qv6,zx0)=>frm 69 [(2,.ref 0 0),(3,.ref 1 0),(4,.ref 2 0),(5,.ref 3 0),(6,.int .i64 i)]
def ja1 (q32:Bool)(x_D:List Int)(qa2:Bool)(y_D:List Int)(q63:Bool)(qm7:List Int)(e:Int×Bool×List Int):List TOb:=match e with|(i,qv6,zx0)=>[.cells [.bool q32,.tl (.int .i64) x_D .unk] 265 true,.cells [.bool qa2,.tl (.int .i64) y_D .unk] 265 true,.cells [.bool q63,.tl (.int .i64) qm7 .unk] 265 true,.cells [.bool qv6,.tl (.int .i64) zx0 .unk] 265 true]
def vr9 (i:Int)(q32:Bool)(x_D:List Int)(qa2:Bool)(y_D:List Int)(q63:Bool)(qm7:List Int)(qv6:Bool)(zx0:List Int)(e:List Int×Int×Int):List TV:=match e with|(row,more,k)=>frm 69 [(2,.ref 0 0),(3,.ref 1 0),(4,.ref 2 0),(5,.ref 3 0),(6,.int .i64 i),(7,.tl (.int .i64) row (.own 507 3 1)),(8,.int .i64 more),(9,.int .i64 k)]
def vs5 (i:Int)(q32:Bool)(x_D:List Int)(qa2:Bool)(y_D:List Int)(q63:Bool)(qm7:List Int)(qv6:Bool)(zx0:List Int)(e:List Int×Int×Int):List TOb:=match e with|(row,more,k)=>[.cells [.bool q32,.tl (.int .i64) x_D .unk] 265 true,.cells [.bool qa2,.tl (.int .i64) y_D .unk] 265 true,.cells [.bool q63,.tl (.int .i64) qm7 .unk] 265 true,.cells [.bool qv6,.tl (.int .i64) zx0 .unk] 265 true]
noncomputable def kh6 (N:Nat)(K0r:KT qa3):(KT qa3)→KT qa3:=qy2 DR ja2 (zt7 N) (nv [5,4,1,0,1,1,4,0,1,5,4,1,0,1,1] Tryz.f247) kh5 (zz2.loops.drop 2) (qd6 2 (qa6 DR ja2 (zt7 N) (nv [1,1,1,4,0,1,5,4,1,0,1,1] Tryz.f247) (zz2.loops.drop 2) (qd6 1 (qa6 DR ja2 (zt7 N) (nv [1,1,5,4,1,0,1,1] Tryz.f247) (zz2.loops.drop 2) (xp4 (zt7 N) vs3 (qd6 0 (qa6 DR ja2 (zt7 N) (nv [1,1,1] Tryz.f247) (zz2.loops.drop 2) (ui5 N))) K0r)))))
def vr8 (N:Nat)(i:Int)(q32:Bool)(x_D:List Int)(qa2:Bool)(y_D:List Int)(q63:Bool)(qm7:List Int)(qv6:Bool)(zx0:List Int)(K0:(Int×Bool×List Int)→Option qa3)(K1:(List Int×Int×Int)→Option qa3)(e:List Int×Int×Int):Option qa3:=match e with|(row,more,k)=>bif decide (k<(x_D.length:Int)) then bif decide (k<(x_D.length:Int)) then bif inR k x_D.length then bif inR i y_D.length then bif q24 ((q17 x_D k 0)*(q17 y_D i 0)) then bif q24 (more+((q17 x_D k 0)*(q17 y_D i 0))) then bif qr1 (row.length+[Int.tmod (more+((q17 x_D k 0)*(q17 y_D i 0))) 10000].length) 17592186044416 then bif q24 (Int.tdiv (more+((q17 x_D k 0)*(q17 y_D i 0))) 10000) then bif q24 (k+1) then K1 ((row++[Int.tmod (more+((q17 x_D k 0)*(q17 y_D i 0))) 10000]),Int.tdiv (more+((q17 x_D k 0)*(q17 y_D i 0))) 10000,k+1) else none else none else none else none else none else none else none else bif qr1 (row.length+[Int.tmod more 10000].length) 17592186044416 then bif q24 (Int.tdiv more 10000) then bif q24 (k+1) then K1 ((row++[Int.tmod more 10000]),Int.tdiv more 10000,k+1) else none else none else none else bif decide (more>0) then bif decide (k<(x_D.length:Int)) then bif inR k x_D.length then bif inR i y_D.length then bif q24 ((q17 x_D k 0)*(q17 y_D i 0)) then bif q24 (more+((q17 x_D k 0)*(q17 y_D i 0))) then bif qr1 (row.length+[Int.tmod (more+((q17 x_D k 0)*(q17 y_D i 0))) 10000].length) 17592186044416 then bif q24 (Int.tdiv (more+((q17 x_D k 0)*(q17 y_D i 0))) 10000) then bif q24 (k+1) then K1 ((row++[Int.tmod (more+((q17 x_D k 0)*(q17 y_D i 0))) 10000]),Int.tdiv (more+((q17 x_D k 0)*(q17 y_D i 0))) 10000,k+1) else none else none else none else none else none else none else none else bif qr1 (row.length+[Int.tmod more 10000].length) 17592186044416 then bif q24 (Int.tdiv more 10000) then bif q24 (k+1) then K1 ((row++[Int.tmod more 10000]),Int.tdiv more 10000,k+1) else none else none else none else (q0p N zx0 row).bind fun r=>(wo9 N false r).bind fun r1=>bif q24 (i+1) then K0 (i+1,r1.1,r1.2.1) else none
theorem r1_Mul_l2 (N:Nat)(i:Int)(q32:Bool)(x_D:List Int)(qa2:Bool)(y_D:List Int)(q63:Bool)(qm7:List Int)(qv6:Bool)(zx0:List Int)(K0r:KT qa3)(n_:Nat)(e:List Int×Int×Int):q55 (kh6 N K0r) n_ ((vr9 i q32 x_D qa2 y_D q63 qm7 qv6 zx0) e) ((vs5 i q32 x_D qa2 y_D q63 qm7 qv6 zx0) e)=q80 (vr8 N i q32 x_D qa2 y_D q63 qm7 qv6 zx0 (fun a_=>K0r (ja0 q32 x_D qa2 y_D q63 qm7 a_) (ja1 q32 x_D qa2 y_D q63 qm7 a_))) n_ e :=
 q36 (vr9 i q32 x_D qa2 y_D q63 qm7 qv6 zx0) (vs5 i q32 x_D qa2 y_D q63 qm7 qv6 zx0) (by intro K e;obtain⟨row,more,k⟩:=e;kernel_rfl) n_ e
noncomputable def vs4 (N:Nat):(KT qa3)→KT qa3:=qy2 DR ja2 (zt7 N) (nv [5,4,1,0,1,1] Tryz.f247) vs3 (zz2.loops.drop 1) (qd6 0 (qa6 DR ja2 (zt7 N) (nv [1,1,1] Tryz.f247) (zz2.loops.drop 2) (ui5 N)))
def xq3 (N:Nat)(q32:Bool)(x_D:List Int)(qa2:Bool)(y_D:List Int)(q63:Bool)(qm7:List Int)(l2:Int→Bool→(List Int)→Bool→(List Int)→Bool→(List Int)→Bool→(List Int)→(List Int×Int×Int)→Option qa3)(K0:(Int×Bool×List Int)→Option qa3)(e:Int×Bool×List Int):Option qa3:=match e with|(i,qv6,zx0)=>bif decide (i<(y_D.length:Int)) then bif jz5 8 i i then l2 i q32 x_D qa2 y_D q63 qm7 qv6 zx0 ((List.replicate i.toNat 0),0,0) else none else (wo9 N (!(q32==qa2)) zx0).bind fun r2=>some r2
def xe4 (N:Nat)(q32:Bool)(x_D:List Int)(qa2:Bool)(y_D:List Int)(q63:Bool)(qm7:List Int)(K0:(Int×Bool×List Int)→Option qa3)(e:Int×Bool×List Int):Option qa3:=xq3 N q32 x_D qa2 y_D q63 qm7 (fun i q32 x_D qa2 y_D q63 qm7 qv6 zx0 e=>q80 (vr8 N i q32 x_D qa2 y_D q63 qm7 qv6 zx0 K0) N e) K0 e
theorem r1_Mul_l1 (N:Nat)(q32:Bool)(x_D:List Int)(qa2:Bool)(y_D:List Int)(q63:Bool)(qm7:List Int)(n_:Nat)(e:Int×Bool×List Int):q55 (vs4 N ) n_ ((ja0 q32 x_D qa2 y_D q63 qm7) e) ((ja1 q32 x_D qa2 y_D q63 qm7) e)=q80 (xe4 N q32 x_D qa2 y_D q63 qm7 ) n_ e :=
 q36 (ja0 q32 x_D qa2 y_D q63 qm7) (ja1 q32 x_D qa2 y_D q63 qm7) (by
  intro K e
  have h:(vs4 N ) K ((ja0 q32 x_D qa2 y_D q63 qm7) e) ((ja1 q32 x_D qa2 y_D q63 qm7) e)=xq3 N q32 x_D qa2 y_D q63 qm7 (fun i q32 x_D qa2 y_D q63 qm7 qv6 zx0 e=>q55 (kh6 N K) N (vr9 i q32 x_D qa2 y_D q63 qm7 qv6 zx0 e) (vs5 i q32 x_D qa2 y_D q63 qm7 qv6 zx0 e)) (fun e=>K ((ja0 q32 x_D qa2 y_D q63 qm7) e) ((ja1 q32 x_D qa2 y_D q63 qm7) e)) e:=by obtain⟨i,qv6,zx0⟩:=e;kernel_rfl
  rw[h]
  simp only[xe4,r1_Mul_l2]<;>rfl) n_ e
def ux9 (N:Nat)(x y:qa3)(l1:Bool→(List Int)→Bool→(List Int)→Bool→(List Int)→(Int×Bool×List Int)→Option qa3):Option qa3:=l1 x.1 x.2.1 y.1 y.2.1 false [] (0,false,[])
def wk0 (N:Nat)(x y:qa3):Option qa3:=ux9 N x y (fun q32 x_D qa2 y_D q63 qm7 e=>q80 (xe4 N q32 x_D qa2 y_D q63 qm7) N e)
noncomputable def q6a (N:Nat)(x y:qa3):Option (RT [qm8]):=q20 DR Tryz.prog N (ux8 N) zz2 Tryz.f247 (q31 Tryz.f247) (RT [qm8]) (qb7 [qm8,qm8] (x,y,())) [] (q38 [qm8])
theorem q9g (N:Nat)(x y:qa3):q6a N x y=wk0 N x y:=by
 have h:q6a N x y=ux9 N x y (fun q32 x_D qa2 y_D q63 qm7 e=>q55 (vs4 N ) N (ja0 q32 x_D qa2 y_D q63 qm7 e) (ja1 q32 x_D qa2 y_D q63 qm7 e)):=by kernel_rfl
 rw[h]
 simp only[wk0,r1_Mul_l1]<;>rfl
def kz9 (m:qa3→qa3→Option qa3):Ent:=q29 [qm8,qm8] [qm8] fun (x:Els [qm8,qm8])=>m x.1 x.2.1
def xq4 (N:Nat):Ent:=kz9 (wk0 N)
theorem v48 (N:Nat):q16 Tryz.prog 247 (xq4 N):=q10 (r1_Mul_Ts N) Tryz.func247 rfl (by kernel_rfl) fun (x:Els [qm8,qm8])=>q9g N x.1 x.2.1
def q6i :LH:=⟨[(0,.lst (.int .i64)),(1,.lst (.int .i64)),(5,.int .i64)],[],[]⟩
def uy9 :FH:=⟨[q6i],[],[(6,⟨8,41,0,[],[]⟩),(7,⟨8,41,0,[],[]⟩)],[],false,[],[]⟩
noncomputable def q0h (N:Nat):q46:=tab []
theorem r1_by_Ts (N:Nat):q13 Tryz.prog (q0h N):=q25 _
noncomputable def q6l :Sc:=w89 Tryz.prog uy9
noncomputable def q6k (N:Nat):Cfg:=⟨N,q0h N,0⟩
noncomputable def r1_by_fin (N:Nat):Exit→KT Int:=fin Tryz.prog 0 Tryz.f277.results.toList (q38 [(.int .i64)])
def uy8 (a b:List Int)(e:Int):List TV:=match e with|i=>frm 41 [(0,.tl (.int .i64) a .unk),(1,.tl (.int .i64) b .unk),(5,.int .i64 i)]
def uz0 (a b:List Int)(e:Int):List TOb:=match e with|i=>[]
noncomputable def q6j (N:Nat):(KT Int)→KT Int:=qy2 DR q6l (q6k N) (nv [5,4,1,0,1,1] Tryz.f277) q6i (uy9.loops.drop 1) (qd6 0 (qa6 DR q6l (q6k N) (nv [1,1,1] Tryz.f277) (uy9.loops.drop 1) (r1_by_fin N)))
def uy7 (N:Nat)(a b:List Int)(K0:Int→Option Int)(e:Int):Option Int:=match e with|i=>bif decide (i≥0) then bif inR i a.length then bif inR i b.length then bif ((q17 a i 0) != (q17 b i 0)) then bif inR i a.length then bif inR i b.length then bif q24 ((q17 a i 0)-(q17 b i 0)) then some ((q17 a i 0)-(q17 b i 0)) else none else none else none else bif q24 (i-1) then K0 (i-1) else none else none else none else some 0
theorem r1_by_l1 (N:Nat)(a b:List Int)(n_:Nat)(e:Int):q55 (q6j N ) n_ ((uy8 a b) e) ((uz0 a b) e)=q80 (uy7 N a b ) n_ e :=
 q36 (uy8 a b) (uz0 a b) (by intro K e;kernel_rfl) n_ e
def q0j (N:Nat)(a b:List Int)(l1:(List Int)→(List Int)→Int→Option Int):Option Int:=bif ((a.length:Int) != (b.length:Int)) then bif q24 ((a.length:Int)-(b.length:Int)) then some ((a.length:Int)-(b.length:Int)) else none else bif q24 ((a.length:Int)-1) then l1 a b ((a.length:Int)-1) else none
def q9l (N:Nat)(a b:List Int):Option Int:=q0j N a b (fun a b e=>q80 (uy7 N a b) N e)
noncomputable def r1_by_C (N:Nat)(a b:List Int):Option (RT [(.int .i64)]):=q20 DR Tryz.prog N (q0h N) uy9 Tryz.f277 (q31 Tryz.f277) (RT [(.int .i64)]) (qb7 [(.list (.int .i64)),(.list (.int .i64))] (a,b,())) [] (q38 [(.int .i64)])
theorem r1_by_run (N:Nat)(a b:List Int):r1_by_C N a b=q9l N a b:=by
 have h:r1_by_C N a b=q0j N a b (fun a b e=>q55 (q6j N ) N (uy8 a b e) (uz0 a b e)):=by kernel_rfl
 rw[h]
 simp only[q9l,r1_by_l1]<;>rfl
def q9m (m:(List Int)→(List Int)→Option Int):Ent:=q29 [(.list (.int .i64)),(.list (.int .i64))] [(.int .i64)] fun (x:Els [(.list (.int .i64)),(.list (.int .i64))])=>m x.1 x.2.1
def ki3 (N:Nat):Ent:=q9m (q9l N)
theorem q0i (N:Nat):q16 Tryz.prog 277 (ki3 N):=q10 (r1_by_Ts N) Tryz.func277 rfl (by kernel_rfl) fun (x:Els [(.list (.int .i64)),(.list (.int .i64))])=>r1_by_run N x.1 x.2.1
def uj0 :LH:=⟨[(0,.lst (.int .i64)),(1,.lst (.int .i64)),(5,.own (.int .i64) 505 3 1),(6,.int .i64),(7,.int .i64)],[],[]⟩
def xe6 :FH:=⟨[uj0],[],[],[],false,[],[]⟩
noncomputable def vt5 (N:Nat):q46:=tab []
theorem q9n (N:Nat):q13 Tryz.prog (vt5 N):=q25 _
noncomputable def uj3 :Sc:=w89 Tryz.prog xe6
noncomputable def uj2 (N:Nat):Cfg:=⟨N,vt5 N,0⟩
noncomputable def q0l (N:Nat):Exit→KT (List Int):=fin Tryz.prog 0 Tryz.f278.results.toList (q38 [(.list (.int .i64))])
def xr1 (a b:List Int)(e:List Int×Int×Int):List TV:=match e with|(out,owed,i)=>frm 40 [(0,.tl (.int .i64) a .unk),(1,.tl (.int .i64) b .unk),(5,.tl (.int .i64) out (.own 505 3 1)),(6,.int .i64 owed),(7,.int .i64 i)]
def xr2 (a b:List Int)(e:List Int×Int×Int):List TOb:=match e with|(out,owed,i)=>[]
noncomputable def uj1 (N:Nat):(KT (List Int))→KT (List Int):=qy2 DR uj3 (uj2 N) (nv [5,4,1,0,1,1,1] Tryz.f278) uj0 (xe6.loops.drop 1) (qd6 0 (qa6 DR uj3 (uj2 N) (nv [1,1,1,1] Tryz.f278) (xe6.loops.drop 1) (q0l N)))
def xr0 (N:Nat)(a b:List Int)(K0:(List Int×Int×Int)→Option (List Int))(e:List Int×Int×Int):Option (List Int):=match e with|(out,owed,i)=>bif decide (i<(a.length:Int)) then bif inR i a.length then bif q24 ((q17 a i 0)-owed) then bif decide (i<(b.length:Int)) then bif inR i b.length then bif q24 (((q17 a i 0)-owed)-(q17 b i 0)) then bif decide ((((q17 a i 0)-owed)-(q17 b i 0))<0) then bif q24 ((((q17 a i 0)-owed)-(q17 b i 0))+10000) then bif qr1 (out.length+[(((q17 a i 0)-owed)-(q17 b i 0))+10000].length) 17592186044416 then bif q24 (i+1) then K0 ((out++[(((q17 a i 0)-owed)-(q17 b i 0))+10000]),1,i+1) else none else none else none else bif qr1 (out.length+[((q17 a i 0)-owed)-(q17 b i 0)].length) 17592186044416 then bif q24 (i+1) then K0 ((out++[((q17 a i 0)-owed)-(q17 b i 0)]),0,i+1) else none else none else none else none else bif decide (((q17 a i 0)-owed)<0) then bif q24 (((q17 a i 0)-owed)+10000) then bif qr1 (out.length+[((q17 a i 0)-owed)+10000].length) 17592186044416 then bif q24 (i+1) then K0 ((out++[((q17 a i 0)-owed)+10000]),1,i+1) else none else none else none else bif qr1 (out.length+[(q17 a i 0)-owed].length) 17592186044416 then bif q24 (i+1) then K0 ((out++[(q17 a i 0)-owed]),0,i+1) else none else none else none else none else some out
theorem q9o (N:Nat)(a b:List Int)(n_:Nat)(e:List Int×Int×Int):q55 (uj1 N ) n_ ((xr1 a b) e) ((xr2 a b) e)=q80 (xr0 N a b ) n_ e :=
 q36 (xr1 a b) (xr2 a b) (by intro K e;obtain⟨out,owed,i⟩:=e;kernel_rfl) n_ e
def vt7 (N:Nat)(a b:List Int)(l1:(List Int)→(List Int)→(List Int×Int×Int)→Option (List Int)):Option (List Int):=l1 a b ([],0,0)
def yz7 (N:Nat)(a b:List Int):Option (List Int):=vt7 N a b (fun a b e=>q80 (xr0 N a b) N e)
noncomputable def ki4 (N:Nat)(a b:List Int):Option (RT [(.list (.int .i64))]):=q20 DR Tryz.prog N (vt5 N) xe6 Tryz.f278 (q31 Tryz.f278) (RT [(.list (.int .i64))]) (qb7 [(.list (.int .i64)),(.list (.int .i64))] (a,b,())) [] (q38 [(.list (.int .i64))])
theorem q0m (N:Nat)(a b:List Int):ki4 N a b=yz7 N a b:=by
 have h:ki4 N a b=vt7 N a b (fun a b e=>q55 (uj1 N ) N (xr1 a b e) (xr2 a b e)):=by kernel_rfl
 rw[h]
 simp only[yz7,q9o]<;>rfl
def ki5 (m:(List Int)→(List Int)→Option (List Int)):Ent:=q29 [(.list (.int .i64)),(.list (.int .i64))] [(.list (.int .i64))] fun (x:Els [(.list (.int .i64)),(.list (.int .i64))])=>m x.1 x.2.1
def vt6 (N:Nat):Ent:=ki5 (yz7 N)
theorem uz1 (N:Nat):q16 Tryz.prog 278 (vt6 N):=q10 (q9n N) Tryz.func278 rfl (by kernel_rfl) fun (x:Els [(.list (.int .i64)),(.list (.int .i64))])=>q0m N x.1 x.2.1
def r1_Add_H :FH:=⟨[],[],[(2,⟨7,40,0,[],[]⟩),(4,⟨7,40,0,[],[]⟩),(5,⟨7,40,0,[],[]⟩)],[],false,[],[]⟩
noncomputable def q5y (N:Nat):q46:=tab [(276,vu0 N),(268,zu0 N),(277,ki3 N),(278,vt6 N)]
theorem r1_Add_Ts (N:Nat):q13 Tryz.prog (q5y N):=q06 (vu1 N)<|q06 (zn0 N)<|q06 (q0i N)<|q06 (uz1 N)<|q25 _
def zt6 (N:Nat)(x y:qa3):Option qa3:=bif (x.1==y.1) then (q0p N x.2.1 y.2.1).bind fun r=>(wo9 N x.1 r).bind fun r1=>some r1 else (q9l N x.2.1 y.2.1).bind fun r2=>bif decide (r2≥0) then (yz7 N x.2.1 y.2.1).bind fun r3=>(wo9 N x.1 r3).bind fun r4=>some r4 else (yz7 N y.2.1 x.2.1).bind fun r5=>(wo9 N y.1 r5).bind fun r6=>some r6
noncomputable def r1_Add_C (N:Nat)(x y:qa3):Option (RT [qm8]):=q20 DR Tryz.prog N (q5y N) r1_Add_H Tryz.f246 (q31 Tryz.f246) (RT [qm8]) (qb7 [qm8,qm8] (x,y,())) [] (q38 [qm8])
theorem q9e (N:Nat)(x y:qa3):r1_Add_C N x y=zt6 N x y:=by kernel_rfl
def kz7 (m:qa3→qa3→Option qa3):Ent:=q29 [qm8,qm8] [qm8] fun (x:Els [qm8,qm8])=>m x.1 x.2.1
def xq1 (N:Nat):Ent:=kz7 (zt6 N)
theorem v45 (N:Nat):q16 Tryz.prog 246 (xq1 N):=q10 (r1_Add_Ts N) Tryz.func246 rfl (by kernel_rfl) fun (x:Els [qm8,qm8])=>q9e N x.1 x.2.1
def r1_Neg_H :FH:=⟨[],[],[],[],false,[],[]⟩
noncomputable def q6b (N:Nat):q46:=tab [(268,zu0 N)]
theorem r1_Neg_Ts (N:Nat):q13 Tryz.prog (q6b N):=q06 (zn0 N)<|q25 _
def wo8 (N:Nat)(x:qa3):Option qa3:=(wo9 N (!x.1) x.2.1).bind fun r=>some r
noncomputable def r1_Neg_C (N:Nat)(x:qa3):Option (RT [qm8]):=q20 DR Tryz.prog N (q6b N) r1_Neg_H Tryz.f248 (q31 Tryz.f248) (RT [qm8]) (qb7 [qm8] (x,())) [] (q38 [qm8])
theorem q9h (N:Nat)(x:qa3):r1_Neg_C N x=wo8 N x:=by kernel_rfl
def q0c (m:qa3→Option qa3):Ent:=q29 [qm8] [qm8] fun (x:Els [qm8])=>m x.1
def xq7 (N:Nat):Ent:=q0c (wo8 N)
theorem v50 (N:Nat):q16 Tryz.prog 248 (xq7 N):=q10 (r1_Neg_Ts N) Tryz.func248 rfl (by kernel_rfl) fun (x:Els [qm8])=>q9h N x.1
def zz9 :LH:=⟨[(0,.str),(2,.asis),(5,.asis),(6,.int .i64),(7,.int .i64),(8,.bool),(9,.int .i64)],[],[.cells [.bool,.lst (.int .i64)],.cells [.bool,.lst (.int .i64)]]⟩
def j00 :LH:=⟨[(0,.str),(2,.asis),(5,.asis),(7,.int .i64),(8,.bool),(9,.int .i64),(10,.int .i64),(11,.int .i64)],[],[.cells [.bool,.lst (.int .i64)],.cells [.bool,.lst (.int .i64)]]⟩
def qe1 :FH:=⟨[zz9,j00],[],[(12,⟨8,110,0,[],[]⟩),(21,⟨2,110,0,[],[]⟩)],[],false,[],[]⟩
noncomputable def x14 (N:Nat):q46:=tab [(209,ja3 N),(247,xq4 N),(246,xq1 N),(248,xq7 N)]
theorem kk0 (N:Nat):q13 Tryz.prog (x14 N):=q06 (zt8 N)<|q06 (v48 N)<|q06 (v45 N)<|q06 (v50 N)<|q25 _
noncomputable def qf2 :Sc:=w89 Tryz.prog qe1
noncomputable def qf1 (N:Nat):Cfg:=⟨N,x14 N,0⟩
noncomputable def w75 (N:Nat):Exit→KT OX4:=fin Tryz.prog 0 Tryz.f201.results.toList (q38 [qm8,.bool,.bool])
def z78 (s:List UInt8)(neg2:Bool)(first2:Int)(qb1:Bool)(w05:List Int)(e:Int×Int×Bool×List Int):List TV:=match e with|(at_2,point2,x_Neg4,x_D4)=>frm 110 [(0,.str s),(2,.ref 0 0),(5,.ref 1 0),(6,.int .i64 at_2),(7,.int .i64 point2),(8,.bool neg2),(9,.int .i64 first2)]
def z81 (s:List UInt8)(neg2:Bool)(first2:Int)(qb1:Bool)(w05:List Int)(e:Int×Int×Bool×List Int):List TOb:=match e with|(at_2,point2,x_Neg4,x_D4)=>[.cells [.bool qb1,.tl (.int .i64) w05 .unk] 265 true,.cells [.bool x_Neg4,.tl (.int .i64) x_D4 .unk] 265 true]
def yc2 (s:List UInt8)(point2:Int)(neg2:Bool)(first2:Int)(qb1:Bool)(w05:List Int)(e:Int×Bool×List Int):List TV:=match e with|(n2,x_Neg5,x_D5)=>frm 110 [(0,.str s),(2,.ref 0 0),(5,.ref 1 0),(7,.int .i64 point2),(8,.bool neg2),(9,.int .i64 first2),(10,.int .i64 point2),(11,.int .i64 n2)]
def yc8 (s:List UInt8)(point2:Int)(neg2:Bool)(first2:Int)(qb1:Bool)(w05:List Int)(e:Int×Bool×List Int):List TOb:=match e with|(n2,x_Neg5,x_D5)=>[.cells [.bool qb1,.tl (.int .i64) w05 .unk] 265 true,.cells [.bool x_Neg5,.tl (.int .i64) x_D5 .unk] 265 true]
def z77 (s:List UInt8)(neg1:Bool)(first1:Int)(qb0:Bool)(w04:List Int)(e:Int×Int×Bool×List Int):List TV:=match e with|(at_1,point1,x_Neg2,x_D2)=>frm 110 [(0,.str s),(2,.ref 0 0),(5,.ref 1 0),(6,.int .i64 at_1),(7,.int .i64 point1),(8,.bool neg1),(9,.int .i64 first1)]
def z80 (s:List UInt8)(neg1:Bool)(first1:Int)(qb0:Bool)(w04:List Int)(e:Int×Int×Bool×List Int):List TOb:=match e with|(at_1,point1,x_Neg2,x_D2)=>[.cells [.bool qb0,.tl (.int .i64) w04 .unk] 265 true,.cells [.bool x_Neg2,.tl (.int .i64) x_D2 .unk] 265 true]
def yc1 (s:List UInt8)(point1:Int)(neg1:Bool)(first1:Int)(qb0:Bool)(w04:List Int)(e:Int×Bool×List Int):List TV:=match e with|(n1,x_Neg3,x_D3)=>frm 110 [(0,.str s),(2,.ref 0 0),(5,.ref 1 0),(7,.int .i64 point1),(8,.bool neg1),(9,.int .i64 first1),(10,.int .i64 point1),(11,.int .i64 n1)]
def yc7 (s:List UInt8)(point1:Int)(neg1:Bool)(first1:Int)(qb0:Bool)(w04:List Int)(e:Int×Bool×List Int):List TOb:=match e with|(n1,x_Neg3,x_D3)=>[.cells [.bool qb0,.tl (.int .i64) w04 .unk] 265 true,.cells [.bool x_Neg3,.tl (.int .i64) x_D3 .unk] 265 true]
def z76 (s:List UInt8)(neg:Bool)(first:Int)(qa7:Bool)(z99:List Int)(e:Int×Int×Bool×List Int):List TV:=match e with|(at_,point,q32,x_D)=>frm 110 [(0,.str s),(2,.ref 0 0),(5,.ref 1 0),(6,.int .i64 at_),(7,.int .i64 point),(8,.bool neg),(9,.int .i64 first)]
def z79 (s:List UInt8)(neg:Bool)(first:Int)(qa7:Bool)(z99:List Int)(e:Int×Int×Bool×List Int):List TOb:=match e with|(at_,point,q32,x_D)=>[.cells [.bool qa7,.tl (.int .i64) z99 .unk] 265 true,.cells [.bool q32,.tl (.int .i64) x_D .unk] 265 true]
def yc0 (s:List UInt8)(point:Int)(neg:Bool)(first:Int)(qa7:Bool)(z99:List Int)(e:Int×Bool×List Int):List TV:=match e with|(n,x_Neg1,x_D1)=>frm 110 [(0,.str s),(2,.ref 0 0),(5,.ref 1 0),(7,.int .i64 point),(8,.bool neg),(9,.int .i64 first),(10,.int .i64 point),(11,.int .i64 n)]
def yc6 (s:List UInt8)(point:Int)(neg:Bool)(first:Int)(qa7:Bool)(z99:List Int)(e:Int×Bool×List Int):List TOb:=match e with|(n,x_Neg1,x_D1)=>[.cells [.bool qa7,.tl (.int .i64) z99 .unk] 265 true,.cells [.bool x_Neg1,.tl (.int .i64) x_D1 .unk] 265 true]
noncomputable def v63 (N:Nat):(KT OX4)→KT OX4:=qy2 DR qf2 (qf1 N) (nv [5,4,1,1,1,2,1,0,1,1,1,1,1,1,1] Tryz.f201) j00 (qe1.loops.drop 2) (qd6 2 (qa6 DR qf2 (qf1 N) (nv [1,1,1,1,1,1,1,1] Tryz.f201) (qe1.loops.drop 2) (w75 N)))
def zz6 (N:Nat)(s:List UInt8)(point:Int)(neg:Bool)(first:Int)(qa7:Bool)(z99:List Int)(K1:(Int×Bool×List Int)→Option OX4)(e:Int×Bool×List Int):Option OX4:=match e with|(n,x_Neg1,x_D1)=>bif decide (n<4) then (w23 N 10).bind fun r12=>(wk0 N (x_Neg1,x_D1,()) r12).bind fun r13=>bif q24 (n+1) then K1 (n+1,r13.1,r13.2.1) else none else bif (point==first) then some ((x_Neg1,x_D1,()),false,false,()) else bif inR first s.length then bif ((q37 s first)==48) then bif q24 (first+1) then bif decide (point>(first+1)) then some ((x_Neg1,x_D1,()),false,false,()) else bif neg then (wo8 N (x_Neg1,x_D1,())).bind fun r14=>some (r14,decide (point≥0),true,()) else some ((x_Neg1,x_D1,()),decide (point≥0),true,()) else none else bif neg then (wo8 N (x_Neg1,x_D1,())).bind fun r15=>some (r15,decide (point≥0),true,()) else some ((x_Neg1,x_D1,()),decide (point≥0),true,()) else none
theorem kk2 (N:Nat)(s:List UInt8)(point:Int)(neg:Bool)(first:Int)(qa7:Bool)(z99:List Int)(n_:Nat)(e:Int×Bool×List Int):q55 (v63 N ) n_ ((yc0 s point neg first qa7 z99) e) ((yc6 s point neg first qa7 z99) e)=q80 (zz6 N s point neg first qa7 z99 ) n_ e :=
 q36 (yc0 s point neg first qa7 z99) (yc6 s point neg first qa7 z99) (by intro K e;obtain⟨n,x_Neg1,x_D1⟩:=e;kernel_rfl) n_ e
noncomputable def yc3 (N:Nat):(KT OX4)→KT OX4:=qy2 DR qf2 (qf1 N) (nv [5,4,0,1,1,1,1,1] Tryz.f201) zz9 (qe1.loops.drop 1) (qd6 0 (qa6 DR qf2 (qf1 N) (nv [1,1,1,1,1,1] Tryz.f201) (qe1.loops.drop 1) (w75 N)))
def jm7 (N:Nat)(s:List UInt8)(neg:Bool)(first:Int)(qa7:Bool)(z99:List Int)(l2:(List UInt8)→Int→Bool→Int→Bool→(List Int)→(Int×Bool×List Int)→Option OX4)(K0:(Int×Int×Bool×List Int)→Option OX4)(e:Int×Int×Bool×List Int):Option OX4:=match e with|(at_,point,q32,x_D)=>bif decide (at_<(s.length:Int)) then bif inR at_ s.length then bif ((q37 s at_)==46) then bif decide (point<0) then bif decide (at_>first) then bif q24 (at_+1) then K0 (at_+1,at_,q32,x_D) else none else bif inR at_ s.length then bif decide ((q37 s at_)<48) then some ((q32,x_D,()),false,false,()) else bif inR at_ s.length then bif decide ((q37 s at_)>57) then some ((q32,x_D,()),false,false,()) else (w23 N 10).bind fun r=>(wk0 N (q32,x_D,()) r).bind fun r1=>bif inR at_ s.length then bif q24 (IntKind.u8.wrap ((q37 s at_)-48)) then (w23 N (IntKind.u8.wrap ((q37 s at_)-48))).bind fun r2=>(zt6 N r1 r2).bind fun r3=>bif q24 (at_+1) then K0 (at_+1,point,r3.1,r3.2.1) else none else none else none else none else none else bif inR at_ s.length then bif decide ((q37 s at_)<48) then some ((q32,x_D,()),false,false,()) else bif inR at_ s.length then bif decide ((q37 s at_)>57) then some ((q32,x_D,()),false,false,()) else (w23 N 10).bind fun r4=>(wk0 N (q32,x_D,()) r4).bind fun r5=>bif inR at_ s.length then bif q24 (IntKind.u8.wrap ((q37 s at_)-48)) then (w23 N (IntKind.u8.wrap ((q37 s at_)-48))).bind fun r6=>(zt6 N r5 r6).bind fun r7=>bif q24 (at_+1) then K0 (at_+1,point,r7.1,r7.2.1) else none else none else none else none else none else bif inR at_ s.length then bif decide ((q37 s at_)<48) then some ((q32,x_D,()),false,false,()) else bif inR at_ s.length then bif decide ((q37 s at_)>57) then some ((q32,x_D,()),false,false,()) else (w23 N 10).bind fun r8=>(wk0 N (q32,x_D,()) r8).bind fun r9=>bif inR at_ s.length then bif q24 (IntKind.u8.wrap ((q37 s at_)-48)) then (w23 N (IntKind.u8.wrap ((q37 s at_)-48))).bind fun r10=>(zt6 N r9 r10).bind fun r11=>bif q24 (at_+1) then K0 (at_+1,point,r11.1,r11.2.1) else none else none else none else none else none else none else bif decide (point≥0) then bif q24 ((s.length:Int)-point) then bif q24 (((s.length:Int)-point)-1) then bif decide ((((s.length:Int)-point)-1)<1) then some ((q32,x_D,()),false,false,()) else bif decide ((((s.length:Int)-point)-1)>4) then some ((q32,x_D,()),false,false,()) else l2 s point neg first qa7 z99 (((s.length:Int)-point)-1,q32,x_D) else none else none else bif ((s.length:Int)==first) then some ((q32,x_D,()),false,false,()) else bif inR first s.length then bif ((q37 s first)==48) then bif q24 (first+1) then bif decide ((s.length:Int)>(first+1)) then some ((q32,x_D,()),false,false,()) else bif neg then (wo8 N (q32,x_D,())).bind fun r16=>some (r16,decide (point≥0),true,()) else some ((q32,x_D,()),decide (point≥0),true,()) else none else bif neg then (wo8 N (q32,x_D,())).bind fun r17=>some (r17,decide (point≥0),true,()) else some ((q32,x_D,()),decide (point≥0),true,()) else none
def w57 (N:Nat)(s:List UInt8)(neg:Bool)(first:Int)(qa7:Bool)(z99:List Int)(K0:(Int×Int×Bool×List Int)→Option OX4)(e:Int×Int×Bool×List Int):Option OX4:=jm7 N s neg first qa7 z99 (fun s point neg first qa7 z99 e=>q80 (zz6 N s point neg first qa7 z99) N e) K0 e
theorem kk1 (N:Nat)(s:List UInt8)(neg:Bool)(first:Int)(qa7:Bool)(z99:List Int)(n_:Nat)(e:Int×Int×Bool×List Int):q55 (yc3 N ) n_ ((z76 s neg first qa7 z99) e) ((z79 s neg first qa7 z99) e)=q80 (w57 N s neg first qa7 z99 ) n_ e :=
 q36 (z76 s neg first qa7 z99) (z79 s neg first qa7 z99) (by
  intro K e
  have h:(yc3 N ) K ((z76 s neg first qa7 z99) e) ((z79 s neg first qa7 z99) e)=jm7 N s neg first qa7 z99 (fun s point neg first qa7 z99 e=>q55 (v63 N ) N (yc0 s point neg first qa7 z99 e) (yc6 s point neg first qa7 z99 e)) (fun e=>K ((z76 s neg first qa7 z99) e) ((z79 s neg first qa7 z99) e)) e:=by obtain⟨at_,point,q32,x_D⟩:=e;kernel_rfl
  rw[h]
  simp only[w57,kk2]<;>rfl) n_ e
noncomputable def v64 (N:Nat):(KT OX4)→KT OX4:=qy2 DR qf2 (qf1 N) (nv [5,4,1,1,1,2,1,0,1,1,1,1,1,1,1] Tryz.f201) j00 (qe1.loops.drop 2) (qd6 2 (qa6 DR qf2 (qf1 N) (nv [1,1,1,1,1,1,1,1] Tryz.f201) (qe1.loops.drop 2) (w75 N)))
def v61 (N:Nat)(s:List UInt8)(point1:Int)(neg1:Bool)(first1:Int)(qb0:Bool)(w04:List Int)(K1:(Int×Bool×List Int)→Option OX4)(e:Int×Bool×List Int):Option OX4:=match e with|(n1,x_Neg3,x_D3)=>bif decide (n1<4) then (w23 N 10).bind fun r30=>(wk0 N (x_Neg3,x_D3,()) r30).bind fun r31=>bif q24 (n1+1) then K1 (n1+1,r31.1,r31.2.1) else none else bif (point1==first1) then some ((x_Neg3,x_D3,()),false,false,()) else bif inR first1 s.length then bif ((q37 s first1)==48) then bif q24 (first1+1) then bif decide (point1>(first1+1)) then some ((x_Neg3,x_D3,()),false,false,()) else bif neg1 then (wo8 N (x_Neg3,x_D3,())).bind fun r32=>some (r32,decide (point1≥0),true,()) else some ((x_Neg3,x_D3,()),decide (point1≥0),true,()) else none else bif neg1 then (wo8 N (x_Neg3,x_D3,())).bind fun r33=>some (r33,decide (point1≥0),true,()) else some ((x_Neg3,x_D3,()),decide (point1≥0),true,()) else none
theorem kk4 (N:Nat)(s:List UInt8)(point1:Int)(neg1:Bool)(first1:Int)(qb0:Bool)(w04:List Int)(n_:Nat)(e:Int×Bool×List Int):q55 (v64 N ) n_ ((yc1 s point1 neg1 first1 qb0 w04) e) ((yc7 s point1 neg1 first1 qb0 w04) e)=q80 (v61 N s point1 neg1 first1 qb0 w04 ) n_ e :=
 q36 (yc1 s point1 neg1 first1 qb0 w04) (yc7 s point1 neg1 first1 qb0 w04) (by intro K e;obtain⟨n1,x_Neg3,x_D3⟩:=e;kernel_rfl) n_ e
noncomputable def yc4 (N:Nat):(KT OX4)→KT OX4:=qy2 DR qf2 (qf1 N) (nv [5,4,0,1,1,1,1,1] Tryz.f201) zz9 (qe1.loops.drop 1) (qd6 0 (qa6 DR qf2 (qf1 N) (nv [1,1,1,1,1,1] Tryz.f201) (qe1.loops.drop 1) (w75 N)))
def xf6 (N:Nat)(s:List UInt8)(neg1:Bool)(first1:Int)(qb0:Bool)(w04:List Int)(l4:(List UInt8)→Int→Bool→Int→Bool→(List Int)→(Int×Bool×List Int)→Option OX4)(K0:(Int×Int×Bool×List Int)→Option OX4)(e:Int×Int×Bool×List Int):Option OX4:=match e with|(at_1,point1,x_Neg2,x_D2)=>bif decide (at_1<(s.length:Int)) then bif inR at_1 s.length then bif ((q37 s at_1)==46) then bif decide (point1<0) then bif decide (at_1>first1) then bif q24 (at_1+1) then K0 (at_1+1,at_1,x_Neg2,x_D2) else none else bif inR at_1 s.length then bif decide ((q37 s at_1)<48) then some ((x_Neg2,x_D2,()),false,false,()) else bif inR at_1 s.length then bif decide ((q37 s at_1)>57) then some ((x_Neg2,x_D2,()),false,false,()) else (w23 N 10).bind fun r18=>(wk0 N (x_Neg2,x_D2,()) r18).bind fun r19=>bif inR at_1 s.length then bif q24 (IntKind.u8.wrap ((q37 s at_1)-48)) then (w23 N (IntKind.u8.wrap ((q37 s at_1)-48))).bind fun r20=>(zt6 N r19 r20).bind fun r21=>bif q24 (at_1+1) then K0 (at_1+1,point1,r21.1,r21.2.1) else none else none else none else none else none else bif inR at_1 s.length then bif decide ((q37 s at_1)<48) then some ((x_Neg2,x_D2,()),false,false,()) else bif inR at_1 s.length then bif decide ((q37 s at_1)>57) then some ((x_Neg2,x_D2,()),false,false,()) else (w23 N 10).bind fun r22=>(wk0 N (x_Neg2,x_D2,()) r22).bind fun r23=>bif inR at_1 s.length then bif q24 (IntKind.u8.wrap ((q37 s at_1)-48)) then (w23 N (IntKind.u8.wrap ((q37 s at_1)-48))).bind fun r24=>(zt6 N r23 r24).bind fun r25=>bif q24 (at_1+1) then K0 (at_1+1,point1,r25.1,r25.2.1) else none else none else none else none else none else bif inR at_1 s.length then bif decide ((q37 s at_1)<48) then some ((x_Neg2,x_D2,()),false,false,()) else bif inR at_1 s.length then bif decide ((q37 s at_1)>57) then some ((x_Neg2,x_D2,()),false,false,()) else (w23 N 10).bind fun r26=>(wk0 N (x_Neg2,x_D2,()) r26).bind fun r27=>bif inR at_1 s.length then bif q24 (IntKind.u8.wrap ((q37 s at_1)-48)) then (w23 N (IntKind.u8.wrap ((q37 s at_1)-48))).bind fun r28=>(zt6 N r27 r28).bind fun r29=>bif q24 (at_1+1) then K0 (at_1+1,point1,r29.1,r29.2.1) else none else none else none else none else none else none else bif decide (point1≥0) then bif q24 ((s.length:Int)-point1) then bif q24 (((s.length:Int)-point1)-1) then bif decide ((((s.length:Int)-point1)-1)<1) then some ((x_Neg2,x_D2,()),false,false,()) else bif decide ((((s.length:Int)-point1)-1)>4) then some ((x_Neg2,x_D2,()),false,false,()) else l4 s point1 neg1 first1 qb0 w04 (((s.length:Int)-point1)-1,x_Neg2,x_D2) else none else none else bif ((s.length:Int)==first1) then some ((x_Neg2,x_D2,()),false,false,()) else bif inR first1 s.length then bif ((q37 s first1)==48) then bif q24 (first1+1) then bif decide ((s.length:Int)>(first1+1)) then some ((x_Neg2,x_D2,()),false,false,()) else bif neg1 then (wo8 N (x_Neg2,x_D2,())).bind fun r34=>some (r34,decide (point1≥0),true,()) else some ((x_Neg2,x_D2,()),decide (point1≥0),true,()) else none else bif neg1 then (wo8 N (x_Neg2,x_D2,())).bind fun r35=>some (r35,decide (point1≥0),true,()) else some ((x_Neg2,x_D2,()),decide (point1≥0),true,()) else none
def zz7 (N:Nat)(s:List UInt8)(neg1:Bool)(first1:Int)(qb0:Bool)(w04:List Int)(K0:(Int×Int×Bool×List Int)→Option OX4)(e:Int×Int×Bool×List Int):Option OX4:=xf6 N s neg1 first1 qb0 w04 (fun s point1 neg1 first1 qb0 w04 e=>q80 (v61 N s point1 neg1 first1 qb0 w04) N e) K0 e
theorem kk3 (N:Nat)(s:List UInt8)(neg1:Bool)(first1:Int)(qb0:Bool)(w04:List Int)(n_:Nat)(e:Int×Int×Bool×List Int):q55 (yc4 N ) n_ ((z77 s neg1 first1 qb0 w04) e) ((z80 s neg1 first1 qb0 w04) e)=q80 (zz7 N s neg1 first1 qb0 w04 ) n_ e :=
 q36 (z77 s neg1 first1 qb0 w04) (z80 s neg1 first1 qb0 w04) (by
  intro K e
  have h:(yc4 N ) K ((z77 s neg1 first1 qb0 w04) e) ((z80 s neg1 first1 qb0 w04) e)=xf6 N s neg1 first1 qb0 w04 (fun s point1 neg1 first1 qb0 w04 e=>q55 (v64 N ) N (yc1 s point1 neg1 first1 qb0 w04 e) (yc7 s point1 neg1 first1 qb0 w04 e)) (fun e=>K ((z77 s neg1 first1 qb0 w04) e) ((z80 s neg1 first1 qb0 w04) e)) e:=by obtain⟨at_1,point1,x_Neg2,x_D2⟩:=e;kernel_rfl
  rw[h]
  simp only[zz7,kk4]<;>rfl) n_ e
noncomputable def v65 (N:Nat):(KT OX4)→KT OX4:=qy2 DR qf2 (qf1 N) (nv [5,4,1,1,1,2,1,0,1,1,1,1,1,1,1] Tryz.f201) j00 (qe1.loops.drop 2) (qd6 2 (qa6 DR qf2 (qf1 N) (nv [1,1,1,1,1,1,1,1] Tryz.f201) (qe1.loops.drop 2) (w75 N)))
def v62 (N:Nat)(s:List UInt8)(point2:Int)(neg2:Bool)(first2:Int)(qb1:Bool)(w05:List Int)(K1:(Int×Bool×List Int)→Option OX4)(e:Int×Bool×List Int):Option OX4:=match e with|(n2,x_Neg5,x_D5)=>bif decide (n2<4) then (w23 N 10).bind fun r48=>(wk0 N (x_Neg5,x_D5,()) r48).bind fun r49=>bif q24 (n2+1) then K1 (n2+1,r49.1,r49.2.1) else none else bif (point2==first2) then some ((x_Neg5,x_D5,()),false,false,()) else bif inR first2 s.length then bif ((q37 s first2)==48) then bif q24 (first2+1) then bif decide (point2>(first2+1)) then some ((x_Neg5,x_D5,()),false,false,()) else bif neg2 then (wo8 N (x_Neg5,x_D5,())).bind fun r50=>some (r50,decide (point2≥0),true,()) else some ((x_Neg5,x_D5,()),decide (point2≥0),true,()) else none else bif neg2 then (wo8 N (x_Neg5,x_D5,())).bind fun r51=>some (r51,decide (point2≥0),true,()) else some ((x_Neg5,x_D5,()),decide (point2≥0),true,()) else none
theorem kk6 (N:Nat)(s:List UInt8)(point2:Int)(neg2:Bool)(first2:Int)(qb1:Bool)(w05:List Int)(n_:Nat)(e:Int×Bool×List Int):q55 (v65 N ) n_ ((yc2 s point2 neg2 first2 qb1 w05) e) ((yc8 s point2 neg2 first2 qb1 w05) e)=q80 (v62 N s point2 neg2 first2 qb1 w05 ) n_ e :=
 q36 (yc2 s point2 neg2 first2 qb1 w05) (yc8 s point2 neg2 first2 qb1 w05) (by intro K e;obtain⟨n2,x_Neg5,x_D5⟩:=e;kernel_rfl) n_ e
noncomputable def yc5 (N:Nat):(KT OX4)→KT OX4:=qy2 DR qf2 (qf1 N) (nv [5,4,0,1,1,1,1,1] Tryz.f201) zz9 (qe1.loops.drop 1) (qd6 0 (qa6 DR qf2 (qf1 N) (nv [1,1,1,1,1,1] Tryz.f201) (qe1.loops.drop 1) (w75 N)))
def xf7 (N:Nat)(s:List UInt8)(neg2:Bool)(first2:Int)(qb1:Bool)(w05:List Int)(l6:(List UInt8)→Int→Bool→Int→Bool→(List Int)→(Int×Bool×List Int)→Option OX4)(K0:(Int×Int×Bool×List Int)→Option OX4)(e:Int×Int×Bool×List Int):Option OX4:=match e with|(at_2,point2,x_Neg4,x_D4)=>bif decide (at_2<(s.length:Int)) then bif inR at_2 s.length then bif ((q37 s at_2)==46) then bif decide (point2<0) then bif decide (at_2>first2) then bif q24 (at_2+1) then K0 (at_2+1,at_2,x_Neg4,x_D4) else none else bif inR at_2 s.length then bif decide ((q37 s at_2)<48) then some ((x_Neg4,x_D4,()),false,false,()) else bif inR at_2 s.length then bif decide ((q37 s at_2)>57) then some ((x_Neg4,x_D4,()),false,false,()) else (w23 N 10).bind fun r36=>(wk0 N (x_Neg4,x_D4,()) r36).bind fun r37=>bif inR at_2 s.length then bif q24 (IntKind.u8.wrap ((q37 s at_2)-48)) then (w23 N (IntKind.u8.wrap ((q37 s at_2)-48))).bind fun r38=>(zt6 N r37 r38).bind fun r39=>bif q24 (at_2+1) then K0 (at_2+1,point2,r39.1,r39.2.1) else none else none else none else none else none else bif inR at_2 s.length then bif decide ((q37 s at_2)<48) then some ((x_Neg4,x_D4,()),false,false,()) else bif inR at_2 s.length then bif decide ((q37 s at_2)>57) then some ((x_Neg4,x_D4,()),false,false,()) else (w23 N 10).bind fun r40=>(wk0 N (x_Neg4,x_D4,()) r40).bind fun r41=>bif inR at_2 s.length then bif q24 (IntKind.u8.wrap ((q37 s at_2)-48)) then (w23 N (IntKind.u8.wrap ((q37 s at_2)-48))).bind fun r42=>(zt6 N r41 r42).bind fun r43=>bif q24 (at_2+1) then K0 (at_2+1,point2,r43.1,r43.2.1) else none else none else none else none else none else bif inR at_2 s.length then bif decide ((q37 s at_2)<48) then some ((x_Neg4,x_D4,()),false,false,()) else bif inR at_2 s.length then bif decide ((q37 s at_2)>57) then some ((x_Neg4,x_D4,()),false,false,()) else (w23 N 10).bind fun r44=>(wk0 N (x_Neg4,x_D4,()) r44).bind fun r45=>bif inR at_2 s.length then bif q24 (IntKind.u8.wrap ((q37 s at_2)-48)) then (w23 N (IntKind.u8.wrap ((q37 s at_2)-48))).bind fun r46=>(zt6 N r45 r46).bind fun r47=>bif q24 (at_2+1) then K0 (at_2+1,point2,r47.1,r47.2.1) else none else none else none else none else none else none else bif decide (point2≥0) then bif q24 ((s.length:Int)-point2) then bif q24 (((s.length:Int)-point2)-1) then bif decide ((((s.length:Int)-point2)-1)<1) then some ((x_Neg4,x_D4,()),false,false,()) else bif decide ((((s.length:Int)-point2)-1)>4) then some ((x_Neg4,x_D4,()),false,false,()) else l6 s point2 neg2 first2 qb1 w05 (((s.length:Int)-point2)-1,x_Neg4,x_D4) else none else none else bif ((s.length:Int)==first2) then some ((x_Neg4,x_D4,()),false,false,()) else bif inR first2 s.length then bif ((q37 s first2)==48) then bif q24 (first2+1) then bif decide ((s.length:Int)>(first2+1)) then some ((x_Neg4,x_D4,()),false,false,()) else bif neg2 then (wo8 N (x_Neg4,x_D4,())).bind fun r52=>some (r52,decide (point2≥0),true,()) else some ((x_Neg4,x_D4,()),decide (point2≥0),true,()) else none else bif neg2 then (wo8 N (x_Neg4,x_D4,())).bind fun r53=>some (r53,decide (point2≥0),true,()) else some ((x_Neg4,x_D4,()),decide (point2≥0),true,()) else none
def zz8 (N:Nat)(s:List UInt8)(neg2:Bool)(first2:Int)(qb1:Bool)(w05:List Int)(K0:(Int×Int×Bool×List Int)→Option OX4)(e:Int×Int×Bool×List Int):Option OX4:=xf7 N s neg2 first2 qb1 w05 (fun s point2 neg2 first2 qb1 w05 e=>q80 (v62 N s point2 neg2 first2 qb1 w05) N e) K0 e
theorem kk5 (N:Nat)(s:List UInt8)(neg2:Bool)(first2:Int)(qb1:Bool)(w05:List Int)(n_:Nat)(e:Int×Int×Bool×List Int):q55 (yc5 N ) n_ ((z78 s neg2 first2 qb1 w05) e) ((z81 s neg2 first2 qb1 w05) e)=q80 (zz8 N s neg2 first2 qb1 w05 ) n_ e :=
 q36 (z78 s neg2 first2 qb1 w05) (z81 s neg2 first2 qb1 w05) (by
  intro K e
  have h:(yc5 N ) K ((z78 s neg2 first2 qb1 w05) e) ((z81 s neg2 first2 qb1 w05) e)=xf7 N s neg2 first2 qb1 w05 (fun s point2 neg2 first2 qb1 w05 e=>q55 (v65 N ) N (yc2 s point2 neg2 first2 qb1 w05 e) (yc8 s point2 neg2 first2 qb1 w05 e)) (fun e=>K ((z78 s neg2 first2 qb1 w05) e) ((z81 s neg2 first2 qb1 w05) e)) e:=by obtain⟨at_2,point2,x_Neg4,x_D4⟩:=e;kernel_rfl
  rw[h]
  simp only[zz8,kk6]<;>rfl) n_ e
def x15 (N:Nat)(s:List UInt8)(l1 l3 l5:(List UInt8)→Bool→Int→Bool→(List Int)→(Int×Int×Bool×List Int)→Option OX4):Option OX4:=bif decide ((s.length:Int)>0) then bif inR 0 s.length then bif ((q37 s 0)==45) then l1 s ((q37 s 0)==45) 1 false [] (1,(-1),false,[]) else l3 s ((q37 s 0)==45) 0 false [] (0,(-1),false,[]) else none else l5 s false 0 false [] (0,(-1),false,[])
def ja8 (N:Nat)(s:List UInt8):Option OX4:=x15 N s (fun s neg first qa7 z99 e=>q80 (w57 N s neg first qa7 z99) N e) (fun s neg1 first1 qb0 w04 e=>q80 (zz7 N s neg1 first1 qb0 w04) N e) (fun s neg2 first2 qb1 w05 e=>q80 (zz8 N s neg2 first2 qb1 w05) N e)
noncomputable def vv7 (N:Nat)(s:List UInt8):Option (RT [qm8,.bool,.bool]):=q20 DR Tryz.prog N (x14 N) qe1 Tryz.f201 (q31 Tryz.f201) (RT [qm8,.bool,.bool]) (qb7 [.str] (s,())) [] (q38 [qm8,.bool,.bool])
theorem k06 (N:Nat)(s:List UInt8):vv7 N s=ja8 N s:=by
 have h:vv7 N s=x15 N s (fun s neg first qa7 z99 e=>q55 (yc3 N ) N (z76 s neg first qa7 z99 e) (z79 s neg first qa7 z99 e)) (fun s neg1 first1 qb0 w04 e=>q55 (yc4 N ) N (z77 s neg1 first1 qb0 w04 e) (z80 s neg1 first1 qb0 w04 e)) (fun s neg2 first2 qb1 w05 e=>q55 (yc5 N ) N (z78 s neg2 first2 qb1 w05 e) (z81 s neg2 first2 qb1 w05 e)):=by kernel_rfl
 rw[h]
 simp only[ja8,kk1,kk3,kk5]<;>rfl
def ub4 (m:(List UInt8)→Option OX4):Ent:=q29 [.str] [qm8,.bool,.bool] fun (x:Els [.str])=>m x.1
def xf8 (N:Nat):Ent:=ub4 (ja8 N)
theorem vv8 (N:Nat):q16 Tryz.prog 201 (xf8 N):=q10 (kk0 N) Tryz.func201 rfl (by kernel_rfl) fun (x:Els [.str])=>k06 N x.1
def q9x :FH:=⟨[],[],[],[],false,[],[]⟩
noncomputable def uk2 (N:Nat):q46:=tab []
theorem q0u (N:Nat):q13 Tryz.prog (uk2 N):=q25 _
def vh6 (N:Nat)(is_:Bool):Option q00:=bif is_ then some (4,1,[],()) else some (4,0,[],())
noncomputable def q9w (N:Nat)(is_:Bool):Option (RT [q05]):=q20 DR Tryz.prog N (uk2 N) q9x Tryz.f202 (q31 Tryz.f202) (RT [q05]) (qb7 [.bool] (is_,())) [] (q38 [q05])
theorem kj2 (N:Nat)(is_:Bool):q9w N is_=vh6 N is_:=by kernel_rfl
def k00 (m:Bool→Option q00):Ent:=q29 [.bool] [q05] fun (x:Els [.bool])=>m x.1
def v54 (N:Nat):Ent:=k00 (vh6 N)
theorem ua9 (N:Nat):q16 Tryz.prog 202 (v54 N):=q10 (q0u N) Tryz.func202 rfl (by kernel_rfl) fun (x:Els [.bool])=>kj2 N x.1
def uj8 :LH:=⟨[(0,.str),(3,.int .i64)],[],[]⟩
def xf1 :FH:=⟨[uj8],[],[],[],false,[],[]⟩
noncomputable def vu7 (N:Nat):q46:=tab []
theorem q9u (N:Nat):q13 Tryz.prog (vu7 N):=q25 _
noncomputable def uk1 :Sc:=w89 Tryz.prog xf1
noncomputable def uk0 (N:Nat):Cfg:=⟨N,vu7 N,0⟩
noncomputable def q0s (N:Nat):Exit→KT Bool:=fin Tryz.prog 0 Tryz.f35.results.toList (q38 [.bool])
def xr8 (s:List UInt8)(e:Int):List TV:=match e with|i=>frm 47 [(0,.str s),(3,.int .i64 i)]
def xr9 (s:List UInt8)(e:Int):List TOb:=match e with|i=>[]
noncomputable def uj9 (N:Nat):(KT Bool)→KT Bool:=qy2 DR uk1 (uk0 N) (nv [5,4,1,0,1,1] Tryz.f35) uj8 (xf1.loops.drop 1) (qd6 0 (qa6 DR uk1 (uk0 N) (nv [1,1,1] Tryz.f35) (xf1.loops.drop 1) (q0s N)))
def xr7 (N:Nat)(s:List UInt8)(K0:Int→Option Bool)(e:Int):Option Bool:=match e with|i=>bif decide (i<(s.length:Int)) then bif inR i s.length then bif decide ((q37 s i)≥97) then bif inR i s.length then bif (!(decide ((q37 s i)≤122))) then bif (i==0) then some false else bif inR i s.length then bif decide ((q37 s i)<48) then some false else bif inR i s.length then bif decide ((q37 s i)>57) then some false else bif q24 (i+1) then K0 (i+1) else none else none else none else bif q24 (i+1) then K0 (i+1) else none else none else bif (i==0) then some false else bif inR i s.length then bif decide ((q37 s i)<48) then some false else bif inR i s.length then bif decide ((q37 s i)>57) then some false else bif q24 (i+1) then K0 (i+1) else none else none else none else none else some true
theorem q9v (N:Nat)(s:List UInt8)(n_:Nat)(e:Int):q55 (uj9 N ) n_ ((xr8 s) e) ((xr9 s) e)=q80 (xr7 N s ) n_ e :=
 q36 (xr8 s) (xr9 s) (by intro K e;kernel_rfl) n_ e
def vu9 (N:Nat)(s:List UInt8)(l1:(List UInt8)→Int→Option Bool):Option Bool:=bif decide ((s.length:Int)<1) then some false else bif decide ((s.length:Int)>12) then some false else l1 s 0
def xr6 (N:Nat)(s:List UInt8):Option Bool:=vu9 N s (fun s e=>q80 (xr7 N s) N e)
noncomputable def kj0 (N:Nat)(s:List UInt8):Option (RT [.bool]):=q20 DR Tryz.prog N (vu7 N) xf1 Tryz.f35 (q31 Tryz.f35) (RT [.bool]) (qb7 [.str] (s,())) [] (q38 [.bool])
theorem q0t (N:Nat)(s:List UInt8):kj0 N s=xr6 N s:=by
 have h:kj0 N s=vu9 N s (fun s e=>q55 (uj9 N ) N (xr8 s e) (xr9 s e)):=by kernel_rfl
 rw[h]
 simp only[xr6,q9v]<;>rfl
def kj1 (m:(List UInt8)→Option Bool):Ent:=q29 [.str] [.bool] fun (x:Els [.str])=>m x.1
def vu8 (N:Nat):Ent:=kj1 (xr6 N)
theorem uz9 (N:Nat):q16 Tryz.prog 35 (vu8 N):=q10 (q9u N) Tryz.func35 rfl (by kernel_rfl) fun (x:Els [.str])=>q0t N x.1
def ki8 :LH:=⟨[(1,.asis),(3,.int .i64)],[],[.cells [.int .u8,.int .i64,.str]]⟩
def xf0 :FH:=⟨[ki8],[],[],[],false,[],[]⟩
noncomputable def uz6 (N:Nat):q46:=tab [(35,vu8 N)]
theorem r2_May_Ts (N:Nat):q13 Tryz.prog (uz6 N):=q06 (uz9 N)<|q25 _
noncomputable def vu6 :Sc:=w89 Tryz.prog xf0
noncomputable def vu5 (N:Nat):Cfg:=⟨N,uz6 N,0⟩
noncomputable def q9s (N:Nat):Exit→KT Bool:=fin Tryz.prog 0 Tryz.f14.results.toList (q38 [.bool])
def vu3 (q41 v_N:Int)(v_S:List UInt8)(e:Int):List TV:=match e with|i=>frm 77 [(1,.ref 0 0),(3,.int .i64 i)]
def vu4 (q41 v_N:Int)(v_S:List UInt8)(e:Int):List TOb:=match e with|i=>[.cells [.int .u8 q41,.int .i64 v_N,.str v_S] 26 true]
noncomputable def ki9 (N:Nat):(KT Bool)→KT Bool:=qy2 DR vu6 (vu5 N) (nv [5,4,1,0,2,1,3,1,3,1,4,1,0,1] Tryz.f14) ki8 (xf0.loops.drop 1) (qd6 1 (qa6 DR vu6 (vu5 N) (nv [1,2,1,3,1,3,1,4,1,0,1] Tryz.f14) (xf0.loops.drop 1) (qd6 0 (qa6 DR vu6 (vu5 N) (nv [1,1] Tryz.f14) (xf0.loops.drop 1) (q9s N)))))
def xe9 (N:Nat)(q41 v_N:Int)(v_S:List UInt8)(K0:Int→Option Bool)(e:Int):Option Bool:=match e with|i=>bif decide (i<(v_S.length:Int)) then bif inR i v_S.length then bif decide ((q37 v_S i)<32) then some false else bif inR i v_S.length then bif decide ((q37 v_S i)>126) then some false else bif q24 (i+1) then K0 (i+1) else none else none else none else bif (v_N==0) then some (decide ((v_S.length:Int)≤200)) else some false
theorem r2_May_l1 (N:Nat)(q41 v_N:Int)(v_S:List UInt8)(n_:Nat)(e:Int):q55 (ki9 N ) n_ ((vu3 q41 v_N v_S) e) ((vu4 q41 v_N v_S) e)=q80 (xe9 N q41 v_N v_S ) n_ e :=
 q36 (vu3 q41 v_N v_S) (vu4 q41 v_N v_S) (by intro K e;kernel_rfl) n_ e
def uz7 (N:Nat)(v:q00)(l1:Int→Int→(List UInt8)→Int→Option Bool):Option Bool:=bif (v.1==0) then bif (v.2.1==0) then some (v.2.2.1==([]:List UInt8)) else some false else bif (v.1==1) then some (v.2.2.1==([]:List UInt8)) else bif (v.1==2) then some (v.2.2.1==([]:List UInt8)) else bif (v.1==3) then l1 v.1 v.2.1 v.2.2.1 0 else bif (v.1==4) then bif (v.2.2.1==([]:List UInt8)) then bif (v.2.1==0) then some true else some (v.2.1==1) else some false else bif (v.1==5) then bif (v.2.1==0) then (xr6 N v.2.2.1).bind fun r=>some r else some false else some false
def zl0 (N:Nat)(v:q00):Option Bool:=uz7 N v (fun q41 v_N v_S e=>q80 (xe9 N q41 v_N v_S) N e)
noncomputable def q6q (N:Nat)(v:q00):Option (RT [.bool]):=q20 DR Tryz.prog N (uz6 N) xf0 Tryz.f14 (q31 Tryz.f14) (RT [.bool]) (qb7 [q05] (v,())) [] (q38 [.bool])
theorem q9t (N:Nat)(v:q00):q6q N v=zl0 N v:=by
 have h:q6q N v=uz7 N v (fun q41 v_N v_S e=>q55 (ki9 N ) N (vu3 q41 v_N v_S e) (vu4 q41 v_N v_S e)):=by kernel_rfl
 rw[h]
 simp only[zl0,r2_May_l1]<;>rfl
def jm0 (m:q00→Option Bool):Ent:=q29 [q05] [.bool] fun (x:Els [q05])=>m x.1
def yi2 (N:Nat):Ent:=jm0 (zl0 N)
theorem yb2 (N:Nat):q16 Tryz.prog 14 (yi2 N):=q10 (r2_May_Ts N) Tryz.func14 rfl (by kernel_rfl) fun (x:Els [q05])=>q9t N x.1
def r1_Sub_H :FH:=⟨[],[],[(1,⟨3,9,0,[],[]⟩)],[],false,[],[]⟩
noncomputable def q6h (N:Nat):q46:=tab [(248,xq7 N),(246,xq1 N)]
theorem r1_Sub_Ts (N:Nat):q13 Tryz.prog (q6h N):=q06 (v50 N)<|q06 (v45 N)<|q25 _
def ui9 (N:Nat)(x y:qa3):Option qa3:=(wo8 N y).bind fun r=>(zt6 N x r).bind fun r1=>some r1
noncomputable def r1_Sub_C (N:Nat)(x y:qa3):Option (RT [qm8]):=q20 DR Tryz.prog N (q6h N) r1_Sub_H Tryz.f266 (q31 Tryz.f266) (RT [qm8]) (qb7 [qm8,qm8] (x,y,())) [] (q38 [qm8])
theorem q9k (N:Nat)(x y:qa3):r1_Sub_C N x y=ui9 N x y:=by kernel_rfl
def q0g (m:qa3→qa3→Option qa3):Ent:=q29 [qm8,qm8] [qm8] fun (x:Els [qm8,qm8])=>m x.1 x.2.1
def xq9 (N:Nat):Ent:=q0g (ui9 N)
theorem v52 (N:Nat):q16 Tryz.prog 266 (xq9 N):=q10 (r1_Sub_Ts N) Tryz.func266 rfl (by kernel_rfl) fun (x:Els [qm8,qm8])=>q9k N x.1 x.2.1
def r1_Cmp_H :FH:=⟨[],[],[],[],false,[],[]⟩
noncomputable def q5z (N:Nat):q46:=tab [(266,xq9 N)]
theorem r1_Cmp_Ts (N:Nat):q13 Tryz.prog (q5z N):=q06 (v52 N)<|q25 _
def vr7 (N:Nat)(x y:qa3):Option Int:=(ui9 N x y).bind fun r=>bif r.1 then some (-1) else bif decide ((r.2.1.length:Int)>0) then some 1 else some 0
noncomputable def r1_Cmp_C (N:Nat)(x y:qa3):Option (RT [(.int .i64)]):=q20 DR Tryz.prog N (q5z N) r1_Cmp_H Tryz.f249 (q31 Tryz.f249) (RT [(.int .i64)]) (qb7 [qm8,qm8] (x,y,())) [] (q38 [(.int .i64)])
theorem q9f (N:Nat)(x y:qa3):r1_Cmp_C N x y=vr7 N x y:=by kernel_rfl
def kz8 (m:qa3→qa3→Option Int):Ent:=q29 [qm8,qm8] [(.int .i64)] fun (x:Els [qm8,qm8])=>m x.1 x.2.1
def xq2 (N:Nat):Ent:=kz8 (vr7 N)
theorem v47 (N:Nat):q16 Tryz.prog 249 (xq2 N):=q10 (r1_Cmp_Ts N) Tryz.func249 rfl (by kernel_rfl) fun (x:Els [qm8,qm8])=>q9f N x.1 x.2.1
def vt2 :LH:=⟨[(2,.asis),(3,.asis),(4,.asis),(5,.asis),(6,.asis),(7,.asis),(8,.asis),(9,.asis),(10,.int .i64)],[],[.cells [.bool,.lst (.int .i64)],.cells [.bool,.lst (.int .i64)],.cells [.bool,.lst (.int .i64)],.cells [.bool,.lst (.int .i64)],.cells [.bool,.lst (.int .i64)],.cells [.bool,.lst (.int .i64)],.same,.cells [.bool,.lst (.int .i64)]]⟩
def kh9 :LH:=⟨[(2,.asis),(3,.asis),(4,.asis),(5,.asis),(6,.asis),(7,.asis),(8,.asis),(9,.asis),(10,.int .i64),(11,.int .i64),(12,.int .i64)],[],[.cells [.bool,.lst (.int .i64)],.cells [.bool,.lst (.int .i64)],.cells [.bool,.lst (.int .i64)],.cells [.bool,.lst (.int .i64)],.cells [.bool,.lst (.int .i64)],.cells [.bool,.lst (.int .i64)],.same,.cells [.bool,.lst (.int .i64)]]⟩
def zz4 :FH:=⟨[vt2,kh9],[23],[(1,⟨9,83,2,[(6,.alloc 0),(7,.alloc 1),(8,.store true 4)],[]⟩),(7,⟨8,83,0,[],[]⟩),(11,⟨5,83,0,[],[]⟩),(15,⟨5,83,0,[],[]⟩),(16,⟨11,83,0,[],[]⟩)],[(16,8)],false,[],[]⟩
noncomputable def uy5 (N:Nat):q46:=tab [(268,zu0 N),(209,ja3 N),(247,xq4 N),(249,xq2 N),(266,xq9 N)]
theorem r1_Quo_Ts (N:Nat):q13 Tryz.prog (uy5 N):=q06 (zn0 N)<|q06 (zt8 N)<|q06 (v48 N)<|q06 (v47 N)<|q06 (v52 N)<|q25 _
noncomputable def ja6 :Sc:=w89 Tryz.prog zz4
noncomputable def zt9 (N:Nat):Cfg:=⟨N,uy5 N,0⟩
noncomputable def ui8 (N:Nat):Exit→KT (qa3×qa3×Unit):=fin Tryz.prog 0 Tryz.f239.results.toList (q38 [qm8,qm8])
def ja4 (q32:Bool)(x_D:List Int)(qa2:Bool)(y_D:List Int)(q63:Bool)(qm7:List Int)(qe6:Bool)(jo7:List Int)(qw3:Bool)(a_D:List Int)(qt0:Bool)(b_D:List Int)(x:qa3)(e:Int×List Int×Bool×List Int):List TV:=match e with|(i,q,r_Neg,r_D)=>frm 83 [(2,.ref 0 0),(3,.ref 1 0),(4,.ref 2 0),(5,.ref 3 0),(6,.ref 4 0),(7,.ref 5 0),(8,.arr 6 ((x.2.1.length:Int).toNat)),(9,.ref 7 0),(10,.int .i64 i)]
def ja5 (q32:Bool)(x_D:List Int)(qa2:Bool)(y_D:List Int)(q63:Bool)(qm7:List Int)(qe6:Bool)(jo7:List Int)(qw3:Bool)(a_D:List Int)(qt0:Bool)(b_D:List Int)(x:qa3)(e:Int×List Int×Bool×List Int):List TOb:=match e with|(i,q,r_Neg,r_D)=>[.cells [.bool q32,.tl (.int .i64) x_D .unk] 265 true,.cells [.bool qa2,.tl (.int .i64) y_D .unk] 265 true,.cells [.bool q63,.tl (.int .i64) qm7 .unk] 265 true,.cells [.bool qe6,.tl (.int .i64) jo7 .unk] 265 true,.cells [.bool qw3,.tl (.int .i64) a_D .unk] 265 true,.cells [.bool qt0,.tl (.int .i64) b_D .unk] 265 true,.tarr (.int .i64) q 3 true,.cells [.bool r_Neg,.tl (.int .i64) r_D .unk] 265 true]
def vt1 (i:Int)(q32:Bool)(x_D:List Int)(qa2:Bool)(y_D:List Int)(q63:Bool)(qm7:List Int)(qe6:Bool)(jo7:List Int)(qw3:Bool)(a_D:List Int)(qt0:Bool)(b_D q:List Int)(zl3:Bool)(ku6:List Int)(x:qa3)(e:Int×Int):List TV:=match e with|(low,high)=>frm 83 [(2,.ref 0 0),(3,.ref 1 0),(4,.ref 2 0),(5,.ref 3 0),(6,.ref 4 0),(7,.ref 5 0),(8,.arr 6 ((x.2.1.length:Int).toNat)),(9,.ref 7 0),(10,.int .i64 i),(11,.int .i64 low),(12,.int .i64 high)]
def vt4 (i:Int)(q32:Bool)(x_D:List Int)(qa2:Bool)(y_D:List Int)(q63:Bool)(qm7:List Int)(qe6:Bool)(jo7:List Int)(qw3:Bool)(a_D:List Int)(qt0:Bool)(b_D q:List Int)(zl3:Bool)(ku6:List Int)(x:qa3)(e:Int×Int):List TOb:=match e with|(low,high)=>[.cells [.bool q32,.tl (.int .i64) x_D .unk] 265 true,.cells [.bool qa2,.tl (.int .i64) y_D .unk] 265 true,.cells [.bool q63,.tl (.int .i64) qm7 .unk] 265 true,.cells [.bool qe6,.tl (.int .i64) jo7 .unk] 265 true,.cells [.bool qw3,.tl (.int .i64) a_D .unk] 265 true,.cells [.bool qt0,.tl (.int .i64) b_D .unk] 265 true,.tarr (.int .i64) q 3 true,.cells [.bool zl3,.tl (.int .i64) ku6 .unk] 265 true]
noncomputable def ki0 (N:Nat)(K0r:KT (qa3×qa3×Unit)):(KT (qa3×qa3×Unit))→KT (qa3×qa3×Unit):=qy2 DR ja6 (zt9 N) (nv [5,4,0,1,1,4,0,1,5,4,1,0,1,1,1,1] Tryz.f239) kh9 (zz4.loops.drop 2) (qd6 2 (qa6 DR ja6 (zt9 N) (nv [1,1,1,4,0,1,5,4,1,0,1,1,1,1] Tryz.f239) (zz4.loops.drop 2) (qd6 1 (qa6 DR ja6 (zt9 N) (nv [1,1,5,4,1,0,1,1,1,1] Tryz.f239) (zz4.loops.drop 2) (xp4 (zt9 N) vt2 (qd6 0 (qa6 DR ja6 (zt9 N) (nv [1,1,1,1,1] Tryz.f239) (zz4.loops.drop 2) (ui8 N))) K0r)))))
def vt0 (N:Nat)(i:Int)(q32:Bool)(x_D:List Int)(qa2:Bool)(y_D:List Int)(q63:Bool)(qm7:List Int)(qe6:Bool)(jo7:List Int)(qw3:Bool)(a_D:List Int)(qt0:Bool)(b_D q:List Int)(zl3:Bool)(ku6:List Int)(x:qa3)(K0:(Int×List Int×Bool×List Int)→Option (qa3×qa3×Unit))(K1:(Int×Int)→Option (qa3×qa3×Unit))(e:Int×Int):Option (qa3×qa3×Unit):=match e with|(low,high)=>bif decide (low<high) then bif q24 (low+high) then bif q24 ((low+high)+1) then bif q24 (Int.tdiv ((low+high)+1) 2) then (w23 N (Int.tdiv ((low+high)+1) 2)).bind fun r1=>(wk0 N r1 (qt0,b_D,())).bind fun r2=>(vr7 N r2 (zl3,ku6,())).bind fun r3=>bif decide (r3≤0) then K1 (Int.tdiv ((low+high)+1) 2,high) else bif q24 ((Int.tdiv ((low+high)+1) 2)-1) then K1 (low,(Int.tdiv ((low+high)+1) 2)-1) else none else none else none else none else bif inR i ((x.2.1.length:Int).toNat) then bif inR i q.length then (w23 N low).bind fun r4=>(wk0 N r4 (qt0,b_D,())).bind fun r5=>(ui9 N (zl3,ku6,()) r5).bind fun r6=>bif q24 (i-1) then K0 (i-1,(setD q i low),r6.1,r6.2.1) else none else none else none
theorem r1_Quo_l2 (N:Nat)(i:Int)(q32:Bool)(x_D:List Int)(qa2:Bool)(y_D:List Int)(q63:Bool)(qm7:List Int)(qe6:Bool)(jo7:List Int)(qw3:Bool)(a_D:List Int)(qt0:Bool)(b_D q:List Int)(zl3:Bool)(ku6:List Int)(x:qa3)(K0r:KT (qa3×qa3×Unit))(n_:Nat)(e:Int×Int):q55 (ki0 N K0r) n_ ((vt1 i q32 x_D qa2 y_D q63 qm7 qe6 jo7 qw3 a_D qt0 b_D q zl3 ku6 x) e) ((vt4 i q32 x_D qa2 y_D q63 qm7 qe6 jo7 qw3 a_D qt0 b_D q zl3 ku6 x) e)=q80 (vt0 N i q32 x_D qa2 y_D q63 qm7 qe6 jo7 qw3 a_D qt0 b_D q zl3 ku6 x (fun a_=>K0r (ja4 q32 x_D qa2 y_D q63 qm7 qe6 jo7 qw3 a_D qt0 b_D x a_) (ja5 q32 x_D qa2 y_D q63 qm7 qe6 jo7 qw3 a_D qt0 b_D x a_))) n_ e :=
 q36 (vt1 i q32 x_D qa2 y_D q63 qm7 qe6 jo7 qw3 a_D qt0 b_D q zl3 ku6 x) (vt4 i q32 x_D qa2 y_D q63 qm7 qe6 jo7 qw3 a_D qt0 b_D q zl3 ku6 x) (by intro K e;obtain⟨low,high⟩:=e;kernel_rfl) n_ e
noncomputable def vt3 (N:Nat):(KT (qa3×qa3×Unit))→KT (qa3×qa3×Unit):=qy2 DR ja6 (zt9 N) (nv [5,4,1,0,1,1,1,1] Tryz.f239) vt2 (zz4.loops.drop 1) (qd6 0 (qa6 DR ja6 (zt9 N) (nv [1,1,1,1,1] Tryz.f239) (zz4.loops.drop 2) (ui8 N)))
def xq8 (N:Nat)(q32:Bool)(x_D:List Int)(qa2:Bool)(y_D:List Int)(q63:Bool)(qm7:List Int)(qe6:Bool)(jo7:List Int)(qw3:Bool)(a_D:List Int)(qt0:Bool)(b_D:List Int)(x:qa3)(l2:Int→Bool→(List Int)→Bool→(List Int)→Bool→(List Int)→Bool→(List Int)→Bool→(List Int)→Bool→(List Int)→(List Int)→Bool→(List Int)→qa3→(Int×Int)→Option (qa3×qa3×Unit))(K0:(Int×List Int×Bool×List Int)→Option (qa3×qa3×Unit))(e:Int×List Int×Bool×List Int):Option (qa3×qa3×Unit):=match e with|(i,q,r_Neg,r_D)=>bif decide (i≥0) then bif inR i a_D.length then bif qr1 ([(q17 a_D i 0)].length+r_D.length) 17592186044416 then (wo9 N false ([(q17 a_D i 0)]++r_D)).bind fun r=>l2 i q32 x_D qa2 y_D q63 qm7 qe6 jo7 qw3 a_D qt0 b_D q r.1 r.2.1 x (0,9999) else none else none else bif Nat.beq ((x.2.1.length:Int).toNat) q.length then (wo9 N (!(q32==qa2)) q).bind fun r7=>(wo9 N q32 r_D).bind fun r8=>some (r7,r8,()) else none
def xe5 (N:Nat)(q32:Bool)(x_D:List Int)(qa2:Bool)(y_D:List Int)(q63:Bool)(qm7:List Int)(qe6:Bool)(jo7:List Int)(qw3:Bool)(a_D:List Int)(qt0:Bool)(b_D:List Int)(x:qa3)(K0:(Int×List Int×Bool×List Int)→Option (qa3×qa3×Unit))(e:Int×List Int×Bool×List Int):Option (qa3×qa3×Unit):=xq8 N q32 x_D qa2 y_D q63 qm7 qe6 jo7 qw3 a_D qt0 b_D x (fun i q32 x_D qa2 y_D q63 qm7 qe6 jo7 qw3 a_D qt0 b_D q zl3 ku6 x e=>q80 (vt0 N i q32 x_D qa2 y_D q63 qm7 qe6 jo7 qw3 a_D qt0 b_D q zl3 ku6 x K0) N e) K0 e
theorem r1_Quo_l1 (N:Nat)(q32:Bool)(x_D:List Int)(qa2:Bool)(y_D:List Int)(q63:Bool)(qm7:List Int)(qe6:Bool)(jo7:List Int)(qw3:Bool)(a_D:List Int)(qt0:Bool)(b_D:List Int)(x:qa3)(n_:Nat)(e:Int×List Int×Bool×List Int):q55 (vt3 N ) n_ ((ja4 q32 x_D qa2 y_D q63 qm7 qe6 jo7 qw3 a_D qt0 b_D x) e) ((ja5 q32 x_D qa2 y_D q63 qm7 qe6 jo7 qw3 a_D qt0 b_D x) e)=q80 (xe5 N q32 x_D qa2 y_D q63 qm7 qe6 jo7 qw3 a_D qt0 b_D x ) n_ e :=
 q36 (ja4 q32 x_D qa2 y_D q63 qm7 qe6 jo7 qw3 a_D qt0 b_D x) (ja5 q32 x_D qa2 y_D q63 qm7 qe6 jo7 qw3 a_D qt0 b_D x) (by
  intro K e
  have h:(vt3 N ) K ((ja4 q32 x_D qa2 y_D q63 qm7 qe6 jo7 qw3 a_D qt0 b_D x) e) ((ja5 q32 x_D qa2 y_D q63 qm7 qe6 jo7 qw3 a_D qt0 b_D x) e)=xq8 N q32 x_D qa2 y_D q63 qm7 qe6 jo7 qw3 a_D qt0 b_D x (fun i q32 x_D qa2 y_D q63 qm7 qe6 jo7 qw3 a_D qt0 b_D q zl3 ku6 x e=>q55 (ki0 N K) N (vt1 i q32 x_D qa2 y_D q63 qm7 qe6 jo7 qw3 a_D qt0 b_D q zl3 ku6 x e) (vt4 i q32 x_D qa2 y_D q63 qm7 qe6 jo7 qw3 a_D qt0 b_D q zl3 ku6 x e)) (fun e=>K ((ja4 q32 x_D qa2 y_D q63 qm7 qe6 jo7 qw3 a_D qt0 b_D x) e) ((ja5 q32 x_D qa2 y_D q63 qm7 qe6 jo7 qw3 a_D qt0 b_D x) e)) e:=by obtain⟨i,q,r_Neg,r_D⟩:=e;kernel_rfl
  rw[h]
  simp only[xe5,r1_Quo_l2]<;>rfl) n_ e
def uy6 (N:Nat)(x y:qa3)(l1:Bool→(List Int)→Bool→(List Int)→Bool→(List Int)→Bool→(List Int)→Bool→(List Int)→Bool→(List Int)→qa3→(Int×List Int×Bool×List Int)→Option (qa3×qa3×Unit)):Option (qa3×qa3×Unit):=bif jz5 8 (x.2.1.length:Int) (x.2.1.length:Int) then bif q24 ((x.2.1.length:Int)-1) then l1 x.1 x.2.1 y.1 y.2.1 false [] false [] false x.2.1 false y.2.1 x ((x.2.1.length:Int)-1,(List.replicate (x.2.1.length:Int).toNat 0),false,[]) else none else none
def v51 (N:Nat)(x y:qa3):Option (qa3×qa3×Unit):=uy6 N x y (fun q32 x_D qa2 y_D q63 qm7 qe6 jo7 qw3 a_D qt0 b_D x e=>q80 (xe5 N q32 x_D qa2 y_D q63 qm7 qe6 jo7 qw3 a_D qt0 b_D x) N e)
noncomputable def q6g (N:Nat)(x y:qa3):Option (RT [qm8,qm8]):=q20 DR Tryz.prog N (uy5 N) zz4 Tryz.f239 (q31 Tryz.f239) (RT [qm8,qm8]) (qb7 [qm8,qm8] (x,y,())) [] (q38 [qm8,qm8])
theorem q9j (N:Nat)(x y:qa3):q6g N x y=v51 N x y:=by
 have h:q6g N x y=uy6 N x y (fun q32 x_D qa2 y_D q63 qm7 qe6 jo7 qw3 a_D qt0 b_D x e=>q55 (vt3 N ) N (ja4 q32 x_D qa2 y_D q63 qm7 qe6 jo7 qw3 a_D qt0 b_D x e) (ja5 q32 x_D qa2 y_D q63 qm7 qe6 jo7 qw3 a_D qt0 b_D x e)):=by kernel_rfl
 rw[h]
 simp only[v51,r1_Quo_l1]<;>rfl
def q0f (m:qa3→qa3→Option (qa3×qa3×Unit)):Ent:=q29 [qm8,qm8] [qm8,qm8] fun (x:Els [qm8,qm8])=>m x.1 x.2.1
def ui7 (N:Nat):Ent:=q0f (v51 N)
theorem ki1 (N:Nat):q16 Tryz.prog 239 (ui7 N):=q10 (r1_Quo_Ts N) Tryz.func239 rfl (by kernel_rfl) fun (x:Els [qm8,qm8])=>q9j N x.1 x.2.1
end Go.Proofs.YtgicljncknbgcaaGreat.Abs
