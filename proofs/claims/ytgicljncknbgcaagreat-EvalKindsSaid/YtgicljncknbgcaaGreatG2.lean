/- The functions of the program, told on typed values, printed by a program: each tells what the reckoning of its body tells. -/
import Derived.Test.YtgicljncknbgcaaGreatL7
import Derived.Test.YtgicljncknbgcaaGreatG0
import Derived.Test.YtgicljncknbgcaaGreatLA
import Derived.Test.YtgicljncknbgcaaGreatProg
set_option linter.unusedVariables false
set_option linter.unusedSimpArgs false
set_option linter.unusedSectionVars false
namespace Go.Proofs.YtgicljncknbgcaaGreat.Abs
set_option maxRecDepth 100000
open Go Go.Proofs
def v56 :LH:=⟨[(1,.int .i64),(5,.str),(6,.asis)],[],[.cells [.bool,.lst (.int .i64)],.cells [.bool,.lst (.int .i64)]]⟩
def jm6 :FH:=⟨[v56],[],[(4,⟨9,46,2,[(6,.alloc 0),(7,.alloc 1),(8,.store true 2)],[]⟩)],[],false,[],[]⟩
noncomputable def x09 (N:Nat):q46:=tab [(209,ja3 N),(239,ui7 N)]
theorem kj6 (N:Nat):q13 Tryz.prog (x09 N):=q06 (zt8 N)<|q06 (ki1 N)<|q25 _
noncomputable def v59 :Sc:=w89 Tryz.prog jm6
noncomputable def v58 (N:Nat):Cfg:=⟨N,x09 N,0⟩
noncomputable def k03 (N:Nat):Exit→KT (List UInt8):=fin Tryz.prog 0 Tryz.f210.results.toList (q38 [.str])
def yb7 (least:Int)(zy8:Bool)(q5n:List Int)(e:List UInt8×Bool×List Int):List TV:=match e with|(s,left_Neg,left_D)=>frm 46 [(1,.int .i64 least),(5,.str s),(6,.ref 1 0)]
def yb8 (least:Int)(zy8:Bool)(q5n:List Int)(e:List UInt8×Bool×List Int):List TOb:=match e with|(s,left_Neg,left_D)=>[.cells [.bool zy8,.tl (.int .i64) q5n .unk] 265 true,.cells [.bool left_Neg,.tl (.int .i64) left_D .unk] 265 true]
noncomputable def v57 (N:Nat):(KT (List UInt8))→KT (List UInt8):=qy2 DR v59 (v58 N) (nv [5,4,0,1,1,1] Tryz.f210) v56 (jm6.loops.drop 1) (qd6 0 (qa6 DR v59 (v58 N) (nv [1,1,1,1] Tryz.f210) (jm6.loops.drop 1) (k03 N)))
def yb6 (N:Nat)(least:Int)(zy8:Bool)(q5n:List Int)(K0:(List UInt8×Bool×List Int)→Option (List UInt8))(e:List UInt8×Bool×List Int):Option (List UInt8):=match e with|(s,left_Neg,left_D)=>bif decide ((left_D.length:Int)>0) then (w23 N 10).bind fun r=>(v51 N (left_Neg,left_D,()) r).bind fun r1=>bif decide ((r1.2.1.2.1.length:Int)>0) then bif inR 0 r1.2.1.2.1.length then bif q24 (48+(q17 r1.2.1.2.1 0 0)) then bif qj1 (w02 [(IntKind.u8.wrap (48+(q17 r1.2.1.2.1 0 0)))]) s then K0 (((w02 [(IntKind.u8.wrap (48+(q17 r1.2.1.2.1 0 0)))])++s),r1.1.1,r1.1.2.1) else none else none else none else bif qj1 (w02 [(IntKind.u8.wrap 48)]) s then K0 (((w02 [(IntKind.u8.wrap 48)])++s),r1.1.1,r1.1.2.1) else none else bif decide ((s.length:Int)<least) then (w23 N 10).bind fun r2=>(v51 N (left_Neg,left_D,()) r2).bind fun r3=>bif decide ((r3.2.1.2.1.length:Int)>0) then bif inR 0 r3.2.1.2.1.length then bif q24 (48+(q17 r3.2.1.2.1 0 0)) then bif qj1 (w02 [(IntKind.u8.wrap (48+(q17 r3.2.1.2.1 0 0)))]) s then K0 (((w02 [(IntKind.u8.wrap (48+(q17 r3.2.1.2.1 0 0)))])++s),r3.1.1,r3.1.2.1) else none else none else none else bif qj1 (w02 [(IntKind.u8.wrap 48)]) s then K0 (((w02 [(IntKind.u8.wrap 48)])++s),r3.1.1,r3.1.2.1) else none else some s
theorem kj7 (N:Nat)(least:Int)(zy8:Bool)(q5n:List Int)(n_:Nat)(e:List UInt8×Bool×List Int):q55 (v57 N ) n_ ((yb7 least zy8 q5n) e) ((yb8 least zy8 q5n) e)=q80 (yb6 N least zy8 q5n ) n_ e :=
 q36 (yb7 least zy8 q5n) (yb8 least zy8 q5n) (by intro K e;obtain⟨s,left_Neg,left_D⟩:=e;kernel_rfl) n_ e
def x10 (N:Nat)(x:qa3)(least:Int)(l1:Int→Bool→(List Int)→(List UInt8×Bool×List Int)→Option (List UInt8)):Option (List UInt8):=l1 least x.1 x.2.1 ([],false,x.2.1)
def wp0 (N:Nat)(x:qa3)(least:Int):Option (List UInt8):=x10 N x least (fun least zy8 q5n e=>q80 (yb6 N least zy8 q5n) N e)
noncomputable def vv1 (N:Nat)(x:qa3)(least:Int):Option (RT [.str]):=q20 DR Tryz.prog N (x09 N) jm6 Tryz.f210 (q31 Tryz.f210) (RT [.str]) (qb7 [qm8,(.int .i64)] (x,least,())) [] (q38 [.str])
theorem k04 (N:Nat)(x:qa3)(least:Int):vv1 N x least=wp0 N x least:=by
 have h:vv1 N x least=x10 N x least (fun least zy8 q5n e=>q55 (v57 N ) N (yb7 least zy8 q5n e) (yb8 least zy8 q5n e)):=by kernel_rfl
 rw[h]
 simp only[wp0,kj7]<;>rfl
def ub1 (m:qa3→Int→Option (List UInt8)):Ent:=q29 [qm8,(.int .i64)] [.str] fun (x:Els [qm8,(.int .i64)])=>m x.1 x.2.1
def xf5 (N:Nat):Ent:=ub1 (wp0 N)
theorem vv2 (N:Nat):q16 Tryz.prog 210 (xf5 N):=q10 (kj6 N) Tryz.func210 rfl (by kernel_rfl) fun (x:Els [qm8,(.int .i64)])=>k04 N x.1 x.2.1
def uk4 :LH:=⟨[(4,.str),(5,.str),(6,.int .i64)],[],[.cells [.int .u8,.int .i64,.str],.cells [.bool,.lst (.int .i64)]]⟩
def yi6 :LH:=⟨[(1,.asis),(7,.str),(8,.int .i64)],[],[.cells [.int .u8,.int .i64,.str],.cells [.bool,.lst (.int .i64)]]⟩
def qp8 :FH:=⟨[uk4,yi6],[],[(17,⟨14,103,0,[],[]⟩)],[],false,[],[(7,⟨[(1,.asis),(3,.asis),(4,.str)],[],[.cells [.int .u8,.int .i64,.str],.cells [.bool,.lst (.int .i64)]]⟩),(29,⟨[(1,.asis),(7,.str),(8,.int .i64)],[],[.cells [.int .u8,.int .i64,.str],.cells [.bool,.lst (.int .i64)]]⟩),(30,⟨[(1,.asis),(7,.str),(8,.int .i64)],[],[.cells [.int .u8,.int .i64,.str],.cells [.bool,.lst (.int .i64)]]⟩)]⟩
noncomputable def vv0 (N:Nat):q46:=tab [(14,yi2 N),(209,ja3 N),(210,xf5 N)]
theorem q9y (N:Nat):q13 Tryz.prog (vv0 N):=q06 (yb2 N)<|q06 (zt8 N)<|q06 (vv2 N)<|q25 _
noncomputable def qg5 :Sc:=w89 Tryz.prog qp8
noncomputable def qd4 (N:Nat):Cfg:=⟨N,vv0 N,0⟩
noncomputable def zu7 (N:Nat):Exit→KT (List UInt8):=fin Tryz.prog 0 Tryz.f148.results.toList (q38 [.str])
def xs1 (q41 v_N:Int)(v_S:List UInt8)(q32:Bool)(x_D:List Int)(e:List UInt8):List TV:=match e with|sign=>frm 103 [(1,.ref 0 0),(3,.ref 1 0),(4,.str sign)]
def xt0 (q41 v_N:Int)(v_S:List UInt8)(q32:Bool)(x_D:List Int)(e:List UInt8):List TOb:=match e with|sign=>[.cells [.int .u8 q41,.int .i64 v_N,.str v_S] 26 true,.cells [.bool q32,.tl (.int .i64) x_D .unk] 265 true]
def wk1 (q41 v_N:Int)(v_S:List UInt8)(q32:Bool)(x_D:List Int)(e:List UInt8×Int):List TV:=match e with|(s,i)=>frm 103 [(1,.ref 0 0),(7,.str s),(8,.int .i64 i)]
def wk2 (q41 v_N:Int)(v_S:List UInt8)(q32:Bool)(x_D:List Int)(e:List UInt8×Int):List TOb:=match e with|(s,i)=>[.cells [.int .u8 q41,.int .i64 v_N,.str v_S] 26 true,.cells [.bool q32,.tl (.int .i64) x_D .unk] 265 true]
def xs4 (s:List UInt8)(i q41 v_N:Int)(v_S:List UInt8)(q32:Bool)(x_D:List Int)(e:Unit):List TV:=frm 103 [(1,.ref 0 0),(7,.str s),(8,.int .i64 i)]
def xt2 (s:List UInt8)(i q41 v_N:Int)(v_S:List UInt8)(q32:Bool)(x_D:List Int)(e:Unit):List TOb:=[.cells [.int .u8 q41,.int .i64 v_N,.str v_S] 26 true,.cells [.bool q32,.tl (.int .i64) x_D .unk] 265 true]
def xs5 (i q41 v_N:Int)(v_S:List UInt8)(q32:Bool)(x_D:List Int)(e:List UInt8):List TV:=match e with|s1=>frm 103 [(1,.ref 0 0),(7,.str s1),(8,.int .i64 i)]
def xt3 (i q41 v_N:Int)(v_S:List UInt8)(q32:Bool)(x_D:List Int)(e:List UInt8):List TOb:=match e with|s1=>[.cells [.int .u8 q41,.int .i64 v_N,.str v_S] 26 true,.cells [.bool q32,.tl (.int .i64) x_D .unk] 265 true]
def xs3 (sign r3:List UInt8)(q41 v_N:Int)(v_S:List UInt8)(q32:Bool)(x_D:List Int)(e:Int):List TV:=match e with|end_=>frm 103 [(4,.str sign),(5,.str r3),(6,.int .i64 end_)]
def xt1 (sign r3:List UInt8)(q41 v_N:Int)(v_S:List UInt8)(q32:Bool)(x_D:List Int)(e:Int):List TOb:=match e with|end_=>[.cells [.int .u8 q41,.int .i64 v_N,.str v_S] 26 true,.cells [.bool q32,.tl (.int .i64) x_D .unk] 265 true]
noncomputable def uk5 (N:Nat):(KT (List UInt8))→KT (List UInt8):=qy2 DR qg5 (qd4 N) (nv [5,4,0,1,1,2,1,3,1,3,1,4,1,0,1,1,1,1,1] Tryz.f148) uk4 (qp8.loops.drop 1) (qd6 1 (qa6 DR qg5 (qd4 N) (nv [1,1,1,2,1,3,1,3,1,4,1,0,1,1,1,1,1] Tryz.f148) (qp8.loops.drop 1) (qd6 0 (qa6 DR qg5 (qd4 N) (nv [1,1,1,1,1,1] Tryz.f148) (qp8.loops.drop 1) (zu7 N)))))
def yi5 (N:Nat)(sign r3:List UInt8)(q41 v_N:Int)(v_S:List UInt8)(q32:Bool)(x_D:List Int)(K0:Int→Option (List UInt8))(e:Int):Option (List UInt8):=match e with|end_=>bif q24 ((r3.length:Int)-3) then bif decide (end_>((r3.length:Int)-3)) then bif q24 (end_-1) then bif inR (end_-1) r3.length then bif ((q37 r3 (end_-1))==48) then bif q24 (end_-1) then K0 (end_-1) else none else bif q24 ((r3.length:Int)-4) then bif upTo ((r3.length:Int)-4) r3.length then bif qj1 sign (r3.take ((r3.length:Int)-4).toNat) then bif qj1 (sign++(r3.take ((r3.length:Int)-4).toNat)) ([46]:List UInt8) then bif q24 ((r3.length:Int)-4) then bif inB ((r3.length:Int)-4) end_ r3.length then bif qj1 ((sign++(r3.take ((r3.length:Int)-4).toNat))++([46]:List UInt8)) ((r3.take end_.toNat).drop ((r3.length:Int)-4).toNat) then some (((sign++(r3.take ((r3.length:Int)-4).toNat))++([46]:List UInt8))++((r3.take end_.toNat).drop ((r3.length:Int)-4).toNat)) else none else none else none else none else none else none else none else none else none else bif q24 ((r3.length:Int)-4) then bif upTo ((r3.length:Int)-4) r3.length then bif qj1 sign (r3.take ((r3.length:Int)-4).toNat) then bif qj1 (sign++(r3.take ((r3.length:Int)-4).toNat)) ([46]:List UInt8) then bif q24 ((r3.length:Int)-4) then bif inB ((r3.length:Int)-4) end_ r3.length then bif qj1 ((sign++(r3.take ((r3.length:Int)-4).toNat))++([46]:List UInt8)) ((r3.take end_.toNat).drop ((r3.length:Int)-4).toNat) then some (((sign++(r3.take ((r3.length:Int)-4).toNat))++([46]:List UInt8))++((r3.take end_.toNat).drop ((r3.length:Int)-4).toNat)) else none else none else none else none else none else none else none else none
theorem w0a (N:Nat)(sign r3:List UInt8)(q41 v_N:Int)(v_S:List UInt8)(q32:Bool)(x_D:List Int)(n_:Nat)(e:Int):q55 (uk5 N ) n_ ((xs3 sign r3 q41 v_N v_S q32 x_D) e) ((xt1 sign r3 q41 v_N v_S q32 x_D) e)=q80 (yi5 N sign r3 q41 v_N v_S q32 x_D ) n_ e :=
 q36 (xs3 sign r3 q41 v_N v_S q32 x_D) (xt1 sign r3 q41 v_N v_S q32 x_D) (by intro K e;kernel_rfl) n_ e
noncomputable def xs9 (N:Nat)(K0r:KT (List UInt8)):KT (List UInt8):=yr0 DR qg5 (qd4 N) (nv [1,4,0,1,5,4,1,0,1,1,1,1,1,1,1] Tryz.f148) (qd6 4 (qa6 DR qg5 (qd4 N) (nv [1,1,5,4,1,0,1,1,1,1,1,1,1] Tryz.f148) (qp8.loops.drop 2) (xp4 (qd4 N) yi6 (qd6 3 (qa6 DR qg5 (qd4 N) (nv [1,1,1,1,1,1,1,1] Tryz.f148) (qp8.loops.drop 2) (zu7 N))) K0r)))
def wv1 (N:Nat)(i q41 v_N:Int)(v_S:List UInt8)(q32:Bool)(x_D:List Int)(K0:(List UInt8×Int)→Option (List UInt8))(e:List UInt8):Option (List UInt8):=match e with|s1=>bif q24 (i+1) then bif inB i (i+1) v_S.length then bif qj1 s1 ((v_S.take (i+1).toNat).drop i.toNat) then bif q24 (i+1) then K0 ((s1++((v_S.take (i+1).toNat).drop i.toNat)),i+1) else none else none else none else none
theorem uk6 (N:Nat)(i q41 v_N:Int)(v_S:List UInt8)(q32:Bool)(x_D:List Int)(K0r:KT (List UInt8))(e:List UInt8):jmp N (xs9 N K0r) ((xs5 i q41 v_N v_S q32 x_D) e) ((xt3 i q41 v_N v_S q32 x_D) e)=at1 N (wv1 N i q41 v_N v_S q32 x_D (fun a_=>K0r (wk1 q41 v_N v_S q32 x_D a_) (wk2 q41 v_N v_S q32 x_D a_)) e):=qj5 (by kernel_rfl) N
noncomputable def xs8 (N:Nat)(K0r:KT (List UInt8)):KT (List UInt8):=yr0 DR qg5 (qd4 N) (nv [2,1,0,4,0,1,5,4,1,0,1,1,1,1,1,1,1] Tryz.f148) (qa6 DR qg5 (qd4 N) (nv [1,4,0,1,5,4,1,0,1,1,1,1,1,1,1] Tryz.f148) (qp8.loops.drop 2) (qd6 4 (qa6 DR qg5 (qd4 N) (nv [1,1,5,4,1,0,1,1,1,1,1,1,1] Tryz.f148) (qp8.loops.drop 2) (xp4 (qd4 N) yi6 (qd6 3 (qa6 DR qg5 (qd4 N) (nv [1,1,1,1,1,1,1,1] Tryz.f148) (qp8.loops.drop 2) (zu7 N))) K0r))))
def jm5 (N:Nat)(s:List UInt8)(i q41 v_N:Int)(v_S:List UInt8)(q32:Bool)(x_D:List Int)(K0:(List UInt8×Int)→Option (List UInt8))(l5:Int→Int→Int→(List UInt8)→Bool→(List Int)→(List UInt8)→Option (List UInt8))(e:Unit):Option (List UInt8):=bif qj1 s ([92]:List UInt8) then l5 i q41 v_N v_S q32 x_D (s++([92]:List UInt8)) else none
def wv0 (N:Nat)(s:List UInt8)(i q41 v_N:Int)(v_S:List UInt8)(q32:Bool)(x_D:List Int)(K0:(List UInt8×Int)→Option (List UInt8))(e:Unit):Option (List UInt8):=jm5 N s i q41 v_N v_S q32 x_D K0 (fun i q41 v_N v_S q32 x_D e=>at1 N (wv1 N i q41 v_N v_S q32 x_D K0 e)) e
theorem w0c (N:Nat)(s:List UInt8)(i q41 v_N:Int)(v_S:List UInt8)(q32:Bool)(x_D:List Int)(K0r:KT (List UInt8))(e:Unit):jmp N (xs8 N K0r) ((xs4 s i q41 v_N v_S q32 x_D) e) ((xt2 s i q41 v_N v_S q32 x_D) e)=at1 N (wv0 N s i q41 v_N v_S q32 x_D (fun a_=>K0r (wk1 q41 v_N v_S q32 x_D a_) (wk2 q41 v_N v_S q32 x_D a_)) e):=qj5 (by
 have h:(xs8 N K0r) ((xs4 s i q41 v_N v_S q32 x_D) e) ((xt2 s i q41 v_N v_S q32 x_D) e)=jm5 N s i q41 v_N v_S q32 x_D (fun a_=>K0r (wk1 q41 v_N v_S q32 x_D a_) (wk2 q41 v_N v_S q32 x_D a_)) (fun i q41 v_N v_S q32 x_D e=>jmp N (xs9 N K0r) (xs5 i q41 v_N v_S q32 x_D e) (xt3 i q41 v_N v_S q32 x_D e)) e:=by kernel_rfl
 rw[h]
 simp only[wv0,uk6]<;>rfl) N
noncomputable def xs7 (N:Nat):(KT (List UInt8))→KT (List UInt8):=qy2 DR qg5 (qd4 N) (nv [5,4,1,0,1,1,1,1,1,1,1] Tryz.f148) yi6 (qp8.loops.drop 2) (qd6 3 (qa6 DR qg5 (qd4 N) (nv [1,1,1,1,1,1,1,1] Tryz.f148) (qp8.loops.drop 2) (zu7 N)))
def jm4 (N:Nat)(q41 v_N:Int)(v_S:List UInt8)(q32:Bool)(x_D:List Int)(l4:(List UInt8)→Int→Int→Int→(List UInt8)→Bool→(List Int)→Unit→Option (List UInt8))(l5:Int→Int→Int→(List UInt8)→Bool→(List Int)→(List UInt8)→Option (List UInt8))(K0:(List UInt8×Int)→Option (List UInt8))(e:List UInt8×Int):Option (List UInt8):=match e with|(s,i)=>bif decide (i<(v_S.length:Int)) then bif inR i v_S.length then bif ((q37 v_S i)==34) then l4 s i q41 v_N v_S q32 x_D () else bif inR i v_S.length then bif ((q37 v_S i)==92) then l4 s i q41 v_N v_S q32 x_D () else l5 i q41 v_N v_S q32 x_D s else none else none else bif qj1 s ([34]:List UInt8) then some (s++([34]:List UInt8)) else none
def ja7 (N:Nat)(q41 v_N:Int)(v_S:List UInt8)(q32:Bool)(x_D:List Int)(K0:(List UInt8×Int)→Option (List UInt8))(e:List UInt8×Int):Option (List UInt8):=jm4 N q41 v_N v_S q32 x_D (fun s i q41 v_N v_S q32 x_D e=>at1 N (wv0 N s i q41 v_N v_S q32 x_D K0 e)) (fun i q41 v_N v_S q32 x_D e=>at1 N (wv1 N i q41 v_N v_S q32 x_D K0 e)) K0 e
theorem w0b (N:Nat)(q41 v_N:Int)(v_S:List UInt8)(q32:Bool)(x_D:List Int)(n_:Nat)(e:List UInt8×Int):q55 (xs7 N ) n_ ((wk1 q41 v_N v_S q32 x_D) e) ((wk2 q41 v_N v_S q32 x_D) e)=q80 (ja7 N q41 v_N v_S q32 x_D ) n_ e :=
 q36 (wk1 q41 v_N v_S q32 x_D) (wk2 q41 v_N v_S q32 x_D) (by
  intro K e
  have h:(xs7 N ) K ((wk1 q41 v_N v_S q32 x_D) e) ((wk2 q41 v_N v_S q32 x_D) e)=jm4 N q41 v_N v_S q32 x_D (fun s i q41 v_N v_S q32 x_D e=>jmp N (xs8 N K) (xs4 s i q41 v_N v_S q32 x_D e) (xt2 s i q41 v_N v_S q32 x_D e)) (fun i q41 v_N v_S q32 x_D e=>jmp N (xs9 N K) (xs5 i q41 v_N v_S q32 x_D e) (xt3 i q41 v_N v_S q32 x_D e)) (fun e=>K ((wk1 q41 v_N v_S q32 x_D) e) ((wk2 q41 v_N v_S q32 x_D) e)) e:=by obtain⟨s,i⟩:=e;kernel_rfl
  rw[h]
  simp only[ja7,w0c,uk6]<;>rfl) n_ e
noncomputable def xs6 (N:Nat):KT (List UInt8):=yr0 DR qg5 (qd4 N) (nv [0,0,1,1,1,1,1] Tryz.f148) (qa6 DR qg5 (qd4 N) (nv [1,0,1,1,1,1,1] Tryz.f148) (qp8.loops.drop 0) (qa6 DR qg5 (qd4 N) (nv [1,1,1,1,1,1] Tryz.f148) (qp8.loops.drop 1) (zu7 N)))
def jm3 (N:Nat)(q41 v_N:Int)(v_S:List UInt8)(q32:Bool)(x_D:List Int)(l2:(List UInt8)→(List UInt8)→Int→Int→(List UInt8)→Bool→(List Int)→Int→Option (List UInt8))(l3:Int→Int→(List UInt8)→Bool→(List Int)→(List UInt8×Int)→Option (List UInt8))(e:List UInt8):Option (List UInt8):=match e with|sign=>bif (q41==0) then some [110,117,108,108] else bif (q41==1) then (wp0 N (q32,x_D,()) 1).bind fun r2=>bif qj1 sign r2 then some (sign++r2) else none else bif (q41==2) then (wp0 N (q32,x_D,()) 5).bind fun r3=>l2 sign r3 q41 v_N v_S q32 x_D (r3.length:Int) else bif (q41==4) then bif (v_N==1) then some [116,114,117,101] else some [102,97,108,115,101] else bif (q41==5) then bif qj1 ([35]:List UInt8) v_S then some (([35]:List UInt8)++v_S) else none else l3 q41 v_N v_S q32 x_D ([34],0)
def wu9 (N:Nat)(q41 v_N:Int)(v_S:List UInt8)(q32:Bool)(x_D:List Int)(e:List UInt8):Option (List UInt8):=jm3 N q41 v_N v_S q32 x_D (fun sign r3 q41 v_N v_S q32 x_D e=>q80 (yi5 N sign r3 q41 v_N v_S q32 x_D) N e) (fun q41 v_N v_S q32 x_D e=>q80 (ja7 N q41 v_N v_S q32 x_D) N e) e
theorem q9z (N:Nat)(q41 v_N:Int)(v_S:List UInt8)(q32:Bool)(x_D:List Int)(e:List UInt8):jmp N (xs6 N ) ((xs1 q41 v_N v_S q32 x_D) e) ((xt0 q41 v_N v_S q32 x_D) e)=at1 N (wu9 N q41 v_N v_S q32 x_D e):=qj5 (by
 have h:(xs6 N ) ((xs1 q41 v_N v_S q32 x_D) e) ((xt0 q41 v_N v_S q32 x_D) e)=jm3 N q41 v_N v_S q32 x_D (fun sign r3 q41 v_N v_S q32 x_D e=>q55 (uk5 N ) N (xs3 sign r3 q41 v_N v_S q32 x_D e) (xt1 sign r3 q41 v_N v_S q32 x_D e)) (fun q41 v_N v_S q32 x_D e=>q55 (xs7 N ) N (wk1 q41 v_N v_S q32 x_D e) (wk2 q41 v_N v_S q32 x_D e)) e:=by kernel_rfl
 rw[h]
 simp only[wu9,w0a,w0b]<;>rfl) N
def xf4 (N:Nat)(v:q00)(l1:Int→Int→(List UInt8)→Bool→(List Int)→(List UInt8)→Option (List UInt8)):Option (List UInt8):=(zl0 N v).bind fun r=>bif (!r) then some [] else (w23 N v.2.1).bind fun r1=>bif r1.1 then l1 v.1 v.2.1 v.2.2.1 r1.1 r1.2.1 [45] else l1 v.1 v.2.1 v.2.2.1 r1.1 r1.2.1 []
def jm2 (N:Nat)(v:q00):Option (List UInt8):=xf4 N v (fun q41 v_N v_S q32 x_D e=>at1 N (wu9 N q41 v_N v_S q32 x_D e))
noncomputable def kj4 (N:Nat)(v:q00):Option (RT [.str]):=q20 DR Tryz.prog N (vv0 N) qp8 Tryz.f148 (q31 Tryz.f148) (RT [.str]) (qb7 [q05] (v,())) [] (q38 [.str])
theorem q1a (N:Nat)(v:q00):kj4 N v=jm2 N v:=by
 have h:kj4 N v=xf4 N v (fun q41 v_N v_S q32 x_D e=>jmp N (xs6 N ) (xs1 q41 v_N v_S q32 x_D e) (xt0 q41 v_N v_S q32 x_D e)):=by kernel_rfl
 rw[h]
 simp only[jm2,q9z]<;>rfl
def kj5 (m:q00→Option (List UInt8)):Ent:=q29 [q05] [.str] fun (x:Els [q05])=>m x.1
def x08 (N:Nat):Ent:=kj5 (jm2 N)
theorem xf3 (N:Nat):q16 Tryz.prog 148 (x08 N):=q10 (q9y N) Tryz.func148 rfl (by kernel_rfl) fun (x:Els [q05])=>q1a N x.1
def vv3 :LH:=⟨[(0,.str),(3,.str),(4,.int .i64)],[],[]⟩
def yi8 :FH:=⟨[vv3],[],[],[],false,[],[]⟩
noncomputable def xt4 (N:Nat):q46:=tab []
theorem q1b (N:Nat):q13 Tryz.prog (xt4 N):=q25 _
noncomputable def vv6 :Sc:=w89 Tryz.prog yi8
noncomputable def vv5 (N:Nat):Cfg:=⟨N,xt4 N,0⟩
noncomputable def kj8 (N:Nat):Exit→KT (List UInt8):=fin Tryz.prog 0 Tryz.f203.results.toList (q38 [.str])
def x12 (s:List UInt8)(e:List UInt8×Int):List TV:=match e with|(out,i)=>frm 26 [(0,.str s),(3,.str out),(4,.int .i64 i)]
def x13 (s:List UInt8)(e:List UInt8×Int):List TOb:=match e with|(out,i)=>[]
noncomputable def vv4 (N:Nat):(KT (List UInt8))→KT (List UInt8):=qy2 DR vv6 (vv5 N) (nv [5,4,1,0,1,1] Tryz.f203) vv3 (yi8.loops.drop 1) (qd6 0 (qa6 DR vv6 (vv5 N) (nv [1,1,1] Tryz.f203) (yi8.loops.drop 1) (kj8 N)))
def x11 (N:Nat)(s:List UInt8)(K0:(List UInt8×Int)→Option (List UInt8))(e:List UInt8×Int):Option (List UInt8):=match e with|(out,i)=>bif q24 (i+1) then bif decide ((i+1)<(s.length:Int)) then bif inR i s.length then bif ((q37 s i)==92) then bif q24 (i+1) then bif q24 ((i+1)+1) then bif inB (i+1) ((i+1)+1) s.length then bif qj1 out ((s.take ((i+1)+1).toNat).drop (i+1).toNat) then bif q24 ((i+1)+1) then K0 ((out++((s.take ((i+1)+1).toNat).drop (i+1).toNat)),(i+1)+1) else none else none else none else none else none else bif q24 (i+1) then bif inB i (i+1) s.length then bif qj1 out ((s.take (i+1).toNat).drop i.toNat) then bif q24 (i+1) then K0 ((out++((s.take (i+1).toNat).drop i.toNat)),i+1) else none else none else none else none else none else some out else none
theorem q1c (N:Nat)(s:List UInt8)(n_:Nat)(e:List UInt8×Int):q55 (vv4 N ) n_ ((x12 s) e) ((x13 s) e)=q80 (x11 N s ) n_ e :=
 q36 (x12 s) (x13 s) (by intro K e;obtain⟨out,i⟩:=e;kernel_rfl) n_ e
def xt5 (N:Nat)(s:List UInt8)(l1:(List UInt8)→(List UInt8×Int)→Option (List UInt8)):Option (List UInt8):=l1 s ([],1)
def yi7 (N:Nat)(s:List UInt8):Option (List UInt8):=xt5 N s (fun s e=>q80 (x11 N s) N e)
noncomputable def uk7 (N:Nat)(s:List UInt8):Option (RT [.str]):=q20 DR Tryz.prog N (xt4 N) yi8 Tryz.f203 (q31 Tryz.f203) (RT [.str]) (qb7 [.str] (s,())) [] (q38 [.str])
theorem kj9 (N:Nat)(s:List UInt8):uk7 N s=yi7 N s:=by
 have h:uk7 N s=xt5 N s (fun s e=>q55 (vv4 N ) N (x12 s e) (x13 s e)):=by kernel_rfl
 rw[h]
 simp only[yi7,q1c]<;>rfl
def k05 (m:(List UInt8)→Option (List UInt8)):Ent:=q29 [.str] [.str] fun (x:Els [.str])=>m x.1
def v60 (N:Nat):Ent:=k05 (yi7 N)
theorem ub2 (N:Nat):q16 Tryz.prog 203 (v60 N):=q10 (q1b N) Tryz.func203 rfl (by kernel_rfl) fun (x:Els [.str])=>kj9 N x.1
def vs6 :LH:=⟨[(1,.asis),(6,.int .i64),(7,.int .i64)],[],[.cells [.bool,.lst (.int .i64)],.cells [.bool,.lst (.int .i64)],.cells [.bool,.lst (.int .i64)]]⟩
def yi1 :FH:=⟨[vs6],[],[],[],false,[],[]⟩
noncomputable def xq5 (N:Nat):q46:=tab [(209,ja3 N),(249,xq2 N)]
theorem q0a (N:Nat):q13 Tryz.prog (xq5 N):=q06 (zt8 N)<|q06 (v47 N)<|q25 _
noncomputable def vs9 :Sc:=w89 Tryz.prog yi1
noncomputable def vs8 (N:Nat):Cfg:=⟨N,xq5 N,0⟩
noncomputable def kh7 (N:Nat):Exit→KT (Int×Int×Unit):=fin Tryz.prog 0 Tryz.f204.results.toList (q38 [(.int .i64),(.int .i64)])
def yz5 (q32:Bool)(x_D:List Int)(zy9:Bool)(q5o:List Int)(qj6:Bool)(yq6:List Int)(e:Int×Int):List TV:=match e with|(n,i)=>frm 47 [(1,.ref 0 0),(6,.int .i64 n),(7,.int .i64 i)]
def yz6 (q32:Bool)(x_D:List Int)(zy9:Bool)(q5o:List Int)(qj6:Bool)(yq6:List Int)(e:Int×Int):List TOb:=match e with|(n,i)=>[.cells [.bool q32,.tl (.int .i64) x_D .unk] 265 true,.cells [.bool zy9,.tl (.int .i64) q5o .unk] 265 true,.cells [.bool qj6,.tl (.int .i64) yq6 .unk] 265 true]
noncomputable def vs7 (N:Nat):(KT (Int×Int×Unit))→KT (Int×Int×Unit):=qy2 DR vs9 (vs8 N) (nv [5,4,1,0,1,1,1,1] Tryz.f204) vs6 (yi1.loops.drop 1) (qd6 0 (qa6 DR vs9 (vs8 N) (nv [1,1,1,1,1] Tryz.f204) (yi1.loops.drop 1) (kh7 N)))
def yz4 (N:Nat)(q32:Bool)(x_D:List Int)(zy9:Bool)(q5o:List Int)(qj6:Bool)(yq6:List Int)(K0:(Int×Int)→Option (Int×Int×Unit))(e:Int×Int):Option (Int×Int×Unit):=match e with|(n,i)=>bif decide (i≥0) then bif q32 then bif q24 (n*10000) then bif inR i x_D.length then bif q24 ((n*10000)-(q17 x_D i 0)) then bif q24 (i-1) then K0 ((n*10000)-(q17 x_D i 0),i-1) else none else none else none else none else bif q24 (n*10000) then bif inR i x_D.length then bif q24 ((n*10000)+(q17 x_D i 0)) then bif q24 (i-1) then K0 ((n*10000)+(q17 x_D i 0),i-1) else none else none else none else none else some (n,0,())
theorem q0b (N:Nat)(q32:Bool)(x_D:List Int)(zy9:Bool)(q5o:List Int)(qj6:Bool)(yq6:List Int)(n_:Nat)(e:Int×Int):q55 (vs7 N ) n_ ((yz5 q32 x_D zy9 q5o qj6 yq6) e) ((yz6 q32 x_D zy9 q5o qj6 yq6) e)=q80 (yz4 N q32 x_D zy9 q5o qj6 yq6 ) n_ e :=
 q36 (yz5 q32 x_D zy9 q5o qj6 yq6) (yz6 q32 x_D zy9 q5o qj6 yq6) (by intro K e;obtain⟨n,i⟩:=e;kernel_rfl) n_ e
def xq6 (N:Nat)(x:qa3)(l1:Bool→(List Int)→Bool→(List Int)→Bool→(List Int)→(Int×Int)→Option (Int×Int×Unit)):Option (Int×Int×Unit):=(w23 N (-9223372036854775808)).bind fun r=>(w23 N 9223372036854775807).bind fun r1=>(vr7 N x r).bind fun r2=>bif decide (r2<0) then some (0,9,()) else (vr7 N x r1).bind fun r3=>bif decide (r3>0) then some (0,9,()) else bif q24 ((x.2.1.length:Int)-1) then l1 x.1 x.2.1 r.1 r.2.1 r1.1 r1.2.1 (0,(x.2.1.length:Int)-1) else none
def yi0 (N:Nat)(x:qa3):Option (Int×Int×Unit):=xq6 N x (fun q32 x_D zy9 q5o qj6 yq6 e=>q80 (yz4 N q32 x_D zy9 q5o qj6 yq6) N e)
noncomputable def ui6 (N:Nat)(x:qa3):Option (RT [(.int .i64),(.int .i64)]):=q20 DR Tryz.prog N (xq5 N) yi1 Tryz.f204 (q31 Tryz.f204) (RT [(.int .i64),(.int .i64)]) (qb7 [qm8] (x,())) [] (q38 [(.int .i64),(.int .i64)])
theorem kh8 (N:Nat)(x:qa3):ui6 N x=yi0 N x:=by
 have h:ui6 N x=xq6 N x (fun q32 x_D zy9 q5o qj6 yq6 e=>q55 (vs7 N ) N (yz5 q32 x_D zy9 q5o qj6 yq6 e) (yz6 q32 x_D zy9 q5o qj6 yq6 e)):=by kernel_rfl
 rw[h]
 simp only[yi0,q0b]<;>rfl
def uy0 (m:qa3→Option (Int×Int×Unit)):Ent:=q29 [qm8] [(.int .i64),(.int .i64)] fun (x:Els [qm8])=>m x.1
def v49 (N:Nat):Ent:=uy0 (yi0 N)
theorem ua8 (N:Nat):q16 Tryz.prog 204 (v49 N):=q10 (q0a N) Tryz.func204 rfl (by kernel_rfl) fun (x:Els [qm8])=>kh8 N x.1
def w74 :FH:=⟨[],[],[],[],false,[],[(7,⟨[(0,.str),(2,.asis),(4,.asis)],[],[.cells [.int .u8,.int .i64,.str],.cells [.int .u8,.int .i64,.str],.cells [.bool,.lst (.int .i64)]]⟩),(11,⟨[(0,.str),(2,.asis),(4,.asis),(5,.asis),(6,.bool),(7,.bool)],[],[.cells [.int .u8,.int .i64,.str],.cells [.int .u8,.int .i64,.str],.cells [.bool,.lst (.int .i64)]]⟩),(13,⟨[(0,.str),(2,.asis),(4,.asis),(5,.asis),(6,.bool),(7,.bool)],[],[.cells [.int .u8,.int .i64,.str],.cells [.int .u8,.int .i64,.str],.cells [.bool,.lst (.int .i64)]]⟩),(20,⟨[(0,.str),(2,.asis),(4,.asis)],[],[.cells [.int .u8,.int .i64,.str],.cells [.int .u8,.int .i64,.str],.cells [.bool,.lst (.int .i64)]]⟩)]⟩
noncomputable def xs0 (N:Nat):q46:=tab [(201,xf8 N),(202,v54 N),(203,v60 N),(204,v49 N),(14,yi2 N),(148,x08 N)]
theorem q0v (N:Nat):q13 Tryz.prog (xs0 N):=q06 (vv8 N)<|q06 (ua9 N)<|q06 (ub2 N)<|q06 (ua8 N)<|q06 (yb2 N)<|q06 (xf3 N)<|q25 _
noncomputable def qm1 :Sc:=w89 Tryz.prog w74
noncomputable def qm0 (N:Nat):Cfg:=⟨N,xs0 N,0⟩
noncomputable def zz5 (N:Nat):Exit→KT OX3:=fin Tryz.prog 0 Tryz.f138.results.toList (q38 [q05,(.int .i64)])
def x00 (s:List UInt8)(point ok q32:Bool)(x_D:List Int)(e:Unit):List TV:=frm 85 [(0,.str s),(2,.ref 0 0),(4,.ref 1 0),(5,.ref 2 0),(6,.bool point),(7,.bool ok)]
def x06 (s:List UInt8)(point ok q32:Bool)(x_D:List Int)(e:Unit):List TOb:=[.cells [.int .u8 0,.int .i64 0,.str []] 26 true,.cells [.int .u8 0,.int .i64 0,.str []] 26 true,.cells [.bool q32,.tl (.int .i64) x_D .unk] 265 true]
def x01 (s:List UInt8)(point ok q32:Bool)(x_D:List Int)(e:Unit):List TV:=frm 85 [(0,.str s),(2,.ref 0 0),(4,.ref 1 0),(5,.ref 2 0),(6,.bool point),(7,.bool ok)]
def x07 (s:List UInt8)(point ok q32:Bool)(x_D:List Int)(e:Unit):List TOb:=[.cells [.int .u8 0,.int .i64 0,.str []] 26 true,.cells [.int .u8 0,.int .i64 0,.str []] 26 true,.cells [.bool q32,.tl (.int .i64) x_D .unk] 265 true]
def yz9 (s:List UInt8)(qj6:Bool)(yq6:List Int)(e:Unit):List TV:=frm 85 [(0,.str s),(2,.ref 0 0),(4,.ref 1 0)]
def x05 (s:List UInt8)(qj6:Bool)(yq6:List Int)(e:Unit):List TOb:=[.cells [.int .u8 0,.int .i64 0,.str []] 26 true,.cells [.int .u8 0,.int .i64 0,.str []] 26 true,.cells [.bool qj6,.tl (.int .i64) yq6 .unk] 265 true]
def zu4 (s:List UInt8)(e:Int×Int×List UInt8×Bool×List Int):List TV:=match e with|(q41,v_N,v_S,o2_Neg1,o2_D1)=>frm 85 [(0,.str s),(2,.ref 0 0),(4,.ref 1 0)]
def zu6 (s:List UInt8)(e:Int×Int×List UInt8×Bool×List Int):List TOb:=match e with|(q41,v_N,v_S,o2_Neg1,o2_D1)=>[.cells [.int .u8 0,.int .i64 0,.str []] 26 true,.cells [.int .u8 q41,.int .i64 v_N,.str v_S] 26 true,.cells [.bool o2_Neg1,.tl (.int .i64) o2_D1 .unk] 265 true]
noncomputable def zu5 (N:Nat):KT OX3:=yr0 DR qm1 (qm0 N) (nv [0,0,1,1,1,1,1] Tryz.f138) (qa6 DR qm1 (qm0 N) (nv [1,0,1,1,1,1,1] Tryz.f138) (w74.loops.drop 0) (qa6 DR qm1 (qm0 N) (nv [1,1,1,1,1,1] Tryz.f138) (w74.loops.drop 0) (zz5 N)))
def wi4 (N:Nat)(s:List UInt8)(e:Int×Int×List UInt8×Bool×List Int):Option OX3:=match e with|(q41,v_N,v_S,o2_Neg1,o2_D1)=>(zl0 N (q41,v_N,v_S,())).bind fun r4=>bif (!r4) then some ((0,0,[],()),4,()) else (jm2 N (q41,v_N,v_S,())).bind fun r5=>bif (!(r5==s)) then some ((0,0,[],()),4,()) else some ((q41,v_N,v_S,()),0,())
theorem jm1 (N:Nat)(s:List UInt8)(e:Int×Int×List UInt8×Bool×List Int):jmp N (zu5 N ) ((zu4 s) e) ((zu6 s) e)=at1 N (wi4 N s e):=qj5 (by obtain⟨q41,v_N,v_S,o2_Neg1,o2_D1⟩:=e;kernel_rfl) N
noncomputable def x02 (N:Nat):KT OX3:=yr0 DR qm1 (qm0 N) (nv [2,1,4,0,1,1,1,1] Tryz.f138) (qd6 0 (qa6 DR qm1 (qm0 N) (nv [1,1,1,1,1] Tryz.f138) (w74.loops.drop 0) (zz5 N)))
def yb3 (N:Nat)(s:List UInt8)(qj6:Bool)(yq6:List Int)(l2:(List UInt8)→(Int×Int×List UInt8×Bool×List Int)→Option OX3)(e:Unit):Option OX3:=(vh6 N (s==([116,114,117,101]:List UInt8))).bind fun r1=>l2 s (r1.1,r1.2.1,r1.2.2.1,qj6,yq6)
def zu1 (N:Nat)(s:List UInt8)(qj6:Bool)(yq6:List Int)(e:Unit):Option OX3:=yb3 N s qj6 yq6 (fun s e=>at1 N (wi4 N s e)) e
theorem q0w (N:Nat)(s:List UInt8)(qj6:Bool)(yq6:List Int)(e:Unit):jmp N (x02 N ) ((yz9 s qj6 yq6) e) ((x05 s qj6 yq6) e)=at1 N (zu1 N s qj6 yq6 e):=qj5 (by
 have h:(x02 N ) ((yz9 s qj6 yq6) e) ((x05 s qj6 yq6) e)=yb3 N s qj6 yq6 (fun s e=>jmp N (zu5 N ) (zu4 s e) (zu6 s e)) e:=by kernel_rfl
 rw[h]
 simp only[zu1,jm1]<;>rfl) N
noncomputable def x04 (N:Nat):KT OX3:=yr0 DR qm1 (qm0 N) (nv [0,3,1,3,1,3,1,3,1,4,0,1,1,1,1] Tryz.f138) (qa6 DR qm1 (qm0 N) (nv [1,3,1,3,1,3,1,3,1,4,0,1,1,1,1] Tryz.f138) (w74.loops.drop 0) (qd6 0 (qa6 DR qm1 (qm0 N) (nv [1,1,1,1,1] Tryz.f138) (w74.loops.drop 0) (zz5 N))))
def yb5 (N:Nat)(s:List UInt8)(point ok q32:Bool)(x_D:List Int)(l2:(List UInt8)→(Int×Int×List UInt8×Bool×List Int)→Option OX3)(e:Unit):Option OX3:=bif ok then (yi0 N (q32,x_D,())).bind fun r3=>bif (r3.2.1 != 0) then some ((0,0,[],()),r3.2.1,()) else bif point then l2 s (2,r3.1,[],q32,x_D) else l2 s (1,r3.1,[],q32,x_D) else some ((0,0,[],()),4,())
def zu3 (N:Nat)(s:List UInt8)(point ok q32:Bool)(x_D:List Int)(e:Unit):Option OX3:=yb5 N s point ok q32 x_D (fun s e=>at1 N (wi4 N s e)) e
theorem q0y (N:Nat)(s:List UInt8)(point ok q32:Bool)(x_D:List Int)(e:Unit):jmp N (x04 N ) ((x01 s point ok q32 x_D) e) ((x07 s point ok q32 x_D) e)=at1 N (zu3 N s point ok q32 x_D e):=qj5 (by
 have h:(x04 N ) ((x01 s point ok q32 x_D) e) ((x07 s point ok q32 x_D) e)=yb5 N s point ok q32 x_D (fun s e=>jmp N (zu5 N ) (zu4 s e) (zu6 s e)) e:=by kernel_rfl
 rw[h]
 simp only[zu3,jm1]<;>rfl) N
noncomputable def x03 (N:Nat):KT OX3:=yr0 DR qm1 (qm0 N) (nv [0,3,1,3,1,3,1,4,0,1,1,1,1] Tryz.f138) (qa6 DR qm1 (qm0 N) (nv [1,3,1,3,1,3,1,4,0,1,1,1,1] Tryz.f138) (w74.loops.drop 0) (qd6 0 (qa6 DR qm1 (qm0 N) (nv [1,1,1,1,1] Tryz.f138) (w74.loops.drop 0) (zz5 N))))
def yb4 (N:Nat)(s:List UInt8)(point ok q32:Bool)(x_D:List Int)(l2:(List UInt8)→(Int×Int×List UInt8×Bool×List Int)→Option OX3)(l4:(List UInt8)→Bool→Bool→Bool→(List Int)→Unit→Option OX3)(e:Unit):Option OX3:=bif decide ((s.length:Int)>0) then bif inR 0 s.length then bif ((q37 s 0)==34) then (yi7 N s).bind fun r2=>l2 s (3,0,r2,q32,x_D) else l4 s point ok q32 x_D () else none else l4 s point ok q32 x_D ()
def zu2 (N:Nat)(s:List UInt8)(point ok q32:Bool)(x_D:List Int)(e:Unit):Option OX3:=yb4 N s point ok q32 x_D (fun s e=>at1 N (wi4 N s e)) (fun s point ok q32 x_D e=>at1 N (zu3 N s point ok q32 x_D e)) e
theorem q0x (N:Nat)(s:List UInt8)(point ok q32:Bool)(x_D:List Int)(e:Unit):jmp N (x03 N ) ((x00 s point ok q32 x_D) e) ((x06 s point ok q32 x_D) e)=at1 N (zu2 N s point ok q32 x_D e):=qj5 (by
 have h:(x03 N ) ((x00 s point ok q32 x_D) e) ((x06 s point ok q32 x_D) e)=yb4 N s point ok q32 x_D (fun s e=>jmp N (zu5 N ) (zu4 s e) (zu6 s e)) (fun s point ok q32 x_D e=>jmp N (x04 N ) (x01 s point ok q32 x_D e) (x07 s point ok q32 x_D e)) e:=by kernel_rfl
 rw[h]
 simp only[zu2,jm1,q0y]<;>rfl) N
def yi4 (N:Nat)(s:List UInt8)(l1:(List UInt8)→Bool→(List Int)→Unit→Option OX3)(l2:(List UInt8)→(Int×Int×List UInt8×Bool×List Int)→Option OX3)(l3:(List UInt8)→Bool→Bool→Bool→(List Int)→Unit→Option OX3):Option OX3:=bif decide ((s.length:Int)>402) then some ((0,0,[],()),3,()) else (ja8 N s).bind fun r=>bif (s==([116,114,117,101]:List UInt8)) then l1 s r.1.1 r.1.2.1 () else bif (s==([102,97,108,115,101]:List UInt8)) then l1 s r.1.1 r.1.2.1 () else bif (s==([110,117,108,108]:List UInt8)) then l2 s (0,0,[],r.1.1,r.1.2.1) else bif decide ((s.length:Int)>0) then bif inR 0 s.length then bif ((q37 s 0)==35) then bif upTo 1 s.length then l2 s (5,0,(s.drop (1:Int).toNat),r.1.1,r.1.2.1) else none else l3 s r.2.1 r.2.2.1 r.1.1 r.1.2.1 () else none else l3 s r.2.1 r.2.2.1 r.1.1 r.1.2.1 ()
def w73 (N:Nat)(s:List UInt8):Option OX3:=yi4 N s (fun s qj6 yq6 e=>at1 N (zu1 N s qj6 yq6 e)) (fun s e=>at1 N (wi4 N s e)) (fun s point ok q32 x_D e=>at1 N (zu2 N s point ok q32 x_D e))
noncomputable def uk3 (N:Nat)(s:List UInt8):Option (RT [q05,(.int .i64)]):=q20 DR Tryz.prog N (xs0 N) w74 Tryz.f138 (q31 Tryz.f138) (RT [q05,(.int .i64)]) (qb7 [.str] (s,())) [] (q38 [q05,(.int .i64)])
theorem kj3 (N:Nat)(s:List UInt8):uk3 N s=w73 N s:=by
 have h:uk3 N s=yi4 N s (fun s qj6 yq6 e=>jmp N (x02 N ) (yz9 s qj6 yq6 e) (x05 s qj6 yq6 e)) (fun s e=>jmp N (zu5 N ) (zu4 s e) (zu6 s e)) (fun s point ok q32 x_D e=>jmp N (x03 N ) (x00 s point ok q32 x_D e) (x06 s point ok q32 x_D e)):=by kernel_rfl
 rw[h]
 simp only[w73,q0w,jm1,q0x]<;>rfl
def k01 (m:(List UInt8)→Option OX3):Ent:=q29 [.str] [q05,(.int .i64)] fun (x:Els [.str])=>m x.1
def v55 (N:Nat):Ent:=k01 (w73 N)
theorem ub0 (N:Nat):q16 Tryz.prog 138 (v55 N):=q10 (q0v N) Tryz.func138 rfl (by kernel_rfl) fun (x:Els [.str])=>kj3 N x.1
def v69 :LH:=⟨[(0,.str),(5,.int .i64)],[],[]⟩
def jn2 :FH:=⟨[v69],[],[],[],false,[],[]⟩
noncomputable def x17 (N:Nat):q46:=tab []
theorem kl8 (N:Nat):q13 Tryz.prog (x17 N):=q25 _
noncomputable def v72 :Sc:=w89 Tryz.prog jn2
noncomputable def v71 (N:Nat):Cfg:=⟨N,x17 N,0⟩
noncomputable def k13 (N:Nat):Exit→KT Int:=fin Tryz.prog 0 Tryz.f139.results.toList (q38 [(.int .i64)])
def yd5 (s:List UInt8)(e:Int):List TV:=match e with|i=>frm 52 [(0,.str s),(5,.int .i64 i)]
def yd6 (s:List UInt8)(e:Int):List TOb:=match e with|i=>[]
noncomputable def v70 (N:Nat):(KT Int)→KT Int:=qy2 DR v72 (v71 N) (nv [5,4,1,0,1] Tryz.f139) v69 (jn2.loops.drop 1) (qd6 0 (qa6 DR v72 (v71 N) (nv [1,1] Tryz.f139) (jn2.loops.drop 1) (k13 N)))
def j03 (N:Nat)(s:List UInt8)(K0:Int→Option Int)(e:Int):Option Int:=match e with|i=>bif decide (i<(s.length:Int)) then bif inR i s.length then bif decide ((q37 s i)<32) then some (-1) else bif inR i s.length then bif decide ((q37 s i)>126) then some (-1) else bif inR i s.length then bif ((q37 s i)==34) then bif q24 (i+1) then some (i+1) else none else bif inR i s.length then bif ((q37 s i)==92) then bif q24 (i+1) then bif decide ((i+1)<(s.length:Int)) then bif inR (i+1) s.length then bif decide ((q37 s (i+1))<32) then some (-1) else bif inR (i+1) s.length then bif decide ((q37 s (i+1))>126) then some (-1) else bif q24 ((i+1)+1) then K0 ((i+1)+1) else none else none else none else bif q24 ((i+1)+1) then K0 ((i+1)+1) else none else none else bif q24 (i+1) then K0 (i+1) else none else none else none else none else none else some (-1)
theorem kl9 (N:Nat)(s:List UInt8)(n_:Nat)(e:Int):q55 (v70 N ) n_ ((yd5 s) e) ((yd6 s) e)=q80 (j03 N s ) n_ e :=
 q36 (yd5 s) (yd6 s) (by intro K e;kernel_rfl) n_ e
def jn3 (N:Nat)(s:List UInt8)(at_:Int)(l1:(List UInt8)→Int→Option Int):Option Int:=bif q24 (at_+1) then l1 s (at_+1) else none
def we2 (N:Nat)(s:List UInt8)(at_:Int):Option Int:=jn3 N s at_ (fun s e=>q80 (j03 N s) N e)
noncomputable def vx0 (N:Nat)(s:List UInt8)(at_:Int):Option (RT [(.int .i64)]):=q20 DR Tryz.prog N (x17 N) jn2 Tryz.f139 (q31 Tryz.f139) (RT [(.int .i64)]) (qb7 [.str,(.int .i64)] (s,at_,())) [] (q38 [(.int .i64)])
theorem k14 (N:Nat)(s:List UInt8)(at_:Int):vx0 N s at_=we2 N s at_:=by
 have h:vx0 N s at_=jn3 N s at_ (fun s e=>q55 (v70 N ) N (yd5 s e) (yd6 s e)):=by kernel_rfl
 rw[h]
 simp only[we2,kl9]<;>rfl
def ub6 (m:(List UInt8)→Int→Option Int):Ent:=q29 [.str,(.int .i64)] [(.int .i64)] fun (x:Els [.str,(.int .i64)])=>m x.1 x.2.1
def xg2 (N:Nat):Ent:=ub6 (we2 N)
theorem vx1 (N:Nat):q16 Tryz.prog 139 (xg2 N):=q10 (kl8 N) Tryz.func139 rfl (by kernel_rfl) fun (x:Els [.str,(.int .i64)])=>k14 N x.1 x.2.1
def jn4 :FH:=⟨[],[],[],[],false,[],[(8,⟨[(0,.str),(1,.int .i64)],[],[]⟩)]⟩
noncomputable def x18 (N:Nat):q46:=tab []
theorem km5 (N:Nat):q13 Tryz.prog (x18 N):=q25 _
noncomputable def yd8 :Sc:=w89 Tryz.prog jn4
noncomputable def yd7 (N:Nat):Cfg:=⟨N,x18 N,0⟩
noncomputable def k16 (N:Nat):Exit→KT Int:=fin Tryz.prog 0 Tryz.f140.results.toList (q38 [(.int .i64)])
def v74 (s:List UInt8)(at_:Int)(e:Unit):List TV:=frm 41 [(0,.str s),(1,.int .i64 at_)]
def v76 (s:List UInt8)(at_:Int)(e:Unit):List TOb:=[]
noncomputable def v75 (N:Nat):KT Int:=yr0 DR yd8 (yd7 N) (nv [0,0,1,1] Tryz.f140) (qa6 DR yd8 (yd7 N) (nv [1,0,1,1] Tryz.f140) (jn4.loops.drop 0) (qa6 DR yd8 (yd7 N) (nv [1,1,1] Tryz.f140) (jn4.loops.drop 0) (k16 N)))
def wk5 (N:Nat)(s:List UInt8)(at_:Int)(e:Unit):Option Int:=bif inR at_ s.length then bif ((q37 s at_)==40) then bif q24 (at_+1) then some (at_+1) else none else bif ((q37 s at_)==41) then bif q24 (at_+1) then some (at_+1) else none else bif ((q37 s at_)==91) then bif q24 (at_+1) then some (at_+1) else none else bif ((q37 s at_)==93) then bif q24 (at_+1) then some (at_+1) else none else bif ((q37 s at_)==44) then bif q24 (at_+1) then some (at_+1) else none else bif ((q37 s at_)==58) then bif q24 (at_+1) then some (at_+1) else none else bif ((q37 s at_)==61) then bif q24 (at_+1) then some (at_+1) else none else bif ((q37 s at_)==60) then bif q24 (at_+1) then some (at_+1) else none else bif ((q37 s at_)==62) then bif q24 (at_+1) then some (at_+1) else none else bif ((q37 s at_)==43) then bif q24 (at_+1) then some (at_+1) else none else bif ((q37 s at_)==45) then bif q24 (at_+1) then some (at_+1) else none else bif ((q37 s at_)==42) then bif q24 (at_+1) then some (at_+1) else none else bif ((q37 s at_)==47) then bif q24 (at_+1) then some (at_+1) else none else some (-1) else none
theorem km6 (N:Nat)(s:List UInt8)(at_:Int)(e:Unit):jmp N (v75 N ) ((v74 s at_) e) ((v76 s at_) e)=at1 N (wk5 N s at_ e):=qj5 (by kernel_rfl) N
def jn5 (N:Nat)(s:List UInt8)(at_:Int)(l1:(List UInt8)→Int→Unit→Option Int):Option Int:=bif q24 (at_+1) then bif decide ((at_+1)<(s.length:Int)) then bif q24 (at_+2) then bif inB at_ (at_+2) s.length then bif (((s.take (at_+2).toNat).drop at_.toNat)==([60,61]:List UInt8)) then bif q24 (at_+2) then some (at_+2) else none else bif (((s.take (at_+2).toNat).drop at_.toNat)==([62,61]:List UInt8)) then bif q24 (at_+2) then some (at_+2) else none else bif (((s.take (at_+2).toNat).drop at_.toNat)==([60,62]:List UInt8)) then bif q24 (at_+2) then some (at_+2) else none else bif (((s.take (at_+2).toNat).drop at_.toNat)==([46,46]:List UInt8)) then bif q24 (at_+2) then some (at_+2) else none else l1 s at_ () else none else none else l1 s at_ () else none
def z87 (N:Nat)(s:List UInt8)(at_:Int):Option Int:=jn5 N s at_ (fun s at_ e=>at1 N (wk5 N s at_ e))
noncomputable def vx5 (N:Nat)(s:List UInt8)(at_:Int):Option (RT [(.int .i64)]):=q20 DR Tryz.prog N (x18 N) jn4 Tryz.f140 (q31 Tryz.f140) (RT [(.int .i64)]) (qb7 [.str,(.int .i64)] (s,at_,())) [] (q38 [(.int .i64)])
theorem k17 (N:Nat)(s:List UInt8)(at_:Int):vx5 N s at_=z87 N s at_:=by
 have h:vx5 N s at_=jn5 N s at_ (fun s at_ e=>jmp N (v75 N ) (v74 s at_ e) (v76 s at_ e)):=by kernel_rfl
 rw[h]
 simp only[z87,km6]<;>rfl
def ub7 (m:(List UInt8)→Int→Option Int):Ent:=q29 [.str,(.int .i64)] [(.int .i64)] fun (x:Els [.str,(.int .i64)])=>m x.1 x.2.1
def xg4 (N:Nat):Ent:=ub7 (z87 N)
theorem vx6 (N:Nat):q16 Tryz.prog 140 (xg4 N):=q10 (km5 N) Tryz.func140 rfl (by kernel_rfl) fun (x:Els [.str,(.int .i64)])=>k17 N x.1 x.2.1
def zv0 :FH:=⟨[],[],[(25,⟨8,147,0,[(7,.store true 0)],[]⟩),(33,⟨10,147,0,[(9,.store true 0)],[]⟩)],[],false,[],[(9,⟨[(0,.str),(1,.int .i64),(4,.asis),(7,.asis),(8,.int .u8)],[],[.cells [.int .u8,.str,.int .u8,.int .i64,.str,.int .i64,.int .i64],.cells [.int .u8,.str,.int .u8,.int .i64,.str,.int .i64,.int .i64]]⟩),(13,⟨[(4,.asis),(8,.int .u8),(9,.int .i64),(10,.str)],[],[.cells [.int .u8,.str,.int .u8,.int .i64,.str,.int .i64,.int .i64],.cells [.int .u8,.str,.int .u8,.int .i64,.str,.int .i64,.int .i64]]⟩)]⟩
noncomputable def vw4 (N:Nat):q46:=tab [(135,ul4 N),(136,j02 N),(137,xg1 N),(138,v55 N),(139,xg2 N),(140,xg4 N)]
theorem w0e (N:Nat):q13 Tryz.prog (vw4 N):=q06 (km4 N)<|q06 (j34 N)<|q06 (vw8 N)<|q06 (ub0 N)<|q06 (vx1 N)<|q06 (vx6 N)<|q25 _
noncomputable def wv4 :Sc:=w89 Tryz.prog zv0
noncomputable def wv3 (N:Nat):Cfg:=⟨N,vw4 N,0⟩
noncomputable def vw6 (N:Nat):Exit→KT (q39×Int×Int×Unit):=fin Tryz.prog 0 Tryz.f64.results.toList (q38 [qd2,(.int .i64),(.int .i64)])
def xt6 (s:List UInt8)(at_ c:Int)(e:Unit):List TV:=frm 147 [(0,.str s),(1,.int .i64 at_),(4,.ref 0 0),(7,.ref 1 0),(8,.int .u8 c)]
def xt8 (s:List UInt8)(at_ c:Int)(e:Unit):List TOb:=[.cells [.int .u8 0,.str [],.int .u8 0,.int .i64 0,.str [],.int .i64 0,.int .i64 0] 105 true,.cells [.int .u8 0,.str [],.int .u8 0,.int .i64 0,.str [],.int .i64 0,.int .i64 0] 105 true]
def ul0 (c r7:Int)(name:List UInt8)(e:Unit):List TV:=frm 147 [(4,.ref 0 0),(8,.int .u8 c),(9,.int .i64 r7),(10,.str name)]
def ul2 (c r7:Int)(name:List UInt8)(e:Unit):List TOb:=[.cells [.int .u8 0,.str [],.int .u8 0,.int .i64 0,.str [],.int .i64 0,.int .i64 0] 105 true,.cells [.int .u8 0,.str [],.int .u8 0,.int .i64 0,.str [],.int .i64 0,.int .i64 0] 105 true]
noncomputable def ul1 (N:Nat):KT (q39×Int×Int×Unit):=yr0 DR wv4 (wv3 N) (nv [0,3,1,4,0,1,1,2,1,0,1,1,1,1,1] Tryz.f64) (qa6 DR wv4 (wv3 N) (nv [1,3,1,4,0,1,1,2,1,0,1,1,1,1,1] Tryz.f64) (zv0.loops.drop 0) (qd6 0 (qa6 DR wv4 (wv3 N) (nv [1,1,1,2,1,0,1,1,1,1,1] Tryz.f64) (zv0.loops.drop 0) (qa6 DR wv4 (wv3 N) (nv [1,1,1,1,1,1] Tryz.f64) (zv0.loops.drop 0) (vw6 N)))))
def jb4 (N:Nat)(c r7:Int)(name:List UInt8)(e:Unit):Option (q39×Int×Int×Unit):=bif (c==35) then some ((6,name,(5,0,name,()),(0,0,()),()),r7,0,()) else bif (name==([]:List UInt8)) then some ((3,[],(0,0,[],()),(0,0,()),()),r7,0,()) else some ((2,name,(0,0,[],()),(0,0,()),()),r7,0,())
theorem w0g (N:Nat)(c r7:Int)(name:List UInt8)(e:Unit):jmp N (ul1 N ) ((ul0 c r7 name) e) ((ul2 c r7 name) e)=at1 N (jb4 N c r7 name e):=qj5 (by kernel_rfl) N
noncomputable def xt7 (N:Nat):KT (q39×Int×Int×Unit):=yr0 DR wv4 (wv3 N) (nv [0,2,1,0,1,1,1,1,1] Tryz.f64) (qa6 DR wv4 (wv3 N) (nv [1,2,1,0,1,1,1,1,1] Tryz.f64) (zv0.loops.drop 0) (qa6 DR wv4 (wv3 N) (nv [1,1,1,1,1,1] Tryz.f64) (zv0.loops.drop 0) (vw6 N)))
def jm9 (N:Nat)(s:List UInt8)(at_ c:Int)(l2:Int→Int→(List UInt8)→Unit→Option (q39×Int×Int×Unit))(e:Unit):Option (q39×Int×Int×Unit):=bif q24 (at_+1) then (xg3 N s (at_+1)).bind fun r7=>bif q24 (at_+1) then bif inB (at_+1) r7 s.length then bif decide ((((s.take r7.toNat).drop (at_+1).toNat).length:Int)>12) then some ((0,[],(0,0,[],()),(0,0,()),()),0,4,()) else bif (c==35) then bif (((s.take r7.toNat).drop (at_+1).toNat)==([]:List UInt8)) then some ((0,[],(0,0,[],()),(0,0,()),()),0,4,()) else l2 c r7 ((s.take r7.toNat).drop (at_+1).toNat) () else l2 c r7 ((s.take r7.toNat).drop (at_+1).toNat) () else none else none else none
def wv2 (N:Nat)(s:List UInt8)(at_ c:Int)(e:Unit):Option (q39×Int×Int×Unit):=jm9 N s at_ c (fun c r7 name e=>at1 N (jb4 N c r7 name e)) e
theorem w0f (N:Nat)(s:List UInt8)(at_ c:Int)(e:Unit):jmp N (xt7 N ) ((xt6 s at_ c) e) ((xt8 s at_ c) e)=at1 N (wv2 N s at_ c e):=qj5 (by
 have h:(xt7 N ) ((xt6 s at_ c) e) ((xt8 s at_ c) e)=jm9 N s at_ c (fun c r7 name e=>jmp N (ul1 N ) (ul0 c r7 name e) (ul2 c r7 name e)) e:=by kernel_rfl
 rw[h]
 simp only[wv2,w0g]<;>rfl) N
def xg0 (N:Nat)(s:List UInt8)(at_:Int)(l1:(List UInt8)→Int→Int→Unit→Option (q39×Int×Int×Unit)):Option (q39×Int×Int×Unit):=bif inR at_ s.length then (xg3 N s at_).bind fun r=>bif decide (r>at_) then bif q24 (r-at_) then bif decide ((r-at_)>12) then some ((0,[],(0,0,[],()),(0,0,()),()),0,4,()) else bif inB at_ r s.length then some ((1,((s.take r.toNat).drop at_.toNat),(0,0,[],()),(0,0,()),()),r,0,()) else none else none else bif ((q37 s at_)==63) then l1 s at_ (q37 s at_) () else bif ((q37 s at_)==35) then l1 s at_ (q37 s at_) () else (wf6 N (q37 s at_)).bind fun r1=>bif r1 then (z82 N s at_).bind fun r2=>bif inB at_ r2 s.length then (w73 N ((s.take r2.toNat).drop at_.toNat)).bind fun r3=>bif (r3.2.1==9) then some ((0,[],(0,0,[],()),(0,0,()),()),0,r3.2.1,()) else bif (r3.2.1 != 0) then some ((0,[],(0,0,[],()),(0,0,()),()),0,4,()) else bif inB at_ r2 s.length then some ((4,((s.take r2.toNat).drop at_.toNat),r3.1,(0,0,()),()),r2,0,()) else none else none else bif ((q37 s at_)==34) then (we2 N s at_).bind fun r4=>bif decide (r4<0) then some ((0,[],(0,0,[],()),(0,0,()),()),0,4,()) else bif inB at_ r4 s.length then (w73 N ((s.take r4.toNat).drop at_.toNat)).bind fun r5=>bif (r5.2.1 != 0) then some ((0,[],(0,0,[],()),(0,0,()),()),0,4,()) else bif q24 (at_+1) then bif q24 (r4-1) then bif inB (at_+1) (r4-1) s.length then some ((5,((s.take (r4-1).toNat).drop (at_+1).toNat),r5.1,(0,0,()),()),r4,0,()) else none else none else none else none else (z87 N s at_).bind fun r6=>bif decide (r6<0) then some ((0,[],(0,0,[],()),(0,0,()),()),0,4,()) else bif inB at_ r6 s.length then some ((7,((s.take r6.toNat).drop at_.toNat),(0,0,[],()),(0,0,()),()),r6,0,()) else none else none
def jm8 (N:Nat)(s:List UInt8)(at_:Int):Option (q39×Int×Int×Unit):=xg0 N s at_ (fun s at_ c e=>at1 N (wv2 N s at_ c e))
noncomputable def kl1 (N:Nat)(s:List UInt8)(at_:Int):Option (RT [qd2,(.int .i64),(.int .i64)]):=q20 DR Tryz.prog N (vw4 N) zv0 Tryz.f64 (q31 Tryz.f64) (RT [qd2,(.int .i64),(.int .i64)]) (qb7 [.str,(.int .i64)] (s,at_,())) [] (q38 [qd2,(.int .i64),(.int .i64)])
theorem q1e (N:Nat)(s:List UInt8)(at_:Int):kl1 N s at_=jm8 N s at_:=by
 have h:kl1 N s at_=xg0 N s at_ (fun s at_ c e=>jmp N (xt7 N ) (xt6 s at_ c e) (xt8 s at_ c e)):=by kernel_rfl
 rw[h]
 simp only[jm8,w0f]<;>rfl
def kl2 (m:(List UInt8)→Int→Option (q39×Int×Int×Unit)):Ent:=q29 [.str,(.int .i64)] [qd2,(.int .i64),(.int .i64)] fun (x:Els [.str,(.int .i64)])=>m x.1 x.2.1
def vw5 (N:Nat):Ent:=kl2 (jm8 N)
theorem k08 (N:Nat):q16 Tryz.prog 64 (vw5 N):=q10 (w0e N) Tryz.func64 rfl (by kernel_rfl) fun (x:Els [.str,(.int .i64)])=>q1e N x.1 x.2.1
def vw1 :LH:=⟨[(0,.str),(3,.asis),(5,.own qd2 505 105 7),(6,.asis),(7,.int .i64),(8,.int .i64),(9,.int .i64)],[],[.cells [.int .i64,.int .i64],.cells [.int .i64,.int .i64]]⟩
def kk7 :LH:=⟨[(0,.str),(3,.asis),(5,.own qd2 505 105 7),(6,.asis),(7,.int .i64),(8,.int .i64),(9,.int .i64)],[],[.cells [.int .i64,.int .i64],.cells [.int .i64,.int .i64]]⟩
def j01 :FH:=⟨[vw1,kk7],[],[(4,⟨2,77,0,[],[]⟩),(21,⟨4,77,0,[(3,.store true 0)],[]⟩),(25,⟨3,77,0,[],[]⟩)],[],false,[],[]⟩
noncomputable def k07 (N:Nat):q46:=tab [(64,vw5 N)]
theorem r6_Lex_Ts (N:Nat):q13 Tryz.prog (k07 N):=q06 (k08 N)<|q25 _
noncomputable def jb3 :Sc:=w89 Tryz.prog j01
noncomputable def zu9 (N:Nat):Cfg:=⟨N,k07 N,0⟩
noncomputable def uk9 (N:Nat):Exit→KT OX6:=fin Tryz.prog 0 Tryz.f29.results.toList (q38 [(.list qd2),qr3,(.int .i64)])
def jb1 (s:List UInt8)(qa4 qe5 q51 q62:Int)(e:List q39×Int×Int×Int):List TV:=match e with|(out,line,begin,at_)=>frm 77 [(0,.str s),(3,.ref 0 0),(5,.tl qd2 out (.own 505 105 7)),(6,.ref 1 0),(7,.int .i64 line),(8,.int .i64 begin),(9,.int .i64 at_)]
def jb2 (s:List UInt8)(qa4 qe5 q51 q62:Int)(e:List q39×Int×Int×Int):List TOb:=match e with|(out,line,begin,at_)=>[.cells [.int .i64 qa4,.int .i64 qe5] 31 true,.cells [.int .i64 q51,.int .i64 q62] 31 true]
def vw0 (s:List UInt8)(out:List q39)(line begin qa4 qe5 q51 q62 e:Int):List TV:=match e with|at_1=>frm 77 [(0,.str s),(3,.ref 0 0),(5,.tl qd2 out (.own 505 105 7)),(6,.ref 1 0),(7,.int .i64 line),(8,.int .i64 begin),(9,.int .i64 at_1)]
def vw3 (s:List UInt8)(out:List q39)(line begin qa4 qe5 q51 q62 e:Int):List TOb:=match e with|at_1=>[.cells [.int .i64 qa4,.int .i64 qe5] 31 true,.cells [.int .i64 q51,.int .i64 q62] 31 true]
noncomputable def kk8 (N:Nat)(K0r:KT OX6):(KT OX6)→KT OX6:=qy2 DR jb3 (zu9 N) (nv [5,4,0,2,1,3,1,3,1,4,1,0,4,1,5,4,0,1,1,1,1,1,1] Tryz.f29) kk7 (j01.loops.drop 2) (qd6 3 (qa6 DR jb3 (zu9 N) (nv [1,2,1,3,1,3,1,4,1,0,4,1,5,4,0,1,1,1,1,1,1] Tryz.f29) (j01.loops.drop 2) (qd6 2 (qa6 DR jb3 (zu9 N) (nv [1,4,1,5,4,0,1,1,1,1,1,1] Tryz.f29) (j01.loops.drop 2) (qd6 1 (xp4 (zu9 N) vw1 (qd6 0 (qa6 DR jb3 (zu9 N) (nv [1,1,1,1,1,1,1] Tryz.f29) (j01.loops.drop 2) (uk9 N))) K0r))))))
def jb0 (N:Nat)(s:List UInt8)(out:List q39)(line begin qa4 qe5 q51 q62:Int)(K0:(List q39×Int×Int×Int)→Option OX6)(K1:Int→Option OX6)(e:Int):Option OX6:=match e with|at_1=>bif decide (at_1<(s.length:Int)) then bif inR at_1 s.length then bif ((q37 s at_1) != 10) then bif q24 (at_1+1) then K1 (at_1+1) else none else K0 (out,line,begin,at_1) else none else K0 (out,line,begin,at_1)
theorem r6_Lex_l2 (N:Nat)(s:List UInt8)(out:List q39)(line begin qa4 qe5 q51 q62:Int)(K0r:KT OX6)(n_:Nat)(e:Int):q55 (kk8 N K0r) n_ ((vw0 s out line begin qa4 qe5 q51 q62) e) ((vw3 s out line begin qa4 qe5 q51 q62) e)=q80 (jb0 N s out line begin qa4 qe5 q51 q62 (fun a_=>K0r (jb1 s qa4 qe5 q51 q62 a_) (jb2 s qa4 qe5 q51 q62 a_))) n_ e :=
 q36 (vw0 s out line begin qa4 qe5 q51 q62) (vw3 s out line begin qa4 qe5 q51 q62) (by intro K e;kernel_rfl) n_ e
noncomputable def vw2 (N:Nat):(KT OX6)→KT OX6:=qy2 DR jb3 (zu9 N) (nv [5,4,0,1,1,1,1,1,1] Tryz.f29) vw1 (j01.loops.drop 1) (qd6 0 (qa6 DR jb3 (zu9 N) (nv [1,1,1,1,1,1,1] Tryz.f29) (j01.loops.drop 2) (uk9 N)))
def yi9 (N:Nat)(s:List UInt8)(qa4 qe5 q51 q62:Int)(l2:(List UInt8)→(List q39)→Int→Int→Int→Int→Int→Int→Int→Option OX6)(K0:(List q39×Int×Int×Int)→Option OX6)(e:List q39×Int×Int×Int):Option OX6:=match e with|(out,line,begin,at_)=>bif decide (at_<(s.length:Int)) then bif inR at_ s.length then bif ((q37 s at_)==32) then bif q24 (at_+1) then K0 (out,line,begin,at_+1) else none else bif ((q37 s at_)==10) then bif q24 (at_+1) then bif q24 (line+1) then K0 (out,line+1,at_+1,at_+1) else none else none else bif ((q37 s at_)==59) then l2 s out line begin qa4 qe5 q51 q62 at_ else bif q24 (at_-begin) then bif q24 ((at_-begin)+1) then (jm8 N s at_).bind fun r=>bif (r.2.2.1 != 0) then some ([],(line,(at_-begin)+1,()),r.2.2.1,()) else bif qr1 (out.length+([(r.1.1,r.1.2.1,r.1.2.2.1,(line,(at_-begin)+1,()),())]:List q39).length) 1954687338268 then K0 ((out++([(r.1.1,r.1.2.1,r.1.2.2.1,(line,(at_-begin)+1,()),())]:List q39)),line,begin,r.2.1) else none else none else none else none else some (out,(q51,q62,()),0,())
def zu8 (N:Nat)(s:List UInt8)(qa4 qe5 q51 q62:Int)(K0:(List q39×Int×Int×Int)→Option OX6)(e:List q39×Int×Int×Int):Option OX6:=yi9 N s qa4 qe5 q51 q62 (fun s out line begin qa4 qe5 q51 q62 e=>q80 (jb0 N s out line begin qa4 qe5 q51 q62 K0) N e) K0 e
theorem r6_Lex_l1 (N:Nat)(s:List UInt8)(qa4 qe5 q51 q62:Int)(n_:Nat)(e:List q39×Int×Int×Int):q55 (vw2 N ) n_ ((jb1 s qa4 qe5 q51 q62) e) ((jb2 s qa4 qe5 q51 q62) e)=q80 (zu8 N s qa4 qe5 q51 q62 ) n_ e :=
 q36 (jb1 s qa4 qe5 q51 q62) (jb2 s qa4 qe5 q51 q62) (by
  intro K e
  have h:(vw2 N ) K ((jb1 s qa4 qe5 q51 q62) e) ((jb2 s qa4 qe5 q51 q62) e)=yi9 N s qa4 qe5 q51 q62 (fun s out line begin qa4 qe5 q51 q62 e=>q55 (kk8 N K) N (vw0 s out line begin qa4 qe5 q51 q62 e) (vw3 s out line begin qa4 qe5 q51 q62 e)) (fun e=>K ((jb1 s qa4 qe5 q51 q62) e) ((jb2 s qa4 qe5 q51 q62) e)) e:=by obtain⟨out,line,begin,at_⟩:=e;kernel_rfl
  rw[h]
  simp only[zu8,r6_Lex_l2]<;>rfl) n_ e
def xf9 (N:Nat)(s:List UInt8)(l1:(List UInt8)→Int→Int→Int→Int→(List q39×Int×Int×Int)→Option OX6):Option OX6:=bif decide ((s.length:Int)>65536) then some ([],(0,0,()),3,()) else l1 s 0 0 0 0 ([],1,0,0)
def ja9 (N:Nat)(s:List UInt8):Option OX6:=xf9 N s (fun s qa4 qe5 q51 q62 e=>q80 (zu8 N s qa4 qe5 q51 q62) N e)
noncomputable def q6r (N:Nat)(s:List UInt8):Option (RT [(.list qd2),qr3,(.int .i64)]):=q20 DR Tryz.prog N (k07 N) j01 Tryz.f29 (q31 Tryz.f29) (RT [(.list qd2),qr3,(.int .i64)]) (qb7 [.str] (s,())) [] (q38 [(.list qd2),qr3,(.int .i64)])
theorem w0d (N:Nat)(s:List UInt8):q6r N s=ja9 N s:=by
 have h:q6r N s=xf9 N s (fun s qa4 qe5 q51 q62 e=>q55 (vw2 N ) N (jb1 s qa4 qe5 q51 q62 e) (jb2 s qa4 qe5 q51 q62 e)):=by kernel_rfl
 rw[h]
 simp only[ja9,r6_Lex_l1]<;>rfl
def q1d (m:(List UInt8)→Option OX6):Ent:=q29 [.str] [(.list qd2),qr3,(.int .i64)] fun (x:Els [.str])=>m x.1
def uk8 (N:Nat):Ent:=q1d (ja9 N)
theorem kk9 (N:Nat):q16 Tryz.prog 29 (uk8 N):=q10 (r6_Lex_Ts N) Tryz.func29 rfl (by kernel_rfl) fun (x:Els [.str])=>w0d N x.1
def vy8 :FH:=⟨[],[],[(1,⟨8,21,0,[(7,.app 2003)],[]⟩)],[],false,[],[]⟩
noncomputable def ye1 (N:Nat):q46:=tab []
theorem vd9 (N:Nat):q13 Tryz.prog (ye1 N):=q25 _
def qq0 (N:Nat)(q40:List q39)(q23 q19:Int)(q68:List q15)(q79 q27:Int)(n:q15):Option OX0:=bif qr1 (q68.length+([n]:List q15).length) 1466015503701 then bif q24 (((q68++([n]:List q15)).length:Int)-1) then some (((q40,q23,q19,(q68++([n]:List q15)),q79,q27,()),()),(((q68++([n]:List q15)).length:Int)-1,())) else none else none
abbrev qo0 :yv0:=⟨[.ref 0,.val q49],[.cells [.val (.list qd2),.val (.int .i64),.val (.int .i64),.own q49 2003 54 8,.val (.int .i64),.val (.int .i64)] 161],[.arg 0 []],[.val (.int .i64)],true⟩
noncomputable def vy7 (N:Nat)(q40:List q39)(q23 q19:Int)(q68:List q15)(q79 q27:Int)(n:q15):Option (ObR qo0):=q20 DR Tryz.prog N (ye1 N) vy8 Tryz.f145 (q31 Tryz.f145) (ObR qo0) (encX qo0 ((q40,q23,q19,q68,q79,q27,()),()) (n,())) (encY qo0 ((q40,q23,q19,q68,q79,q27,()),())) (kObj qo0)
theorem xw2 (N:Nat)(q40:List q39)(q23 q19:Int)(q68:List q15)(q79 q27:Int)(n:q15):vy7 N q40 q23 q19 q68 q79 q27 n=qq0 N q40 q23 q19 q68 q79 q27 n:=by kernel_rfl
def xh4 (m:(List q39)→Int→Int→(List q15)→Int→Int→q15→Option OX0):Ent:=xe0 qo0 fun (y:OX2×Unit) (x:Els [q49])=>m y.1.1 y.1.2.1 y.1.2.2.1 y.1.2.2.2.1 y.1.2.2.2.2.1 y.1.2.2.2.2.2.1 x.1
def w86 (N:Nat):Ent:=xh4 (qq0 N)
theorem wi7 (N:Nat):q16 Tryz.prog 145 (w86 N):=z75 (vd9 N) Tryz.func145 rfl (by kernel_rfl) (by kernel_rfl) fun (y:OX2×Unit) (x:Els [q49])=>xw2 N y.1.1 y.1.2.1 y.1.2.2.1 y.1.2.2.2.1 y.1.2.2.2.2.1 y.1.2.2.2.2.2.1 x.1
def r7_Call_H :FH:=⟨[],[],[],[],false,[],[]⟩
noncomputable def km9 (N:Nat):q46:=tab []
theorem w0n (N:Nat):q13 Tryz.prog (km9 N):=q25 _
def zv1 (N:Nat)(s:List UInt8):Option (Int×Int×Int×Unit):=bif (s==([97,98,115]:List UInt8)) then some (18,1,1,()) else bif (s==([109,105,110]:List UInt8)) then some (19,1,8,()) else bif (s==([109,97,120]:List UInt8)) then some (20,1,8,()) else bif (s==([109,111,100]:List UInt8)) then some (21,2,2,()) else bif (s==([108,101,110,103,116,104]:List UInt8)) then some (22,1,1,()) else bif (s==([117,112,112,101,114]:List UInt8)) then some (23,1,1,()) else bif (s==([99,111,110,116,97,105,110,115]:List UInt8)) then some (24,2,2,()) else bif (s==([115,116,97,114,116,115]:List UInt8)) then some (25,2,2,()) else bif (s==([105,102]:List UInt8)) then some (26,3,3,()) else some (0,0,0,())
noncomputable def r7_Call_C (N:Nat)(s:List UInt8):Option (RT [(.int .u8),(.int .i64),(.int .i64)]):=q20 DR Tryz.prog N (km9 N) r7_Call_H Tryz.f206 (q31 Tryz.f206) (RT [(.int .u8),(.int .i64),(.int .i64)]) (qb7 [.str] (s,())) [] (q38 [(.int .u8),(.int .i64),(.int .i64)])
theorem q1k (N:Nat)(s:List UInt8):r7_Call_C N s=zv1 N s:=by kernel_rfl
def kn0 (m:(List UInt8)→Option (Int×Int×Int×Unit)):Ent:=q29 [.str] [(.int .u8),(.int .i64),(.int .i64)] fun (x:Els [.str])=>m x.1
def x19 (N:Nat):Ent:=kn0 (zv1 N)
theorem xg6 (N:Nat):q16 Tryz.prog 206 (x19 N):=q10 (w0n N) Tryz.func206 rfl (by kernel_rfl) fun (x:Els [.str])=>q1k N x.1
def vd8 :FH:=⟨[],[],[(1,⟨32,52,0,[],[]⟩),(2,⟨8,52,0,[],[]⟩)],[],false,[],[]⟩
noncomputable def js0 (N:Nat):q46:=tab []
theorem xw1 (N:Nat):q13 Tryz.prog (js0 N):=q25 _
def qa0 (N:Nat)(r_L:List q39)(wi9 qk7:Int)(r_T:List q15)(r_E zn4:Int):Option (List UInt8):=bif decide (wi9<(r_L.length:Int)) then bif inR wi9 r_L.length then bif (((q17 r_L wi9 q33).1)==1) then bif inR wi9 r_L.length then some ((q17 r_L wi9 q33).2.1) else none else bif inR wi9 r_L.length then bif (((q17 r_L wi9 q33).1)==7) then bif inR wi9 r_L.length then some ((q17 r_L wi9 q33).2.1) else none else some [] else none else none else some []
abbrev jd2 :List PK:=[.ep 6,.val (.list qd2),.val (.int .i64),.val (.int .i64),.val (.list q49),.val (.int .i64),.val (.int .i64)]
noncomputable def vd7 (N:Nat)(r_L:List q39)(wi9 qk7:Int)(r_T:List q15)(r_E zn4:Int):Option (RT [.str]):=q20 DR Tryz.prog N (js0 N) vd8 Tryz.f143 (q31 Tryz.f143) (RT [.str]) (w01 jd2 (r_L,wi9,qk7,r_T,r_E,zn4,())) [] (q38 [.str])
theorem xh3 (N:Nat)(r_L:List q39)(wi9 qk7:Int)(r_T:List q15)(r_E zn4:Int):vd7 N r_L wi9 qk7 r_T r_E zn4=qa0 N r_L wi9 qk7 r_T r_E zn4:=by kernel_rfl
def x28 (m:(List q39)→Int→Int→(List q15)→Int→Int→Option (List UInt8)):Ent:=qf5 jd2 [.str] fun (x:Els [(.list qd2),(.int .i64),(.int .i64),(.list q49),(.int .i64),(.int .i64)])=>m x.1 x.2.1 x.2.2.1 x.2.2.2.1 x.2.2.2.2.1 x.2.2.2.2.2.1
def qp9 (N:Nat):Ent:=x28 (qa0 N)
theorem qs7 (N:Nat):q16 Tryz.prog 143 (qp9 N):=q57 (xw1 N) Tryz.func143 rfl (by kernel_rfl) (by kernel_rfl) fun (x:Els [(.list qd2),(.int .i64),(.int .i64),(.list q49),(.int .i64),(.int .i64)])=>xh3 N x.1 x.2.1 x.2.2.1 x.2.2.2.1 x.2.2.2.2.1 x.2.2.2.2.2.1
noncomputable def j06 (N:Nat):q46:=tab []
theorem x29 (N:Nat):q13 Tryz.prog (j06 N):=q25 _
noncomputable def qj7 (N:Nat):Ent:=zt4 Tryz.prog N (j06 N) ⟨[],[],[],[],false,[],[]⟩ Tryz.f205 (q31 Tryz.f205)
theorem qm6 (N:Nat):q16 Tryz.prog 205 (qj7 N):=qc4 (x29 N) Tryz.func205 rfl (by kernel_rfl)
def vd6 :FH:=⟨[],[],[],[],false,[143],[]⟩
noncomputable def jr9 (N:Nat):q46:=tab [(143,qp9 N),(205,qj7 N)]
theorem xw0 (N:Nat):q13 Tryz.prog (jr9 N):=q06 (qs7 N)<|q06 (qm6 N)<|q25 _
def qk6 (N:Nat)(q40:List q39)(q23 q19:Int)(q68:List q15)(q79 q27:Int)(s:List UInt8):Option (OX1×(Unit)):=bif (q79==0) then (qa0 N q40 q23 q19 q68 q79 q27).bind fun r=>bif (!(r==s)) then bif (q79==0) then some (((q40,q23,q19,q68,4,q23,()),()),()) else bif (q79==0) then bif q24 (q23+1) then some (((q40,q23+1,q19,q68,q79,q27,()),()),()) else none else some (((q40,q23,q19,q68,q79,q27,()),()),()) else bif (q79==0) then bif q24 (q23+1) then some (((q40,q23+1,q19,q68,q79,q27,()),()),()) else none else some (((q40,q23,q19,q68,q79,q27,()),()),()) else bif (q79==0) then bif q24 (q23+1) then some (((q40,q23+1,q19,q68,q79,q27,()),()),()) else none else some (((q40,q23,q19,q68,q79,q27,()),()),())
abbrev ql4 :yv0:=⟨[.ref 0,.val .str],[.cells [.val (.list qd2),.val (.int .i64),.val (.int .i64),.own q49 2003 54 8,.val (.int .i64),.val (.int .i64)] 161],[.arg 0 []],[],false⟩
noncomputable def vd5 (N:Nat)(q40:List q39)(q23 q19:Int)(q68:List q15)(q79 q27:Int)(s:List UInt8):Option (ObR ql4):=q20 DR Tryz.prog N (jr9 N) vd6 Tryz.f208 (q31 Tryz.f208) (ObR ql4) (encX ql4 ((q40,q23,q19,q68,q79,q27,()),()) (s,())) (encY ql4 ((q40,q23,q19,q68,q79,q27,()),())) (kObj ql4)
theorem xh2 (N:Nat)(q40:List q39)(q23 q19:Int)(q68:List q15)(q79 q27:Int)(s:List UInt8):vd5 N q40 q23 q19 q68 q79 q27 s=qk6 N q40 q23 q19 q68 q79 q27 s:=by kernel_rfl
def x27 (m:(List q39)→Int→Int→(List q15)→Int→Int→(List UInt8)→Option (OX1×(Unit))):Ent:=xe0 ql4 fun (y:OX2×Unit) (x:Els [.str])=>m y.1.1 y.1.2.1 y.1.2.2.1 y.1.2.2.2.1 y.1.2.2.2.2.1 y.1.2.2.2.2.2.1 x.1
def wq1 (N:Nat):Ent:=x27 (qk6 N)
theorem zl2 (N:Nat):q16 Tryz.prog 208 (wq1 N):=z75 (xw0 N) Tryz.func208 rfl (by kernel_rfl) (by kernel_rfl) fun (y:OX2×Unit) (x:Els [.str])=>xh2 N y.1.1 y.1.2.1 y.1.2.2.1 y.1.2.2.2.1 y.1.2.2.2.2.1 y.1.2.2.2.2.2.1 x.1
noncomputable def zv2 (N:Nat):q46:=tab []
theorem yq8 (N:Nat):q13 Tryz.prog (zv2 N):=q25 _
noncomputable def w60 (N:Nat):Ent:=zt4 Tryz.prog N (zv2 N) ⟨[],[],[(1,⟨9,25,0,[],[]⟩),(2,⟨8,25,0,[],[]⟩)],[],false,[],[]⟩ Tryz.f142 (q31 Tryz.f142)
theorem wq2 (N:Nat):q16 Tryz.prog 142 (w60 N):=qc4 (yq8 N) Tryz.func142 rfl (by kernel_rfl)
noncomputable def zl1 (N:Nat):q46:=tab [(205,qj7 N)]
theorem ye0 (N:Nat):q13 Tryz.prog (zl1 N):=q06 (qm6 N)<|q25 _
noncomputable def qm5 (N:Nat):Ent:=zt4 Tryz.prog N (zl1 N) ⟨[],[],[],[],false,[],[]⟩ Tryz.f144 (q31 Tryz.f144)
theorem qv3 (N:Nat):q16 Tryz.prog 144 (qm5 N):=qc4 (ye0 N) Tryz.func144 rfl (by kernel_rfl)
def vy1 :LH:=⟨[(0,.int .i64),(1,.str),(5,.lst (.list .str)),(6,.lst (.int .u8)),(7,.int .i64)],[],[]⟩
def yj1 :FH:=⟨[vy1],[],[],[],false,[],[]⟩
noncomputable def xt9 (N:Nat):q46:=tab []
theorem q1l (N:Nat):q13 Tryz.prog (xt9 N):=q25 _
noncomputable def vy4 :Sc:=w89 Tryz.prog yj1
noncomputable def vy3 (N:Nat):Cfg:=⟨N,xt9 N,0⟩
noncomputable def kn1 (N:Nat):Exit→KT Int:=fin Tryz.prog 0 Tryz.f146.results.toList (q38 [(.int .u8)])
def x21 (level:Int)(s:List UInt8)(words:List (List (List UInt8)))(first:List Int)(e:Int):List TV:=match e with|i=>frm 40 [(0,.int .i64 level),(1,.str s),(5,.tl (.list .str) words .unk),(6,.tl (.int .u8) first .unk),(7,.int .i64 i)]
def x22 (level:Int)(s:List UInt8)(words:List (List (List UInt8)))(first:List Int)(e:Int):List TOb:=match e with|i=>[]
noncomputable def vy2 (N:Nat):(KT Int)→KT Int:=qy2 DR vy4 (vy3 N) (nv [5,4,1,0,1,1,1] Tryz.f146) vy1 (yj1.loops.drop 1) (qd6 0 (qa6 DR vy4 (vy3 N) (nv [1,1,1,1] Tryz.f146) (yj1.loops.drop 1) (kn1 N)))
def x20 (N:Nat)(level:Int)(s:List UInt8)(words:List (List (List UInt8)))(first:List Int)(K0:Int→Option Int)(e:Int):Option Int:=match e with|i=>bif inR level words.length then bif decide (i<((q17 words level []).length:Int)) then bif inR level words.length then bif inR i (q17 words level []).length then bif ((q17 (q17 words level []) i [])==s) then bif inR level first.length then some (IntKind.u8.wrap ((q17 first level 0)+(IntKind.u8.wrap i))) else none else bif q24 (i+1) then K0 (i+1) else none else none else none else some 0 else none
theorem q1m (N:Nat)(level:Int)(s:List UInt8)(words:List (List (List UInt8)))(first:List Int)(n_:Nat)(e:Int):q55 (vy2 N ) n_ ((x21 level s words first) e) ((x22 level s words first) e)=q80 (x20 N level s words first ) n_ e :=
 q36 (x21 level s words first) (x22 level s words first) (by intro K e;kernel_rfl) n_ e
def xu0 (N:Nat)(level:Int)(s:List UInt8)(l1:Int→(List UInt8)→(List (List (List UInt8)))→(List Int)→Int→Option Int):Option Int:=l1 level s ([[[111,114]],[[97,110,100]],[],[[61],[60,62],[60],[60,61],[62],[62,61]],[[43],[45]],[[42],[47]],[]]) [4,5,0,7,13,15,0] 0
def jn7 (N:Nat)(level:Int)(s:List UInt8):Option Int:=xu0 N level s (fun level s words first e=>q80 (x20 N level s words first) N e)
noncomputable def ul6 (N:Nat)(level:Int)(s:List UInt8):Option (RT [(.int .u8)]):=q20 DR Tryz.prog N (xt9 N) yj1 Tryz.f146 (q31 Tryz.f146) (RT [(.int .u8)]) (qb7 [(.int .i64),.str] (level,s,())) [] (q38 [(.int .u8)])
theorem kn2 (N:Nat)(level:Int)(s:List UInt8):ul6 N level s=jn7 N level s:=by
 have h:ul6 N level s=xu0 N level s (fun level s words first e=>q55 (vy2 N ) N (x21 level s words first e) (x22 level s words first e)):=by kernel_rfl
 rw[h]
 simp only[jn7,q1m]<;>rfl
def k20 (m:Int→(List UInt8)→Option Int):Ent:=q29 [(.int .i64),.str] [(.int .u8)] fun (x:Els [(.int .i64),.str])=>m x.1 x.2.1
def v78 (N:Nat):Ent:=k20 (jn7 N)
theorem uc0 (N:Nat):q16 Tryz.prog 146 (v78 N):=q10 (q1l N) Tryz.func146 rfl (by kernel_rfl) fun (x:Els [(.int .i64),.str])=>kn2 N x.1 x.2.1
end Go.Proofs.YtgicljncknbgcaaGreat.Abs
