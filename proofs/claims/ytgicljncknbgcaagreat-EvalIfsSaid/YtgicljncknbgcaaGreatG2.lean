/- The functions of the program, told on typed values, printed by a program: each tells what the reckoning of its body tells. -/
import Derived.Test.YtgicljncknbgcaaGreatL7
import Derived.Test.YtgicljncknbgcaaGreatG0
import Derived.Test.YtgicljncknbgcaaGreatLA
import Derived.Test.YtgicljncknbgcaaGreatProg
set_option linter.unusedVariables false
set_option linter.unusedSimpArgs false
set_option linter.unusedSectionVars false
namespace Go.Proofs.YtgicljncknbgcaaGreat.Abs
set_option maxRecDepth 100000
open Go Go.Proofs
def xq8 :LH:=⟨[(1,.int .i64),(5,.str),(6,.asis)],[],[.cells [.bool,.lst (.int .i64)],.cells [.bool,.lst (.int .i64)]]⟩
def je3 :FH:=⟨[xq8],[],[(4,⟨9,46,2,[(6,.alloc 0),(7,.alloc 1),(8,.store true 2)],[]⟩)],[],false,[],[]⟩
noncomputable def yj2 (N:Nat):q48:=tab [(209,j17 N),(239,u21 N)]
theorem uw2 (N:Nat):q13 Tryz.prog (yj2 N):=q06 (zn9 N) <| q06 (k20 N) <| q27 _
noncomputable def xp1 :Sc:=wl6 Tryz.prog je3
noncomputable def xq1 (N:Nat):Cfg:=⟨N,yj2 N,0⟩
noncomputable def u86 (N:Nat):Exit→List TV→List TOb→Option (List UInt8):=fin Tryz.prog 0 Tryz.f210.results.toList (q40 [.str])
def jx5 (least:Int)(zq1:Bool)(ki0:List Int)(e:List UInt8×Bool×List Int):List TV:=match e with
 | (s,left_Neg,left_D)=>frm 46 [(1,.int .i64 least),(5,.str s),(6,.ref 1 0)]
def y01 (least:Int)(zq1:Bool)(ki0:List Int)(e:List UInt8×Bool×List Int):List TOb:=match e with
 | (s,left_Neg,left_D)=>[.cells [.bool zq1,.tl (.int .i64) ki0 .unk] 265 true,.cells [.bool left_Neg,.tl (.int .i64) left_D .unk] 265 true]
noncomputable def xl7 (N:Nat):(List TV→List TOb→Option (List UInt8))→List TV→List TOb→Option (List UInt8):=w54 DR xp1 (xq1 N) (ql6 (qc4 (q87 (q08 (q08 (q08 (q10 Tryz.f210))))))) xq8 (je3.loops.drop 1) (qk0 0 (qc3 DR xp1 (xq1 N) (q08 (q08 (q08 (q08 (q10 Tryz.f210))))) (je3.loops.drop 1) (u86 N)))
def jp4 (N:Nat)(least:Int)(zq1:Bool)(ki0:List Int)(K0:(List UInt8×Bool×List Int)→Option (List UInt8))(e:List UInt8×Bool×List Int):Option (List UInt8) :=
 match e with
 | (s,left_Neg,left_D) =>
  bif decide ((left_D.length:Int) > 0) then
   (qy4 N 10).bind fun r =>
   (xp4 N (left_Neg,left_D,()) r).bind fun r1 =>
   bif decide ((r1.2.1.2.1.length:Int) > 0) then
    bif inR 0 r1.2.1.2.1.length then
    bif q26 (48 + (q24 r1.2.1.2.1 0 0)) then
    bif qt8 (qx8 [(IntKind.u8.wrap (48 + (q24 r1.2.1.2.1 0 0)))]) s then
    K0 (((qx8 [(IntKind.u8.wrap (48 + (q24 r1.2.1.2.1 0 0)))]) ++ s),r1.1.1,r1.1.2.1)
    else none
    else none
    else none
   else
    bif qt8 (qx8 [(IntKind.u8.wrap 48)]) s then
    K0 (((qx8 [(IntKind.u8.wrap 48)]) ++ s),r1.1.1,r1.1.2.1)
    else none
  else
   bif decide ((s.length:Int) < least) then
    (qy4 N 10).bind fun r2 =>
    (xp4 N (left_Neg,left_D,()) r2).bind fun r3 =>
    bif decide ((r3.2.1.2.1.length:Int) > 0) then
     bif inR 0 r3.2.1.2.1.length then
     bif q26 (48 + (q24 r3.2.1.2.1 0 0)) then
     bif qt8 (qx8 [(IntKind.u8.wrap (48 + (q24 r3.2.1.2.1 0 0)))]) s then
     K0 (((qx8 [(IntKind.u8.wrap (48 + (q24 r3.2.1.2.1 0 0)))]) ++ s),r3.1.1,r3.1.2.1)
     else none
     else none
     else none
    else
     bif qt8 (qx8 [(IntKind.u8.wrap 48)]) s then
     K0 (((qx8 [(IntKind.u8.wrap 48)]) ++ s),r3.1.1,r3.1.2.1)
     else none
   else
    some s
theorem us8 (N:Nat)(least:Int)(zq1:Bool)(ki0:List Int)(n_:Nat)(e:List UInt8×Bool×List Int):q57 (xl7 N ) n_ ((jx5 least zq1 ki0) e) ((y01 least zq1 ki0) e)=q86 (jp4 N least zq1 ki0 ) n_ e :=
 q39 (jx5 least zq1 ki0) (y01 least zq1 ki0) (by intro K e; obtain ⟨s,left_Neg,left_D⟩:=e; kernel_rfl) n_ e
def yo3 (N:Nat)(x:qa0)(least:Int)(l1:Int→Bool→(List Int)→(List UInt8×Bool×List Int)→Option (List UInt8)):Option (List UInt8) :=
 l1 least x.1 x.2.1 ([],false,x.2.1)
def z16 (N:Nat)(x:qa0)(least:Int):Option (List UInt8):=yo3 N x least (fun least zq1 ki0 e=>q86 (jp4 N least zq1 ki0) N e)
noncomputable def v67 (N:Nat)(x:qa0)(least:Int):Option (RT [.str]):=q22 DR Tryz.prog N (yj2 N) je3 Tryz.f210 (q10 Tryz.f210) (RT [.str]) (qd2 [ql5,(.int .i64)] (x,least,())) [] (q40 [.str])
theorem ug0 (N:Nat)(x:qa0)(least:Int):v67 N x least=z16 N x least:=by
 have h:v67 N x least=yo3 N x least (fun least zq1 ki0 e=>q57 (xl7 N ) N (jx5 least zq1 ki0 e) (y01 least zq1 ki0 e)):=by kernel_rfl
 rw [h]
 simp only [z16,us8] <;> rfl
def vq5 (m:qa0→Int→Option (List UInt8)):Ent:=q35 [ql5,(.int .i64)] [.str] fun (x:Els [ql5,(.int .i64)])=>m x.1 x.2.1
def yx3 (N:Nat):Ent:=vq5 (z16 N)
theorem vb8 (N:Nat):q16 Tryz.prog 210 (yx3 N):=q15 (uw2 N) Tryz.func210 rfl (by kernel_rfl) fun (x:Els [ql5,(.int .i64)])=>ug0 N x.1 x.2.1
def vz1 :LH:=⟨[(4,.str),(5,.str),(6,.int .i64)],[],[.cells [.int .u8,.int .i64,.str],.cells [.bool,.lst (.int .i64)]]⟩
def y81 :LH:=⟨[(1,.asis),(7,.str),(8,.int .i64)],[],[.cells [.int .u8,.int .i64,.str],.cells [.bool,.lst (.int .i64)]]⟩
def qn2 :FH:=⟨[vz1,y81],[],[(17,⟨14,103,0,[],[]⟩)],[],false,[],[(7,⟨[(1,.asis),(3,.asis),(4,.str)],[],[.cells [.int .u8,.int .i64,.str],.cells [.bool,.lst (.int .i64)]]⟩),(29,⟨[(1,.asis),(7,.str),(8,.int .i64)],[],[.cells [.int .u8,.int .i64,.str],.cells [.bool,.lst (.int .i64)]]⟩),(30,⟨[(1,.asis),(7,.str),(8,.int .i64)],[],[.cells [.int .u8,.int .i64,.str],.cells [.bool,.lst (.int .i64)]]⟩)]⟩
noncomputable def v64 (N:Nat):q48:=tab [(14,xc2 N),(209,j17 N),(210,yx3 N)]
theorem kt1 (N:Nat):q13 Tryz.prog (v64 N):=q06 (xo9 N) <| q06 (zn9 N) <| q06 (vb8 N) <| q27 _
noncomputable def qf3 :Sc:=wl6 Tryz.prog qn2
noncomputable def qd1 (N:Nat):Cfg:=⟨N,v64 N,0⟩
noncomputable def zl4 (N:Nat):Exit→List TV→List TOb→Option (List UInt8):=fin Tryz.prog 0 Tryz.f148.results.toList (q40 [.str])
def xj0 (q42 v_N:Int)(v_S:List UInt8)(q31:Bool)(x_D:List Int)(e:List UInt8):List TV:=match e with
 | sign=>frm 103 [(1,.ref 0 0),(3,.ref 1 0),(4,.str sign)]
def xh0 (q42 v_N:Int)(v_S:List UInt8)(q31:Bool)(x_D:List Int)(e:List UInt8):List TOb:=match e with
 | sign=>[.cells [.int .u8 q42,.int .i64 v_N,.str v_S] 26 true,.cells [.bool q31,.tl (.int .i64) x_D .unk] 265 true]
def wf4 (q42 v_N:Int)(v_S:List UInt8)(q31:Bool)(x_D:List Int)(e:List UInt8×Int):List TV:=match e with
 | (s,i)=>frm 103 [(1,.ref 0 0),(7,.str s),(8,.int .i64 i)]
def wg0 (q42 v_N:Int)(v_S:List UInt8)(q31:Bool)(x_D:List Int)(e:List UInt8×Int):List TOb:=match e with
 | (s,i)=>[.cells [.int .u8 q42,.int .i64 v_N,.str v_S] 26 true,.cells [.bool q31,.tl (.int .i64) x_D .unk] 265 true]
def xd0 (s:List UInt8)(i q42 v_N:Int)(v_S:List UInt8)(q31:Bool)(x_D:List Int)(e:Unit):List TV:=frm 103 [(1,.ref 0 0),(7,.str s),(8,.int .i64 i)]
def xg1 (s:List UInt8)(i q42 v_N:Int)(v_S:List UInt8)(q31:Bool)(x_D:List Int)(e:Unit):List TOb:=[.cells [.int .u8 q42,.int .i64 v_N,.str v_S] 26 true,.cells [.bool q31,.tl (.int .i64) x_D .unk] 265 true]
def x77 (i q42 v_N:Int)(v_S:List UInt8)(q31:Bool)(x_D:List Int)(e:List UInt8):List TV:=match e with
 | s1=>frm 103 [(1,.ref 0 0),(7,.str s1),(8,.int .i64 i)]
def x69 (i q42 v_N:Int)(v_S:List UInt8)(q31:Bool)(x_D:List Int)(e:List UInt8):List TOb:=match e with
 | s1=>[.cells [.int .u8 q42,.int .i64 v_N,.str v_S] 26 true,.cells [.bool q31,.tl (.int .i64) x_D .unk] 265 true]
def x71 (sign r3:List UInt8)(q42 v_N:Int)(v_S:List UInt8)(q31:Bool)(x_D:List Int)(e:Int):List TV:=match e with
 | end_=>frm 103 [(4,.str sign),(5,.str r3),(6,.int .i64 end_)]
def xf8 (sign r3:List UInt8)(q42 v_N:Int)(v_S:List UInt8)(q31:Bool)(x_D:List Int)(e:Int):List TOb:=match e with
 | end_=>[.cells [.int .u8 q42,.int .i64 v_N,.str v_S] 26 true,.cells [.bool q31,.tl (.int .i64) x_D .unk] 265 true]
noncomputable def u29 (N:Nat):(List TV→List TOb→Option (List UInt8))→List TV→List TOb→Option (List UInt8):=w54 DR qf3 (qd1 N) (ql6 (qc4 (q87 (q08 (q08 (ys1 (q08 (zf9 (q08 (zf9 (q08 (qc4 (q08 (q87 (q08 (q08 (q08 (q08 (q08 (q10 Tryz.f148)))))))))))))))))))) vz1 (qn2.loops.drop 1) (qk0 1 (qc3 DR qf3 (qd1 N) (q08 (q08 (q08 (ys1 (q08 (zf9 (q08 (zf9 (q08 (qc4 (q08 (q87 (q08 (q08 (q08 (q08 (q08 (q10 Tryz.f148)))))))))))))))))) (qn2.loops.drop 1) (qk0 0 (qc3 DR qf3 (qd1 N) (q08 (q08 (q08 (q08 (q08 (q08 (q10 Tryz.f148))))))) (qn2.loops.drop 1) (zl4 N)))))
def xg9 (N:Nat)(sign r3:List UInt8)(q42 v_N:Int)(v_S:List UInt8)(q31:Bool)(x_D:List Int)(K0:Int→Option (List UInt8))(e:Int):Option (List UInt8) :=
 match e with
 | end_ =>
  bif q26 ((r3.length:Int) - 3) then
  bif decide (end_ > ((r3.length:Int) - 3)) then
   bif q26 (end_ - 1) then
   bif inR (end_ - 1) r3.length then
   bif ((q37 r3 (end_ - 1)) == 48) then
    bif q26 (end_ - 1) then
    K0 (end_ - 1)
    else none
   else
    bif q26 ((r3.length:Int) - 4) then
    bif upTo ((r3.length:Int) - 4) r3.length then
    bif qt8 sign (r3.take ((r3.length:Int) - 4).toNat) then
    bif qt8 (sign ++ (r3.take ((r3.length:Int) - 4).toNat)) ([46]:List UInt8) then
    bif q26 ((r3.length:Int) - 4) then
    bif inB ((r3.length:Int) - 4) end_ r3.length then
    bif qt8 ((sign ++ (r3.take ((r3.length:Int) - 4).toNat)) ++ ([46]:List UInt8)) ((r3.take end_.toNat).drop ((r3.length:Int) - 4).toNat) then
    some (((sign ++ (r3.take ((r3.length:Int) - 4).toNat)) ++ ([46]:List UInt8)) ++ ((r3.take end_.toNat).drop ((r3.length:Int) - 4).toNat))
    else none
    else none
    else none
    else none
    else none
    else none
    else none
   else none
   else none
  else
   bif q26 ((r3.length:Int) - 4) then
   bif upTo ((r3.length:Int) - 4) r3.length then
   bif qt8 sign (r3.take ((r3.length:Int) - 4).toNat) then
   bif qt8 (sign ++ (r3.take ((r3.length:Int) - 4).toNat)) ([46]:List UInt8) then
   bif q26 ((r3.length:Int) - 4) then
   bif inB ((r3.length:Int) - 4) end_ r3.length then
   bif qt8 ((sign ++ (r3.take ((r3.length:Int) - 4).toNat)) ++ ([46]:List UInt8)) ((r3.take end_.toNat).drop ((r3.length:Int) - 4).toNat) then
   some (((sign ++ (r3.take ((r3.length:Int) - 4).toNat)) ++ ([46]:List UInt8)) ++ ((r3.take end_.toNat).drop ((r3.length:Int) - 4).toNat))
   else none
   else none
   else none
   else none
   else none
   else none
   else none
  else none
theorem kr6 (N:Nat)(sign r3:List UInt8)(q42 v_N:Int)(v_S:List UInt8)(q31:Bool)(x_D:List Int)(n_:Nat)(e:Int):q57 (u29 N ) n_ ((x71 sign r3 q42 v_N v_S q31 x_D) e) ((xf8 sign r3 q42 v_N v_S q31 x_D) e)=q86 (xg9 N sign r3 q42 v_N v_S q31 x_D ) n_ e :=
 q39 (x71 sign r3 q42 v_N v_S q31 x_D) (xf8 sign r3 q42 v_N v_S q31 x_D) (by intro K e; kernel_rfl) n_ e
noncomputable def xf0 (N:Nat)(K0r:List TV→List TOb→Option (List UInt8)):List TV→List TOb→Option (List UInt8):=ys5 DR qf3 (qd1 N) (q08 (qc4 (q87 (q08 (ql6 (qc4 (q08 (q87 (q08 (q08 (q08 (q08 (q08 (q08 (q08 (q10 Tryz.f148)))))))))))))))) (qk0 4 (qc3 DR qf3 (qd1 N) (q08 (q08 (ql6 (qc4 (q08 (q87 (q08 (q08 (q08 (q08 (q08 (q08 (q08 (q10 Tryz.f148)))))))))))))) (qn2.loops.drop 2) (ud6 (qd1 N) y81 (qk0 3 (qc3 DR qf3 (qd1 N) (q08 (q08 (q08 (q08 (q08 (q08 (q08 (q08 (q10 Tryz.f148))))))))) (qn2.loops.drop 2) (zl4 N))) K0r)))
def zx4 (N:Nat)(i q42 v_N:Int)(v_S:List UInt8)(q31:Bool)(x_D:List Int)(K0:(List UInt8×Int)→Option (List UInt8))(e:List UInt8):Option (List UInt8) :=
 match e with
 | s1 =>
  bif q26 (i + 1) then
  bif inB i (i + 1) v_S.length then
  bif qt8 s1 ((v_S.take (i + 1).toNat).drop i.toNat) then
  bif q26 (i + 1) then
  K0 ((s1 ++ ((v_S.take (i + 1).toNat).drop i.toNat)),i + 1)
  else none
  else none
  else none
  else none
theorem u18 (N:Nat)(i q42 v_N:Int)(v_S:List UInt8)(q31:Bool)(x_D:List Int)(K0r:List TV→List TOb→Option (List UInt8))(e:List UInt8):jmp N (xf0 N K0r) ((x77 i q42 v_N v_S q31 x_D) e) ((x69 i q42 v_N v_S q31 x_D) e)=at1 N (zx4 N i q42 v_N v_S q31 x_D (fun a=>K0r (wf4 q42 v_N v_S q31 x_D a) (wg0 q42 v_N v_S q31 x_D a)) e):=qn4 (by kernel_rfl) N
noncomputable def x76 (N:Nat)(K0r:List TV→List TOb→Option (List UInt8)):List TV→List TOb→Option (List UInt8):=ys5 DR qf3 (qd1 N) (ys1 (q08 (q87 (qc4 (q87 (q08 (ql6 (qc4 (q08 (q87 (q08 (q08 (q08 (q08 (q08 (q08 (q08 (q10 Tryz.f148)))))))))))))))))) (qc3 DR qf3 (qd1 N) (q08 (qc4 (q87 (q08 (ql6 (qc4 (q08 (q87 (q08 (q08 (q08 (q08 (q08 (q08 (q08 (q10 Tryz.f148)))))))))))))))) (qn2.loops.drop 2) (qk0 4 (qc3 DR qf3 (qd1 N) (q08 (q08 (ql6 (qc4 (q08 (q87 (q08 (q08 (q08 (q08 (q08 (q08 (q08 (q10 Tryz.f148)))))))))))))) (qn2.loops.drop 2) (ud6 (qd1 N) y81 (qk0 3 (qc3 DR qf3 (qd1 N) (q08 (q08 (q08 (q08 (q08 (q08 (q08 (q08 (q10 Tryz.f148))))))))) (qn2.loops.drop 2) (zl4 N))) K0r))))
def yp1 (N:Nat)(s:List UInt8)(i q42 v_N:Int)(v_S:List UInt8)(q31:Bool)(x_D:List Int)(K0:(List UInt8×Int)→Option (List UInt8))(l5:Int→Int→Int→(List UInt8)→Bool→(List Int)→(List UInt8)→Option (List UInt8))(e:Unit):Option (List UInt8) :=
 bif qt8 s ([92]:List UInt8) then
 l5 i q42 v_N v_S q31 x_D (s ++ ([92]:List UInt8))
 else none
def zw0 (N:Nat)(s:List UInt8)(i q42 v_N:Int)(v_S:List UInt8)(q31:Bool)(x_D:List Int)(K0:(List UInt8×Int)→Option (List UInt8))(e:Unit):Option (List UInt8):=yp1 N s i q42 v_N v_S q31 x_D K0 (fun i q42 v_N v_S q31 x_D e=>at1 N (zx4 N i q42 v_N v_S q31 x_D K0 e)) e
theorem kp5 (N:Nat)(s:List UInt8)(i q42 v_N:Int)(v_S:List UInt8)(q31:Bool)(x_D:List Int)(K0r:List TV→List TOb→Option (List UInt8))(e:Unit):jmp N (x76 N K0r) ((xd0 s i q42 v_N v_S q31 x_D) e) ((xg1 s i q42 v_N v_S q31 x_D) e)=at1 N (zw0 N s i q42 v_N v_S q31 x_D (fun a=>K0r (wf4 q42 v_N v_S q31 x_D a) (wg0 q42 v_N v_S q31 x_D a)) e):=qn4 (by
 have h:(x76 N K0r) ((xd0 s i q42 v_N v_S q31 x_D) e) ((xg1 s i q42 v_N v_S q31 x_D) e)=yp1 N s i q42 v_N v_S q31 x_D (fun a=>K0r (wf4 q42 v_N v_S q31 x_D a) (wg0 q42 v_N v_S q31 x_D a)) (fun i q42 v_N v_S q31 x_D e=>jmp N (xf0 N K0r) (x77 i q42 v_N v_S q31 x_D e) (x69 i q42 v_N v_S q31 x_D e)) e:=by kernel_rfl
 rw [h]
 simp only [zw0,u18] <;> rfl) N
noncomputable def xh4 (N:Nat):(List TV→List TOb→Option (List UInt8))→List TV→List TOb→Option (List UInt8):=w54 DR qf3 (qd1 N) (ql6 (qc4 (q08 (q87 (q08 (q08 (q08 (q08 (q08 (q08 (q08 (q10 Tryz.f148)))))))))))) y81 (qn2.loops.drop 2) (qk0 3 (qc3 DR qf3 (qd1 N) (q08 (q08 (q08 (q08 (q08 (q08 (q08 (q08 (q10 Tryz.f148))))))))) (qn2.loops.drop 2) (zl4 N)))
def yl8 (N:Nat)(q42 v_N:Int)(v_S:List UInt8)(q31:Bool)(x_D:List Int)(l4:(List UInt8)→Int→Int→Int→(List UInt8)→Bool→(List Int)→Unit→Option (List UInt8))(l5:Int→Int→Int→(List UInt8)→Bool→(List Int)→(List UInt8)→Option (List UInt8))(K0:(List UInt8×Int)→Option (List UInt8))(e:List UInt8×Int):Option (List UInt8) :=
 match e with
 | (s,i) =>
  bif decide (i < (v_S.length:Int)) then
   bif inR i v_S.length then
   bif ((q37 v_S i) == 34) then
    l4 s i q42 v_N v_S q31 x_D ()
   else
    bif inR i v_S.length then
    bif ((q37 v_S i) == 92) then
     l4 s i q42 v_N v_S q31 x_D ()
    else
     l5 i q42 v_N v_S q31 x_D s
    else none
   else none
  else
   bif qt8 s ([34]:List UInt8) then
   some (s ++ ([34]:List UInt8))
   else none
def y69 (N:Nat)(q42 v_N:Int)(v_S:List UInt8)(q31:Bool)(x_D:List Int)(K0:(List UInt8×Int)→Option (List UInt8))(e:List UInt8×Int):Option (List UInt8):=yl8 N q42 v_N v_S q31 x_D (fun s i q42 v_N v_S q31 x_D e=>at1 N (zw0 N s i q42 v_N v_S q31 x_D K0 e)) (fun i q42 v_N v_S q31 x_D e=>at1 N (zx4 N i q42 v_N v_S q31 x_D K0 e)) K0 e
theorem kt5 (N:Nat)(q42 v_N:Int)(v_S:List UInt8)(q31:Bool)(x_D:List Int)(n_:Nat)(e:List UInt8×Int):q57 (xh4 N ) n_ ((wf4 q42 v_N v_S q31 x_D) e) ((wg0 q42 v_N v_S q31 x_D) e)=q86 (y69 N q42 v_N v_S q31 x_D ) n_ e :=
 q39 (wf4 q42 v_N v_S q31 x_D) (wg0 q42 v_N v_S q31 x_D) (by
  intro K e
  have h:(xh4 N ) K ((wf4 q42 v_N v_S q31 x_D) e) ((wg0 q42 v_N v_S q31 x_D) e)=yl8 N q42 v_N v_S q31 x_D (fun s i q42 v_N v_S q31 x_D e=>jmp N (x76 N K) (xd0 s i q42 v_N v_S q31 x_D e) (xg1 s i q42 v_N v_S q31 x_D e)) (fun i q42 v_N v_S q31 x_D e=>jmp N (xf0 N K) (x77 i q42 v_N v_S q31 x_D e) (x69 i q42 v_N v_S q31 x_D e)) (fun e=>K ((wf4 q42 v_N v_S q31 x_D) e) ((wg0 q42 v_N v_S q31 x_D) e)) e:=by obtain ⟨s,i⟩:=e; kernel_rfl
  rw [h]
  simp only [y69,kp5,u18] <;> rfl) n_ e
noncomputable def xa1 (N:Nat):List TV→List TOb→Option (List UInt8):=ys5 DR qf3 (qd1 N) (q87 (q87 (q08 (q08 (q08 (q08 (q08 (q10 Tryz.f148)))))))) (qc3 DR qf3 (qd1 N) (q08 (q87 (q08 (q08 (q08 (q08 (q08 (q10 Tryz.f148)))))))) (qn2.loops.drop 0) (qc3 DR qf3 (qd1 N) (q08 (q08 (q08 (q08 (q08 (q08 (q10 Tryz.f148))))))) (qn2.loops.drop 1) (zl4 N)))
def ym8 (N:Nat)(q42 v_N:Int)(v_S:List UInt8)(q31:Bool)(x_D:List Int)(l2:(List UInt8)→(List UInt8)→Int→Int→(List UInt8)→Bool→(List Int)→Int→Option (List UInt8))(l3:Int→Int→(List UInt8)→Bool→(List Int)→(List UInt8×Int)→Option (List UInt8))(e:List UInt8):Option (List UInt8) :=
 match e with
 | sign =>
  bif (q42 == 0) then
   some [110,117,108,108]
  else
   bif (q42 == 1) then
    (z16 N (q31,x_D,()) 1).bind fun r2 =>
    bif qt8 sign r2 then
    some (sign ++ r2)
    else none
   else
    bif (q42 == 2) then
     (z16 N (q31,x_D,()) 5).bind fun r3 =>
     l2 sign r3 q42 v_N v_S q31 x_D (r3.length:Int)
    else
     bif (q42 == 4) then
      bif (v_N == 1) then
       some [116,114,117,101]
      else
       some [102,97,108,115,101]
     else
      bif (q42 == 5) then
       bif qt8 ([35]:List UInt8) v_S then
       some (([35]:List UInt8) ++ v_S)
       else none
      else
       l3 q42 v_N v_S q31 x_D ([34],0)
def zz8 (N:Nat)(q42 v_N:Int)(v_S:List UInt8)(q31:Bool)(x_D:List Int)(e:List UInt8):Option (List UInt8):=ym8 N q42 v_N v_S q31 x_D (fun sign r3 q42 v_N v_S q31 x_D e=>q86 (xg9 N sign r3 q42 v_N v_S q31 x_D) N e) (fun q42 v_N v_S q31 x_D e=>q86 (y69 N q42 v_N v_S q31 x_D) N e) e
theorem kw4 (N:Nat)(q42 v_N:Int)(v_S:List UInt8)(q31:Bool)(x_D:List Int)(e:List UInt8):jmp N (xa1 N ) ((xj0 q42 v_N v_S q31 x_D) e) ((xh0 q42 v_N v_S q31 x_D) e)=at1 N (zz8 N q42 v_N v_S q31 x_D e):=qn4 (by
 have h:(xa1 N ) ((xj0 q42 v_N v_S q31 x_D) e) ((xh0 q42 v_N v_S q31 x_D) e)=ym8 N q42 v_N v_S q31 x_D (fun sign r3 q42 v_N v_S q31 x_D e=>q57 (u29 N ) N (x71 sign r3 q42 v_N v_S q31 x_D e) (xf8 sign r3 q42 v_N v_S q31 x_D e)) (fun q42 v_N v_S q31 x_D e=>q57 (xh4 N ) N (wf4 q42 v_N v_S q31 x_D e) (wg0 q42 v_N v_S q31 x_D e)) e:=by kernel_rfl
 rw [h]
 simp only [zz8,kr6,kt5] <;> rfl) N
def vh5 (N:Nat)(v:q00)(l1:Int→Int→(List UInt8)→Bool→(List Int)→(List UInt8)→Option (List UInt8)):Option (List UInt8) :=
 (xk8 N v).bind fun r =>
 bif (!r) then
  some []
 else
  (qy4 N v.2.1).bind fun r1 =>
  bif r1.1 then
   l1 v.1 v.2.1 v.2.2.1 r1.1 r1.2.1 [45]
  else
   l1 v.1 v.2.1 v.2.2.1 r1.1 r1.2.1 []
def xd4 (N:Nat)(v:q00):Option (List UInt8):=vh5 N v (fun q42 v_N v_S q31 x_D e=>at1 N (zz8 N q42 v_N v_S q31 x_D e))
noncomputable def uz9 (N:Nat)(v:q00):Option (RT [.str]):=q22 DR Tryz.prog N (v64 N) qn2 Tryz.f148 (q10 Tryz.f148) (RT [.str]) (qd2 [q05] (v,())) [] (q40 [.str])
theorem k49 (N:Nat)(v:q00):uz9 N v=xd4 N v:=by
 have h:uz9 N v=vh5 N v (fun q42 v_N v_S q31 x_D e=>jmp N (xa1 N ) (xj0 q42 v_N v_S q31 x_D e) (xh0 q42 v_N v_S q31 x_D e)):=by kernel_rfl
 rw [h]
 simp only [xd4,kw4] <;> rfl
def uw0 (m:q00→Option (List UInt8)):Ent:=q35 [q05] [.str] fun (x:Els [q05])=>m x.1
def v58 (N:Nat):Ent:=uw0 (xd4 N)
theorem ug2 (N:Nat):q16 Tryz.prog 148 (v58 N):=q15 (kt1 N) Tryz.func148 rfl (by kernel_rfl) fun (x:Els [q05])=>k49 N x.1
def vf3 :LH:=⟨[(0,.str),(3,.str),(4,.int .i64)],[],[]⟩
def y61 :FH:=⟨[vf3],[],[],[],false,[],[]⟩
noncomputable def x78 (N:Nat):q48:=tab []
theorem k75 (N:Nat):q13 Tryz.prog (x78 N):=q27 _
noncomputable def v75 :Sc:=wl6 Tryz.prog y61
noncomputable def vj1 (N:Nat):Cfg:=⟨N,x78 N,0⟩
noncomputable def ur7 (N:Nat):Exit→List TV→List TOb→Option (List UInt8):=fin Tryz.prog 0 Tryz.f203.results.toList (q40 [.str])
def yn7 (s:List UInt8)(e:List UInt8×Int):List TV:=match e with
 | (out,i)=>frm 26 [(0,.str s),(3,.str out),(4,.int .i64 i)]
def yl2 (s:List UInt8)(e:List UInt8×Int):List TOb:=match e with
 | (out,i)=>[]
noncomputable def vh1 (N:Nat):(List TV→List TOb→Option (List UInt8))→List TV→List TOb→Option (List UInt8):=w54 DR v75 (vj1 N) (ql6 (qc4 (q08 (q87 (q08 (q08 (q10 Tryz.f203))))))) vf3 (y61.loops.drop 1) (qk0 0 (qc3 DR v75 (vj1 N) (q08 (q08 (q08 (q10 Tryz.f203)))) (y61.loops.drop 1) (ur7 N)))
def yn8 (N:Nat)(s:List UInt8)(K0:(List UInt8×Int)→Option (List UInt8))(e:List UInt8×Int):Option (List UInt8) :=
 match e with
 | (out,i) =>
  bif q26 (i + 1) then
  bif decide ((i + 1) < (s.length:Int)) then
   bif inR i s.length then
   bif ((q37 s i) == 92) then
    bif q26 (i + 1) then
    bif q26 ((i + 1) + 1) then
    bif inB (i + 1) ((i + 1) + 1) s.length then
    bif qt8 out ((s.take ((i + 1) + 1).toNat).drop (i + 1).toNat) then
    bif q26 ((i + 1) + 1) then
    K0 ((out ++ ((s.take ((i + 1) + 1).toNat).drop (i + 1).toNat)),(i + 1) + 1)
    else none
    else none
    else none
    else none
    else none
   else
    bif q26 (i + 1) then
    bif inB i (i + 1) s.length then
    bif qt8 out ((s.take (i + 1).toNat).drop i.toNat) then
    bif q26 (i + 1) then
    K0 ((out ++ ((s.take (i + 1).toNat).drop i.toNat)),i + 1)
    else none
    else none
    else none
    else none
   else none
  else
   some out
  else none
theorem k65 (N:Nat)(s:List UInt8)(n_:Nat)(e:List UInt8×Int):q57 (vh1 N ) n_ ((yn7 s) e) ((yl2 s) e)=q86 (yn8 N s ) n_ e :=
 q39 (yn7 s) (yl2 s) (by intro K e; obtain ⟨out,i⟩:=e; kernel_rfl) n_ e
def xg0 (N:Nat)(s:List UInt8)(l1:(List UInt8)→(List UInt8×Int)→Option (List UInt8)):Option (List UInt8) :=
 l1 s ([],1)
def y75 (N:Nat)(s:List UInt8):Option (List UInt8):=xg0 N s (fun s e=>q86 (yn8 N s) N e)
noncomputable def vy4 (N:Nat)(s:List UInt8):Option (RT [.str]):=q22 DR Tryz.prog N (x78 N) y61 Tryz.f203 (q10 Tryz.f203) (RT [.str]) (qd2 [.str] (s,())) [] (q40 [.str])
theorem ux5 (N:Nat)(s:List UInt8):vy4 N s=y75 N s:=by
 have h:vy4 N s=xg0 N s (fun s e=>q57 (vh1 N ) N (yn7 s e) (yl2 s e)):=by kernel_rfl
 rw [h]
 simp only [y75,k65] <;> rfl
def u56 (m:(List UInt8)→Option (List UInt8)):Ent:=q35 [.str] [.str] fun (x:Els [.str])=>m x.1
def xs1 (N:Nat):Ent:=u56 (y75 N)
theorem vp0 (N:Nat):q16 Tryz.prog 203 (xs1 N):=q15 (k75 N) Tryz.func203 rfl (by kernel_rfl) fun (x:Els [.str])=>ux5 N x.1
def v16 :LH:=⟨[(1,.asis),(6,.int .i64),(7,.int .i64)],[],[.cells [.bool,.lst (.int .i64)],.cells [.bool,.lst (.int .i64)],.cells [.bool,.lst (.int .i64)]]⟩
def y77 :FH:=⟨[v16],[],[],[],false,[],[]⟩
noncomputable def xb3 (N:Nat):q48:=tab [(209,j17 N),(249,xa2 N)]
theorem k64 (N:Nat):q13 Tryz.prog (xb3 N):=q06 (zn9 N) <| q06 (xk9 N) <| q27 _
noncomputable def vd8 :Sc:=wl6 Tryz.prog y77
noncomputable def vf5 (N:Nat):Cfg:=⟨N,xb3 N,0⟩
noncomputable def uk9 (N:Nat):Exit→List TV→List TOb→Option (Int×Int×Unit):=fin Tryz.prog 0 Tryz.f204.results.toList (q40 [(.int .i64),(.int .i64)])
def yj8 (q31:Bool)(x_D:List Int)(zr5:Bool)(ki1:List Int)(qi2:Bool)(y83:List Int)(e:Int×Int):List TV:=match e with
 | (n,i)=>frm 47 [(1,.ref 0 0),(6,.int .i64 n),(7,.int .i64 i)]
def ym4 (q31:Bool)(x_D:List Int)(zr5:Bool)(ki1:List Int)(qi2:Bool)(y83:List Int)(e:Int×Int):List TOb:=match e with
 | (n,i)=>[.cells [.bool q31,.tl (.int .i64) x_D .unk] 265 true,.cells [.bool zr5,.tl (.int .i64) ki1 .unk] 265 true,.cells [.bool qi2,.tl (.int .i64) y83 .unk] 265 true]
noncomputable def vj4 (N:Nat):(List TV→List TOb→Option (Int×Int×Unit))→List TV→List TOb→Option (Int×Int×Unit):=w54 DR vd8 (vf5 N) (ql6 (qc4 (q08 (q87 (q08 (q08 (q08 (q08 (q10 Tryz.f204))))))))) v16 (y77.loops.drop 1) (qk0 0 (qc3 DR vd8 (vf5 N) (q08 (q08 (q08 (q08 (q08 (q10 Tryz.f204)))))) (y77.loops.drop 1) (uk9 N)))
def yq8 (N:Nat)(q31:Bool)(x_D:List Int)(zr5:Bool)(ki1:List Int)(qi2:Bool)(y83:List Int)(K0:(Int×Int)→Option (Int×Int×Unit))(e:Int×Int):Option (Int×Int×Unit) :=
 match e with
 | (n,i) =>
  bif decide (i ≥ 0) then
   bif q31 then
    bif q26 (n * 10000) then
    bif inR i x_D.length then
    bif q26 ((n * 10000) - (q24 x_D i 0)) then
    bif q26 (i - 1) then
    K0 ((n * 10000) - (q24 x_D i 0),i - 1)
    else none
    else none
    else none
    else none
   else
    bif q26 (n * 10000) then
    bif inR i x_D.length then
    bif q26 ((n * 10000) + (q24 x_D i 0)) then
    bif q26 (i - 1) then
    K0 ((n * 10000) + (q24 x_D i 0),i - 1)
    else none
    else none
    else none
    else none
  else
   some (n,0,())
theorem k72 (N:Nat)(q31:Bool)(x_D:List Int)(zr5:Bool)(ki1:List Int)(qi2:Bool)(y83:List Int)(n_:Nat)(e:Int×Int):q57 (vj4 N ) n_ ((yj8 q31 x_D zr5 ki1 qi2 y83) e) ((ym4 q31 x_D zr5 ki1 qi2 y83) e)=q86 (yq8 N q31 x_D zr5 ki1 qi2 y83 ) n_ e :=
 q39 (yj8 q31 x_D zr5 ki1 qi2 y83) (ym4 q31 x_D zr5 ki1 qi2 y83) (by intro K e; obtain ⟨n,i⟩:=e; kernel_rfl) n_ e
def xd6 (N:Nat)(x:qa0)(l1:Bool→(List Int)→Bool→(List Int)→Bool→(List Int)→(Int×Int)→Option (Int×Int×Unit)):Option (Int×Int×Unit) :=
 (qy4 N (-9223372036854775808)).bind fun r =>
 (qy4 N 9223372036854775807).bind fun r1 =>
 (vl6 N x r).bind fun r2 =>
 bif decide (r2 < 0) then
  some (0,9,())
 else
  (vl6 N x r1).bind fun r3 =>
  bif decide (r3 > 0) then
   some (0,9,())
  else
   bif q26 ((x.2.1.length:Int) - 1) then
   l1 x.1 x.2.1 r.1 r.2.1 r1.1 r1.2.1 (0,(x.2.1.length:Int) - 1)
   else none
def y64 (N:Nat)(x:qa0):Option (Int×Int×Unit):=xd6 N x (fun q31 x_D zr5 ki1 qi2 y83 e=>q86 (yq8 N q31 x_D zr5 ki1 qi2 y83) N e)
noncomputable def u09 (N:Nat)(x:qa0):Option (RT [(.int .i64),(.int .i64)]):=q22 DR Tryz.prog N (xb3 N) y77 Tryz.f204 (q10 Tryz.f204) (RT [(.int .i64),(.int .i64)]) (qd2 [ql5] (x,())) [] (q40 [(.int .i64),(.int .i64)])
theorem k12 (N:Nat)(x:qa0):u09 N x=y64 N x:=by
 have h:u09 N x=xd6 N x (fun q31 x_D zr5 ki1 qi2 y83 e=>q57 (vj4 N ) N (yj8 q31 x_D zr5 ki1 qi2 y83 e) (ym4 q31 x_D zr5 ki1 qi2 y83 e)):=by kernel_rfl
 rw [h]
 simp only [y64,k72] <;> rfl
def ub3 (m:qa0→Option (Int×Int×Unit)):Ent:=q35 [ql5] [(.int .i64),(.int .i64)] fun (x:Els [ql5])=>m x.1
def xk2 (N:Nat):Ent:=ub3 (y64 N)
theorem vt9 (N:Nat):q16 Tryz.prog 204 (xk2 N):=q15 (k64 N) Tryz.func204 rfl (by kernel_rfl) fun (x:Els [ql5])=>k12 N x.1
def w27 :FH:=⟨[],[],[],[],false,[],[(7,⟨[(0,.str),(2,.asis),(4,.asis)],[],[.cells [.int .u8,.int .i64,.str],.cells [.int .u8,.int .i64,.str],.cells [.bool,.lst (.int .i64)]]⟩),(11,⟨[(0,.str),(2,.asis),(4,.asis),(5,.asis),(6,.bool),(7,.bool)],[],[.cells [.int .u8,.int .i64,.str],.cells [.int .u8,.int .i64,.str],.cells [.bool,.lst (.int .i64)]]⟩),(13,⟨[(0,.str),(2,.asis),(4,.asis),(5,.asis),(6,.bool),(7,.bool)],[],[.cells [.int .u8,.int .i64,.str],.cells [.int .u8,.int .i64,.str],.cells [.bool,.lst (.int .i64)]]⟩),(20,⟨[(0,.str),(2,.asis),(4,.asis)],[],[.cells [.int .u8,.int .i64,.str],.cells [.int .u8,.int .i64,.str],.cells [.bool,.lst (.int .i64)]]⟩)]⟩
noncomputable def xi4 (N:Nat):q48:=tab [(201,yu0 N),(202,xn4 N),(203,xs1 N),(204,xk2 N),(14,xc2 N),(148,v58 N)]
theorem ka9 (N:Nat):q13 Tryz.prog (xi4 N):=q06 (v47 N) <| q06 (vs4 N) <| q06 (vp0 N) <| q06 (vt9 N) <| q06 (xo9 N) <| q06 (ug2 N) <| q27 _
noncomputable def qk4 :Sc:=wl6 Tryz.prog w27
noncomputable def qk6 (N:Nat):Cfg:=⟨N,xi4 N,0⟩
noncomputable def zr2 (N:Nat):Exit→List TV→List TOb→Option OX3:=fin Tryz.prog 0 Tryz.f138.results.toList (q40 [q05,(.int .i64)])
def yl3 (s:List UInt8)(point ok q31:Bool)(x_D:List Int)(e:Unit):List TV:=frm 85 [(0,.str s),(2,.ref 0 0),(4,.ref 1 0),(5,.ref 2 0),(6,.bool point),(7,.bool ok)]
def yr0 (s:List UInt8)(point ok q31:Bool)(x_D:List Int)(e:Unit):List TOb:=[.cells [.int .u8 0,.int .i64 0,.str []] 26 true,.cells [.int .u8 0,.int .i64 0,.str []] 26 true,.cells [.bool q31,.tl (.int .i64) x_D .unk] 265 true]
def ym1 (s:List UInt8)(point ok q31:Bool)(x_D:List Int)(e:Unit):List TV:=frm 85 [(0,.str s),(2,.ref 0 0),(4,.ref 1 0),(5,.ref 2 0),(6,.bool point),(7,.bool ok)]
def ys0 (s:List UInt8)(point ok q31:Bool)(x_D:List Int)(e:Unit):List TOb:=[.cells [.int .u8 0,.int .i64 0,.str []] 26 true,.cells [.int .u8 0,.int .i64 0,.str []] 26 true,.cells [.bool q31,.tl (.int .i64) x_D .unk] 265 true]
def ym0 (s:List UInt8)(qi2:Bool)(y83:List Int)(e:Unit):List TV:=frm 85 [(0,.str s),(2,.ref 0 0),(4,.ref 1 0)]
def yq9 (s:List UInt8)(qi2:Bool)(y83:List Int)(e:Unit):List TOb:=[.cells [.int .u8 0,.int .i64 0,.str []] 26 true,.cells [.int .u8 0,.int .i64 0,.str []] 26 true,.cells [.bool qi2,.tl (.int .i64) y83 .unk] 265 true]
def zn7 (s:List UInt8)(e:Int×Int×List UInt8×Bool×List Int):List TV:=match e with
 | (q42,v_N,v_S,o2_Neg1,o2_D1)=>frm 85 [(0,.str s),(2,.ref 0 0),(4,.ref 1 0)]
def zh6 (s:List UInt8)(e:Int×Int×List UInt8×Bool×List Int):List TOb:=match e with
 | (q42,v_N,v_S,o2_Neg1,o2_D1)=>[.cells [.int .u8 0,.int .i64 0,.str []] 26 true,.cells [.int .u8 q42,.int .i64 v_N,.str v_S] 26 true,.cells [.bool o2_Neg1,.tl (.int .i64) o2_D1 .unk] 265 true]
noncomputable def zk0 (N:Nat):List TV→List TOb→Option OX3:=ys5 DR qk4 (qk6 N) (q87 (q87 (q08 (q08 (q08 (q08 (q08 (q10 Tryz.f138)))))))) (qc3 DR qk4 (qk6 N) (q08 (q87 (q08 (q08 (q08 (q08 (q08 (q10 Tryz.f138)))))))) (w27.loops.drop 0) (qc3 DR qk4 (qk6 N) (q08 (q08 (q08 (q08 (q08 (q08 (q10 Tryz.f138))))))) (w27.loops.drop 0) (zr2 N)))
def wc7 (N:Nat)(s:List UInt8)(e:Int×Int×List UInt8×Bool×List Int):Option OX3 :=
 match e with
 | (q42,v_N,v_S,o2_Neg1,o2_D1) =>
  (xk8 N (q42,v_N,v_S,())).bind fun r4 =>
  bif (!r4) then
   some ((0,0,[],()),4,())
  else
   (xd4 N (q42,v_N,v_S,())).bind fun r5 =>
   bif (!(r5 == s)) then
    some ((0,0,[],()),4,())
   else
    some ((q42,v_N,v_S,()),0,())
theorem je1 (N:Nat)(s:List UInt8)(e:Int×Int×List UInt8×Bool×List Int):jmp N (zk0 N ) ((zn7 s) e) ((zh6 s) e)=at1 N (wc7 N s e):=qn4 (by obtain ⟨q42,v_N,v_S,o2_Neg1,o2_D1⟩:=e; kernel_rfl) N
noncomputable def yl7 (N:Nat):List TV→List TOb→Option OX3:=ys5 DR qk4 (qk6 N) (ys1 (q08 (qc4 (q87 (q08 (q08 (q08 (q08 (q10 Tryz.f138))))))))) (qk0 0 (qc3 DR qk4 (qk6 N) (q08 (q08 (q08 (q08 (q08 (q10 Tryz.f138)))))) (w27.loops.drop 0) (zr2 N)))
def y33 (N:Nat)(s:List UInt8)(qi2:Bool)(y83:List Int)(l2:(List UInt8)→(Int×Int×List UInt8×Bool×List Int)→Option OX3)(e:Unit):Option OX3 :=
 (v02 N (s == ([116,114,117,101]:List UInt8))).bind fun r1 =>
 l2 s (r1.1,r1.2.1,r1.2.2.1,qi2,y83)
def zh7 (N:Nat)(s:List UInt8)(qi2:Bool)(y83:List Int)(e:Unit):Option OX3:=y33 N s qi2 y83 (fun s e=>at1 N (wc7 N s e)) e
theorem k53 (N:Nat)(s:List UInt8)(qi2:Bool)(y83:List Int)(e:Unit):jmp N (yl7 N ) ((ym0 s qi2 y83) e) ((yq9 s qi2 y83) e)=at1 N (zh7 N s qi2 y83 e):=qn4 (by
 have h:(yl7 N ) ((ym0 s qi2 y83) e) ((yq9 s qi2 y83) e)=y33 N s qi2 y83 (fun s e=>jmp N (zk0 N ) (zn7 s e) (zh6 s e)) e:=by kernel_rfl
 rw [h]
 simp only [zh7,je1] <;> rfl) N
noncomputable def yi6 (N:Nat):List TV→List TOb→Option OX3:=ys5 DR qk4 (qk6 N) (q87 (zf9 (q08 (zf9 (q08 (zf9 (q08 (zf9 (q08 (qc4 (q87 (q08 (q08 (q08 (q08 (q10 Tryz.f138)))))))))))))))) (qc3 DR qk4 (qk6 N) (q08 (zf9 (q08 (zf9 (q08 (zf9 (q08 (zf9 (q08 (qc4 (q87 (q08 (q08 (q08 (q08 (q10 Tryz.f138)))))))))))))))) (w27.loops.drop 0) (qk0 0 (qc3 DR qk4 (qk6 N) (q08 (q08 (q08 (q08 (q08 (q10 Tryz.f138)))))) (w27.loops.drop 0) (zr2 N))))
def ju7 (N:Nat)(s:List UInt8)(point ok q31:Bool)(x_D:List Int)(l2:(List UInt8)→(Int×Int×List UInt8×Bool×List Int)→Option OX3)(e:Unit):Option OX3 :=
 bif ok then
  (y64 N (q31,x_D,())).bind fun r3 =>
  bif (r3.2.1 != 0) then
   some ((0,0,[],()),r3.2.1,())
  else
   bif point then
    l2 s (2,r3.1,[],q31,x_D)
   else
    l2 s (1,r3.1,[],q31,x_D)
 else
  some ((0,0,[],()),4,())
def zm9 (N:Nat)(s:List UInt8)(point ok q31:Bool)(x_D:List Int)(e:Unit):Option OX3:=ju7 N s point ok q31 x_D (fun s e=>at1 N (wc7 N s e)) e
theorem k96 (N:Nat)(s:List UInt8)(point ok q31:Bool)(x_D:List Int)(e:Unit):jmp N (yi6 N ) ((ym1 s point ok q31 x_D) e) ((ys0 s point ok q31 x_D) e)=at1 N (zm9 N s point ok q31 x_D e):=qn4 (by
 have h:(yi6 N ) ((ym1 s point ok q31 x_D) e) ((ys0 s point ok q31 x_D) e)=ju7 N s point ok q31 x_D (fun s e=>jmp N (zk0 N ) (zn7 s e) (zh6 s e)) e:=by kernel_rfl
 rw [h]
 simp only [zm9,je1] <;> rfl) N
noncomputable def ym2 (N:Nat):List TV→List TOb→Option OX3:=ys5 DR qk4 (qk6 N) (q87 (zf9 (q08 (zf9 (q08 (zf9 (q08 (qc4 (q87 (q08 (q08 (q08 (q08 (q10 Tryz.f138)))))))))))))) (qc3 DR qk4 (qk6 N) (q08 (zf9 (q08 (zf9 (q08 (zf9 (q08 (qc4 (q87 (q08 (q08 (q08 (q08 (q10 Tryz.f138)))))))))))))) (w27.loops.drop 0) (qk0 0 (qc3 DR qk4 (qk6 N) (q08 (q08 (q08 (q08 (q08 (q10 Tryz.f138)))))) (w27.loops.drop 0) (zr2 N))))
def jy2 (N:Nat)(s:List UInt8)(point ok q31:Bool)(x_D:List Int)(l2:(List UInt8)→(Int×Int×List UInt8×Bool×List Int)→Option OX3)(l4:(List UInt8)→Bool→Bool→Bool→(List Int)→Unit→Option OX3)(e:Unit):Option OX3 :=
 bif decide ((s.length:Int) > 0) then
  bif inR 0 s.length then
  bif ((q37 s 0) == 34) then
   (y75 N s).bind fun r2 =>
   l2 s (3,0,r2,q31,x_D)
  else
   l4 s point ok q31 x_D ()
  else none
 else
  l4 s point ok q31 x_D ()
def zk6 (N:Nat)(s:List UInt8)(point ok q31:Bool)(x_D:List Int)(e:Unit):Option OX3:=jy2 N s point ok q31 x_D (fun s e=>at1 N (wc7 N s e)) (fun s point ok q31 x_D e=>at1 N (zm9 N s point ok q31 x_D e)) e
theorem k79 (N:Nat)(s:List UInt8)(point ok q31:Bool)(x_D:List Int)(e:Unit):jmp N (ym2 N ) ((yl3 s point ok q31 x_D) e) ((yr0 s point ok q31 x_D) e)=at1 N (zk6 N s point ok q31 x_D e):=qn4 (by
 have h:(ym2 N ) ((yl3 s point ok q31 x_D) e) ((yr0 s point ok q31 x_D) e)=jy2 N s point ok q31 x_D (fun s e=>jmp N (zk0 N ) (zn7 s e) (zh6 s e)) (fun s point ok q31 x_D e=>jmp N (yi6 N ) (ym1 s point ok q31 x_D e) (ys0 s point ok q31 x_D e)) e:=by kernel_rfl
 rw [h]
 simp only [zk6,je1,k96] <;> rfl) N
def xa3 (N:Nat)(s:List UInt8)(l1:(List UInt8)→Bool→(List Int)→Unit→Option OX3)(l2:(List UInt8)→(Int×Int×List UInt8×Bool×List Int)→Option OX3)(l3:(List UInt8)→Bool→Bool→Bool→(List Int)→Unit→Option OX3):Option OX3 :=
 bif decide ((s.length:Int) > 402) then
  some ((0,0,[],()),3,())
 else
  (zw9 N s).bind fun r =>
  bif (s == ([116,114,117,101]:List UInt8)) then
   l1 s r.1.1 r.1.2.1 ()
  else
   bif (s == ([102,97,108,115,101]:List UInt8)) then
    l1 s r.1.1 r.1.2.1 ()
   else
    bif (s == ([110,117,108,108]:List UInt8)) then
     l2 s (0,0,[],r.1.1,r.1.2.1)
    else
     bif decide ((s.length:Int) > 0) then
      bif inR 0 s.length then
      bif ((q37 s 0) == 35) then
       bif upTo 1 s.length then
       l2 s (5,0,(s.drop (1:Int).toNat),r.1.1,r.1.2.1)
       else none
      else
       l3 s r.2.1 r.2.2.1 r.1.1 r.1.2.1 ()
      else none
     else
      l3 s r.2.1 r.2.2.1 r.1.1 r.1.2.1 ()
def wk0 (N:Nat)(s:List UInt8):Option OX3:=xa3 N s (fun s qi2 y83 e=>at1 N (zh7 N s qi2 y83 e)) (fun s e=>at1 N (wc7 N s e)) (fun s point ok q31 x_D e=>at1 N (zk6 N s point ok q31 x_D e))
noncomputable def vz3 (N:Nat)(s:List UInt8):Option (RT [q05,(.int .i64)]):=q22 DR Tryz.prog N (xi4 N) w27 Tryz.f138 (q10 Tryz.f138) (RT [q05,(.int .i64)]) (qd2 [.str] (s,())) [] (q40 [q05,(.int .i64)])
theorem uj3 (N:Nat)(s:List UInt8):vz3 N s=wk0 N s:=by
 have h:vz3 N s=xa3 N s (fun s qi2 y83 e=>jmp N (yl7 N ) (ym0 s qi2 y83 e) (yq9 s qi2 y83 e)) (fun s e=>jmp N (zk0 N ) (zn7 s e) (zh6 s e)) (fun s point ok q31 x_D e=>jmp N (ym2 N ) (yl3 s point ok q31 x_D e) (yr0 s point ok q31 x_D e)):=by kernel_rfl
 rw [h]
 simp only [wk0,k53,je1,k79] <;> rfl
def u37 (m:(List UInt8)→Option OX3):Ent:=q35 [.str] [q05,(.int .i64)] fun (x:Els [.str])=>m x.1
def xo4 (N:Nat):Ent:=u37 (wk0 N)
theorem vu6 (N:Nat):q16 Tryz.prog 138 (xo4 N):=q15 (ka9 N) Tryz.func138 rfl (by kernel_rfl) fun (x:Els [.str])=>uj3 N x.1
def xr9 :LH:=⟨[(0,.str),(5,.int .i64)],[],[]⟩
def jg0 :FH:=⟨[xr9],[],[],[],false,[],[]⟩
noncomputable def yk2 (N:Nat):q48:=tab []
theorem us3 (N:Nat):q13 Tryz.prog (yk2 N):=q27 _
noncomputable def xq7 :Sc:=wl6 Tryz.prog jg0
noncomputable def xl6 (N:Nat):Cfg:=⟨N,yk2 N,0⟩
noncomputable def ue9 (N:Nat):Exit→List TV→List TOb→Option Int:=fin Tryz.prog 0 Tryz.f139.results.toList (q40 [(.int .i64)])
def y51 (s:List UInt8)(e:Int):List TV:=match e with
 | i=>frm 52 [(0,.str s),(5,.int .i64 i)]
def jp8 (s:List UInt8)(e:Int):List TOb:=match e with
 | i=>[]
noncomputable def xj8 (N:Nat):(List TV→List TOb→Option Int)→List TV→List TOb→Option Int:=w54 DR xq7 (xl6 N) (ql6 (qc4 (q08 (q87 (q08 (q10 Tryz.f139)))))) xr9 (jg0.loops.drop 1) (qk0 0 (qc3 DR xq7 (xl6 N) (q08 (q08 (q10 Tryz.f139))) (jg0.loops.drop 1) (ue9 N)))
def zp5 (N:Nat)(s:List UInt8)(K0:Int→Option Int)(e:Int):Option Int :=
 match e with
 | i =>
  bif decide (i < (s.length:Int)) then
   bif inR i s.length then
   bif decide ((q37 s i) < 32) then
    some (-1)
   else
    bif inR i s.length then
    bif decide ((q37 s i) > 126) then
     some (-1)
    else
     bif inR i s.length then
     bif ((q37 s i) == 34) then
      bif q26 (i + 1) then
      some (i + 1)
      else none
     else
      bif inR i s.length then
      bif ((q37 s i) == 92) then
       bif q26 (i + 1) then
       bif decide ((i + 1) < (s.length:Int)) then
        bif inR (i + 1) s.length then
        bif decide ((q37 s (i + 1)) < 32) then
         some (-1)
        else
         bif inR (i + 1) s.length then
         bif decide ((q37 s (i + 1)) > 126) then
          some (-1)
         else
          bif q26 ((i + 1) + 1) then
          K0 ((i + 1) + 1)
          else none
         else none
        else none
       else
        bif q26 ((i + 1) + 1) then
        K0 ((i + 1) + 1)
        else none
       else none
      else
       bif q26 (i + 1) then
       K0 (i + 1)
       else none
      else none
     else none
    else none
   else none
  else
   some (-1)
theorem uv6 (N:Nat)(s:List UInt8)(n_:Nat)(e:Int):q57 (xj8 N ) n_ ((y51 s) e) ((jp8 s) e)=q86 (zp5 N s ) n_ e :=
 q39 (y51 s) (jp8 s) (by intro K e; kernel_rfl) n_ e
def jc8 (N:Nat)(s:List UInt8)(at_:Int)(l1:(List UInt8)→Int→Option Int):Option Int :=
 bif q26 (at_ + 1) then
 l1 s (at_ + 1)
 else none
def wa9 (N:Nat)(s:List UInt8)(at_:Int):Option Int:=jc8 N s at_ (fun s e=>q86 (zp5 N s) N e)
noncomputable def vc4 (N:Nat)(s:List UInt8)(at_:Int):Option (RT [(.int .i64)]):=q22 DR Tryz.prog N (yk2 N) jg0 Tryz.f139 (q10 Tryz.f139) (RT [(.int .i64)]) (qd2 [.str,(.int .i64)] (s,at_,())) [] (q40 [(.int .i64)])
theorem u38 (N:Nat)(s:List UInt8)(at_:Int):vc4 N s at_=wa9 N s at_:=by
 have h:vc4 N s at_=jc8 N s at_ (fun s e=>q57 (xj8 N ) N (y51 s e) (jp8 s e)):=by kernel_rfl
 rw [h]
 simp only [wa9,uv6] <;> rfl
def vu5 (m:(List UInt8)→Int→Option Int):Ent:=q35 [.str,(.int .i64)] [(.int .i64)] fun (x:Els [.str,(.int .i64)])=>m x.1 x.2.1
def x06 (N:Nat):Ent:=vu5 (wa9 N)
theorem v23 (N:Nat):q16 Tryz.prog 139 (x06 N):=q15 (us3 N) Tryz.func139 rfl (by kernel_rfl) fun (x:Els [.str,(.int .i64)])=>u38 N x.1 x.2.1
def jb1 :FH:=⟨[],[],[],[],false,[],[(8,⟨[(0,.str),(1,.int .i64)],[],[]⟩)]⟩
noncomputable def yn3 (N:Nat):q48:=tab []
theorem ut5 (N:Nat):q13 Tryz.prog (yn3 N):=q27 _
noncomputable def y11 :Sc:=wl6 Tryz.prog jb1
noncomputable def js9 (N:Nat):Cfg:=⟨N,yn3 N,0⟩
noncomputable def u87 (N:Nat):Exit→List TV→List TOb→Option Int:=fin Tryz.prog 0 Tryz.f140.results.toList (q40 [(.int .i64)])
def xm5 (s:List UInt8)(at_:Int)(e:Unit):List TV:=frm 41 [(0,.str s),(1,.int .i64 at_)]
def xp3 (s:List UInt8)(at_:Int)(e:Unit):List TOb:=[]
noncomputable def xl4 (N:Nat):List TV→List TOb→Option Int:=ys5 DR y11 (js9 N) (q87 (q87 (q08 (q08 (q10 Tryz.f140))))) (qc3 DR y11 (js9 N) (q08 (q87 (q08 (q08 (q10 Tryz.f140))))) (jb1.loops.drop 0) (qc3 DR y11 (js9 N) (q08 (q08 (q08 (q10 Tryz.f140)))) (jb1.loops.drop 0) (u87 N)))
def wf1 (N:Nat)(s:List UInt8)(at_:Int)(e:Unit):Option Int :=
 bif inR at_ s.length then
 bif ((q37 s at_) == 40) then
  bif q26 (at_ + 1) then
  some (at_ + 1)
  else none
 else
  bif ((q37 s at_) == 41) then
   bif q26 (at_ + 1) then
   some (at_ + 1)
   else none
  else
   bif ((q37 s at_) == 91) then
    bif q26 (at_ + 1) then
    some (at_ + 1)
    else none
   else
    bif ((q37 s at_) == 93) then
     bif q26 (at_ + 1) then
     some (at_ + 1)
     else none
    else
     bif ((q37 s at_) == 44) then
      bif q26 (at_ + 1) then
      some (at_ + 1)
      else none
     else
      bif ((q37 s at_) == 58) then
       bif q26 (at_ + 1) then
       some (at_ + 1)
       else none
      else
       bif ((q37 s at_) == 61) then
        bif q26 (at_ + 1) then
        some (at_ + 1)
        else none
       else
        bif ((q37 s at_) == 60) then
         bif q26 (at_ + 1) then
         some (at_ + 1)
         else none
        else
         bif ((q37 s at_) == 62) then
          bif q26 (at_ + 1) then
          some (at_ + 1)
          else none
         else
          bif ((q37 s at_) == 43) then
           bif q26 (at_ + 1) then
           some (at_ + 1)
           else none
          else
           bif ((q37 s at_) == 45) then
            bif q26 (at_ + 1) then
            some (at_ + 1)
            else none
           else
            bif ((q37 s at_) == 42) then
             bif q26 (at_ + 1) then
             some (at_ + 1)
             else none
            else
             bif ((q37 s at_) == 47) then
              bif q26 (at_ + 1) then
              some (at_ + 1)
              else none
             else
              some (-1)
 else none
theorem un4 (N:Nat)(s:List UInt8)(at_:Int)(e:Unit):jmp N (xl4 N ) ((xm5 s at_) e) ((xp3 s at_) e)=at1 N (wf1 N s at_ e):=qn4 (by kernel_rfl) N
def jd9 (N:Nat)(s:List UInt8)(at_:Int)(l1:(List UInt8)→Int→Unit→Option Int):Option Int :=
 bif q26 (at_ + 1) then
 bif decide ((at_ + 1) < (s.length:Int)) then
  bif q26 (at_ + 2) then
  bif inB at_ (at_ + 2) s.length then
  bif (((s.take (at_ + 2).toNat).drop at_.toNat) == ([60,61]:List UInt8)) then
   bif q26 (at_ + 2) then
   some (at_ + 2)
   else none
  else
   bif (((s.take (at_ + 2).toNat).drop at_.toNat) == ([62,61]:List UInt8)) then
    bif q26 (at_ + 2) then
    some (at_ + 2)
    else none
   else
    bif (((s.take (at_ + 2).toNat).drop at_.toNat) == ([60,62]:List UInt8)) then
     bif q26 (at_ + 2) then
     some (at_ + 2)
     else none
    else
     bif (((s.take (at_ + 2).toNat).drop at_.toNat) == ([46,46]:List UInt8)) then
      bif q26 (at_ + 2) then
      some (at_ + 2)
      else none
     else
      l1 s at_ ()
  else none
  else none
 else
  l1 s at_ ()
 else none
def wu9 (N:Nat)(s:List UInt8)(at_:Int):Option Int:=jd9 N s at_ (fun s at_ e=>at1 N (wf1 N s at_ e))
noncomputable def vl1 (N:Nat)(s:List UInt8)(at_:Int):Option (RT [(.int .i64)]):=q22 DR Tryz.prog N (yn3 N) jb1 Tryz.f140 (q10 Tryz.f140) (RT [(.int .i64)]) (qd2 [.str,(.int .i64)] (s,at_,())) [] (q40 [(.int .i64)])
theorem uf8 (N:Nat)(s:List UInt8)(at_:Int):vl1 N s at_=wu9 N s at_:=by
 have h:vl1 N s at_=jd9 N s at_ (fun s at_ e=>jmp N (xl4 N ) (xm5 s at_ e) (xp3 s at_ e)):=by kernel_rfl
 rw [h]
 simp only [wu9,un4] <;> rfl
def vo8 (m:(List UInt8)→Int→Option Int):Ent:=q35 [.str,(.int .i64)] [(.int .i64)] fun (x:Els [.str,(.int .i64)])=>m x.1 x.2.1
def x31 (N:Nat):Ent:=vo8 (wu9 N)
theorem v84 (N:Nat):q16 Tryz.prog 140 (x31 N):=q15 (ut5 N) Tryz.func140 rfl (by kernel_rfl) fun (x:Els [.str,(.int .i64)])=>uf8 N x.1 x.2.1
def zi0 :FH:=⟨[],[],[(25,⟨8,147,0,[(7,.store true 0)],[]⟩),(33,⟨10,147,0,[(9,.store true 0)],[]⟩)],[],false,[],[(9,⟨[(0,.str),(1,.int .i64),(4,.asis),(7,.asis),(8,.int .u8)],[],[.cells [.int .u8,.str,.int .u8,.int .i64,.str,.int .i64,.int .i64],.cells [.int .u8,.str,.int .u8,.int .i64,.str,.int .i64,.int .i64]]⟩),(13,⟨[(4,.asis),(8,.int .u8),(9,.int .i64),(10,.str)],[],[.cells [.int .u8,.str,.int .u8,.int .i64,.str,.int .i64,.int .i64],.cells [.int .u8,.str,.int .u8,.int .i64,.str,.int .i64,.int .i64]]⟩)]⟩
noncomputable def va7 (N:Nat):q48:=tab [(135,u03 N),(136,zr3 N),(137,yt7 N),(138,xo4 N),(139,x06 N),(140,x31 N)]
theorem kv7 (N:Nat):q13 Tryz.prog (va7 N):=q06 (ul5 N) <| q06 (zt9 N) <| q06 (v90 N) <| q06 (vu6 N) <| q06 (v23 N) <| q06 (v84 N) <| q27 _
noncomputable def wr5 :Sc:=wl6 Tryz.prog zi0
noncomputable def wr6 (N:Nat):Cfg:=⟨N,va7 N,0⟩
noncomputable def v56 (N:Nat):Exit→List TV→List TOb→Option (q36×Int×Int×Unit):=fin Tryz.prog 0 Tryz.f64.results.toList (q40 [qc9,(.int .i64),(.int .i64)])
def xf5 (s:List UInt8)(at_ c:Int)(e:Unit):List TV:=frm 147 [(0,.str s),(1,.int .i64 at_),(4,.ref 0 0),(7,.ref 1 0),(8,.int .u8 c)]
def xb7 (s:List UInt8)(at_ c:Int)(e:Unit):List TOb:=[.cells [.int .u8 0,.str [],.int .u8 0,.int .i64 0,.str [],.int .i64 0,.int .i64 0] 105 true,.cells [.int .u8 0,.str [],.int .u8 0,.int .i64 0,.str [],.int .i64 0,.int .i64 0] 105 true]
def vz5 (c r7:Int)(name:List UInt8)(e:Unit):List TV:=frm 147 [(4,.ref 0 0),(8,.int .u8 c),(9,.int .i64 r7),(10,.str name)]
def u07 (c r7:Int)(name:List UInt8)(e:Unit):List TOb:=[.cells [.int .u8 0,.str [],.int .u8 0,.int .i64 0,.str [],.int .i64 0,.int .i64 0] 105 true,.cells [.int .u8 0,.str [],.int .u8 0,.int .i64 0,.str [],.int .i64 0,.int .i64 0] 105 true]
noncomputable def vy5 (N:Nat):List TV→List TOb→Option (q36×Int×Int×Unit):=ys5 DR wr5 (wr6 N) (q87 (zf9 (q08 (qc4 (q87 (q08 (q08 (ys1 (q08 (q87 (q08 (q08 (q08 (q08 (q08 (q10 Tryz.f64)))))))))))))))) (qc3 DR wr5 (wr6 N) (q08 (zf9 (q08 (qc4 (q87 (q08 (q08 (ys1 (q08 (q87 (q08 (q08 (q08 (q08 (q08 (q10 Tryz.f64)))))))))))))))) (zi0.loops.drop 0) (qk0 0 (qc3 DR wr5 (wr6 N) (q08 (q08 (q08 (ys1 (q08 (q87 (q08 (q08 (q08 (q08 (q08 (q10 Tryz.f64)))))))))))) (zi0.loops.drop 0) (qc3 DR wr5 (wr6 N) (q08 (q08 (q08 (q08 (q08 (q08 (q10 Tryz.f64))))))) (zi0.loops.drop 0) (v56 N)))))
def j53 (N:Nat)(c r7:Int)(name:List UInt8)(e:Unit):Option (q36×Int×Int×Unit) :=
 bif (c == 35) then
  some ((6,name,(5,0,name,()),(0,0,()),()),r7,0,())
 else
  bif (name == ([]:List UInt8)) then
   some ((3,[],(0,0,[],()),(0,0,()),()),r7,0,())
  else
   some ((2,name,(0,0,[],()),(0,0,()),()),r7,0,())
theorem kx5 (N:Nat)(c r7:Int)(name:List UInt8)(e:Unit):jmp N (vy5 N ) ((vz5 c r7 name) e) ((u07 c r7 name) e)=at1 N (j53 N c r7 name e):=qn4 (by kernel_rfl) N
noncomputable def xd1 (N:Nat):List TV→List TOb→Option (q36×Int×Int×Unit):=ys5 DR wr5 (wr6 N) (q87 (ys1 (q08 (q87 (q08 (q08 (q08 (q08 (q08 (q10 Tryz.f64)))))))))) (qc3 DR wr5 (wr6 N) (q08 (ys1 (q08 (q87 (q08 (q08 (q08 (q08 (q08 (q10 Tryz.f64)))))))))) (zi0.loops.drop 0) (qc3 DR wr5 (wr6 N) (q08 (q08 (q08 (q08 (q08 (q08 (q10 Tryz.f64))))))) (zi0.loops.drop 0) (v56 N)))
def jd6 (N:Nat)(s:List UInt8)(at_ c:Int)(l2:Int→Int→(List UInt8)→Unit→Option (q36×Int×Int×Unit))(e:Unit):Option (q36×Int×Int×Unit) :=
 bif q26 (at_ + 1) then
 (yz2 N s (at_ + 1)).bind fun r7 =>
 bif q26 (at_ + 1) then
 bif inB (at_ + 1) r7 s.length then
 bif decide ((((s.take r7.toNat).drop (at_ + 1).toNat).length:Int) > 12) then
  some ((0,[],(0,0,[],()),(0,0,()),()),0,4,())
 else
  bif (c == 35) then
   bif (((s.take r7.toNat).drop (at_ + 1).toNat) == ([]:List UInt8)) then
    some ((0,[],(0,0,[],()),(0,0,()),()),0,4,())
   else
    l2 c r7 ((s.take r7.toNat).drop (at_ + 1).toNat) ()
  else
   l2 c r7 ((s.take r7.toNat).drop (at_ + 1).toNat) ()
 else none
 else none
 else none
def wp0 (N:Nat)(s:List UInt8)(at_ c:Int)(e:Unit):Option (q36×Int×Int×Unit):=jd6 N s at_ c (fun c r7 name e=>at1 N (j53 N c r7 name e)) e
theorem kq2 (N:Nat)(s:List UInt8)(at_ c:Int)(e:Unit):jmp N (xd1 N ) ((xf5 s at_ c) e) ((xb7 s at_ c) e)=at1 N (wp0 N s at_ c e):=qn4 (by
 have h:(xd1 N ) ((xf5 s at_ c) e) ((xb7 s at_ c) e)=jd6 N s at_ c (fun c r7 name e=>jmp N (vy5 N ) (vz5 c r7 name e) (u07 c r7 name e)) e:=by kernel_rfl
 rw [h]
 simp only [wp0,kx5] <;> rfl) N
def yu4 (N:Nat)(s:List UInt8)(at_:Int)(l1:(List UInt8)→Int→Int→Unit→Option (q36×Int×Int×Unit)):Option (q36×Int×Int×Unit) :=
 bif inR at_ s.length then
 (yz2 N s at_).bind fun r =>
 bif decide (r > at_) then
  bif q26 (r - at_) then
  bif decide ((r - at_) > 12) then
   some ((0,[],(0,0,[],()),(0,0,()),()),0,4,())
  else
   bif inB at_ r s.length then
   some ((1,((s.take r.toNat).drop at_.toNat),(0,0,[],()),(0,0,()),()),r,0,())
   else none
  else none
 else
  bif ((q37 s at_) == 63) then
   l1 s at_ (q37 s at_) ()
  else
   bif ((q37 s at_) == 35) then
    l1 s at_ (q37 s at_) ()
   else
    (wb7 N (q37 s at_)).bind fun r1 =>
    bif r1 then
     (z28 N s at_).bind fun r2 =>
     bif inB at_ r2 s.length then
     (wk0 N ((s.take r2.toNat).drop at_.toNat)).bind fun r3 =>
     bif (r3.2.1 == 9) then
      some ((0,[],(0,0,[],()),(0,0,()),()),0,r3.2.1,())
     else
      bif (r3.2.1 != 0) then
       some ((0,[],(0,0,[],()),(0,0,()),()),0,4,())
      else
       bif inB at_ r2 s.length then
       some ((4,((s.take r2.toNat).drop at_.toNat),r3.1,(0,0,()),()),r2,0,())
       else none
     else none
    else
     bif ((q37 s at_) == 34) then
      (wa9 N s at_).bind fun r4 =>
      bif decide (r4 < 0) then
       some ((0,[],(0,0,[],()),(0,0,()),()),0,4,())
      else
       bif inB at_ r4 s.length then
       (wk0 N ((s.take r4.toNat).drop at_.toNat)).bind fun r5 =>
       bif (r5.2.1 != 0) then
        some ((0,[],(0,0,[],()),(0,0,()),()),0,4,())
       else
        bif q26 (at_ + 1) then
        bif q26 (r4 - 1) then
        bif inB (at_ + 1) (r4 - 1) s.length then
        some ((5,((s.take (r4 - 1).toNat).drop (at_ + 1).toNat),r5.1,(0,0,()),()),r4,0,())
        else none
        else none
        else none
       else none
     else
      (wu9 N s at_).bind fun r6 =>
      bif decide (r6 < 0) then
       some ((0,[],(0,0,[],()),(0,0,()),()),0,4,())
      else
       bif inB at_ r6 s.length then
       some ((7,((s.take r6.toNat).drop at_.toNat),(0,0,[],()),(0,0,()),()),r6,0,())
       else none
 else none
def jc9 (N:Nat)(s:List UInt8)(at_:Int):Option (q36×Int×Int×Unit):=yu4 N s at_ (fun s at_ c e=>at1 N (wp0 N s at_ c e))
noncomputable def k00 (N:Nat)(s:List UInt8)(at_:Int):Option (RT [qc9,(.int .i64),(.int .i64)]):=q22 DR Tryz.prog N (va7 N) zi0 Tryz.f64 (q10 Tryz.f64) (RT [qc9,(.int .i64),(.int .i64)]) (qd2 [.str,(.int .i64)] (s,at_,())) [] (q40 [qc9,(.int .i64),(.int .i64)])
theorem k68 (N:Nat)(s:List UInt8)(at_:Int):k00 N s at_=jc9 N s at_:=by
 have h:k00 N s at_=yu4 N s at_ (fun s at_ c e=>jmp N (xd1 N ) (xf5 s at_ c e) (xb7 s at_ c e)):=by kernel_rfl
 rw [h]
 simp only [jc9,kq2] <;> rfl
def uj2 (m:(List UInt8)→Int→Option (q36×Int×Int×Unit)):Ent:=q35 [.str,(.int .i64)] [qc9,(.int .i64),(.int .i64)] fun (x:Els [.str,(.int .i64)])=>m x.1 x.2.1
def v45 (N:Nat):Ent:=uj2 (jc9 N)
theorem ui6 (N:Nat):q16 Tryz.prog 64 (v45 N):=q15 (kv7 N) Tryz.func64 rfl (by kernel_rfl) fun (x:Els [.str,(.int .i64)])=>k68 N x.1 x.2.1
def v50 :LH:=⟨[(0,.str),(3,.asis),(5,.own qc9 505 105 7),(6,.asis),(7,.int .i64),(8,.int .i64),(9,.int .i64)],[],[.cells [.int .i64,.int .i64],.cells [.int .i64,.int .i64]]⟩
def uv7 :LH:=⟨[(0,.str),(3,.asis),(5,.own qc9 505 105 7),(6,.asis),(7,.int .i64),(8,.int .i64),(9,.int .i64)],[],[.cells [.int .i64,.int .i64],.cells [.int .i64,.int .i64]]⟩
def zq5 :FH:=⟨[v50,uv7],[],[(4,⟨2,77,0,[],[]⟩),(21,⟨4,77,0,[(3,.store true 0)],[]⟩),(25,⟨3,77,0,[],[]⟩)],[],false,[],[]⟩
noncomputable def u43 (N:Nat):q48:=tab [(64,v45 N)]
theorem r6_Lex_Ts (N:Nat):q13 Tryz.prog (u43 N):=q06 (ui6 N) <| q27 _
noncomputable def j02 :Sc:=wl6 Tryz.prog zq5
noncomputable def zk3 (N:Nat):Cfg:=⟨N,u43 N,0⟩
noncomputable def u02 (N:Nat):Exit→List TV→List TOb→Option OX6:=fin Tryz.prog 0 Tryz.f29.results.toList (q40 [(.list qc9),w74,(.int .i64)])
def j06 (s:List UInt8)(qa1 qe0 q69 q78:Int)(e:List q36×Int×Int×Int):List TV:=match e with
 | (out,line,begin,at_)=>frm 77 [(0,.str s),(3,.ref 0 0),(5,.tl qc9 out (.own 505 105 7)),(6,.ref 1 0),(7,.int .i64 line),(8,.int .i64 begin),(9,.int .i64 at_)]
def j30 (s:List UInt8)(qa1 qe0 q69 q78:Int)(e:List q36×Int×Int×Int):List TOb:=match e with
 | (out,line,begin,at_)=>[.cells [.int .i64 qa1,.int .i64 qe0] 31 true,.cells [.int .i64 q69,.int .i64 q78] 31 true]
def v82 (s:List UInt8)(out:List q36)(line begin qa1 qe0 q69 q78 e:Int):List TV:=match e with
 | at_1=>frm 77 [(0,.str s),(3,.ref 0 0),(5,.tl qc9 out (.own 505 105 7)),(6,.ref 1 0),(7,.int .i64 line),(8,.int .i64 begin),(9,.int .i64 at_1)]
def va6 (s:List UInt8)(out:List q36)(line begin qa1 qe0 q69 q78 e:Int):List TOb:=match e with
 | at_1=>[.cells [.int .i64 qa1,.int .i64 qe0] 31 true,.cells [.int .i64 q69,.int .i64 q78] 31 true]
noncomputable def uv3 (N:Nat)(K0r:List TV→List TOb→Option OX6):(List TV→List TOb→Option OX6)→List TV→List TOb→Option OX6:=w54 DR j02 (zk3 N) (ql6 (qc4 (q87 (ys1 (q08 (zf9 (q08 (zf9 (q08 (qc4 (q08 (q87 (qc4 (q08 (ql6 (qc4 (q87 (q08 (q08 (q08 (q08 (q08 (q08 (q10 Tryz.f29)))))))))))))))))))))))) uv7 (zq5.loops.drop 2) (qk0 3 (qc3 DR j02 (zk3 N) (q08 (ys1 (q08 (zf9 (q08 (zf9 (q08 (qc4 (q08 (q87 (qc4 (q08 (ql6 (qc4 (q87 (q08 (q08 (q08 (q08 (q08 (q08 (q10 Tryz.f29)))))))))))))))))))))) (zq5.loops.drop 2) (qk0 2 (qc3 DR j02 (zk3 N) (q08 (qc4 (q08 (ql6 (qc4 (q87 (q08 (q08 (q08 (q08 (q08 (q08 (q10 Tryz.f29))))))))))))) (zq5.loops.drop 2) (qk0 1 (ud6 (zk3 N) v50 (qk0 0 (qc3 DR j02 (zk3 N) (q08 (q08 (q08 (q08 (q08 (q08 (q08 (q10 Tryz.f29)))))))) (zq5.loops.drop 2) (u02 N))) K0r))))))
def j58 (N:Nat)(s:List UInt8)(out:List q36)(line begin qa1 qe0 q69 q78:Int)(K0:(List q36×Int×Int×Int)→Option OX6)(K1:Int→Option OX6)(e:Int):Option OX6 :=
 match e with
 | at_1 =>
  bif decide (at_1 < (s.length:Int)) then
   bif inR at_1 s.length then
   bif ((q37 s at_1) != 10) then
    bif q26 (at_1 + 1) then
    K1 (at_1 + 1)
    else none
   else
    K0 (out,line,begin,at_1)
   else none
  else
   K0 (out,line,begin,at_1)
theorem r6_Lex_l2 (N:Nat)(s:List UInt8)(out:List q36)(line begin qa1 qe0 q69 q78:Int)(K0r:List TV→List TOb→Option OX6)(n_:Nat)(e:Int):q57 (uv3 N K0r) n_ ((v82 s out line begin qa1 qe0 q69 q78) e) ((va6 s out line begin qa1 qe0 q69 q78) e)=q86 (j58 N s out line begin qa1 qe0 q69 q78 (fun a=>K0r (j06 s qa1 qe0 q69 q78 a) (j30 s qa1 qe0 q69 q78 a))) n_ e :=
 q39 (v82 s out line begin qa1 qe0 q69 q78) (va6 s out line begin qa1 qe0 q69 q78) (by intro K e; kernel_rfl) n_ e
noncomputable def v78 (N:Nat):(List TV→List TOb→Option OX6)→List TV→List TOb→Option OX6:=w54 DR j02 (zk3 N) (ql6 (qc4 (q87 (q08 (q08 (q08 (q08 (q08 (q08 (q10 Tryz.f29)))))))))) v50 (zq5.loops.drop 1) (qk0 0 (qc3 DR j02 (zk3 N) (q08 (q08 (q08 (q08 (q08 (q08 (q08 (q10 Tryz.f29)))))))) (zq5.loops.drop 2) (u02 N)))
def y76 (N:Nat)(s:List UInt8)(qa1 qe0 q69 q78:Int)(l2:(List UInt8)→(List q36)→Int→Int→Int→Int→Int→Int→Int→Option OX6)(K0:(List q36×Int×Int×Int)→Option OX6)(e:List q36×Int×Int×Int):Option OX6 :=
 match e with
 | (out,line,begin,at_) =>
  bif decide (at_ < (s.length:Int)) then
   bif inR at_ s.length then
   bif ((q37 s at_) == 32) then
    bif q26 (at_ + 1) then
    K0 (out,line,begin,at_ + 1)
    else none
   else
    bif ((q37 s at_) == 10) then
     bif q26 (at_ + 1) then
     bif q26 (line + 1) then
     K0 (out,line + 1,at_ + 1,at_ + 1)
     else none
     else none
    else
     bif ((q37 s at_) == 59) then
      l2 s out line begin qa1 qe0 q69 q78 at_
     else
      bif q26 (at_ - begin) then
      bif q26 ((at_ - begin) + 1) then
      (jc9 N s at_).bind fun r =>
      bif (r.2.2.1 != 0) then
       some ([],(line,(at_ - begin) + 1,()),r.2.2.1,())
      else
       bif w23 (out.length + ([(r.1.1,r.1.2.1,r.1.2.2.1,(line,(at_ - begin) + 1,()),())]:List q36).length) 1954687338268 then
       K0 ((out ++ ([(r.1.1,r.1.2.1,r.1.2.2.1,(line,(at_ - begin) + 1,()),())]:List q36)),line,begin,r.2.1)
       else none
      else none
      else none
   else none
  else
   some (out,(q69,q78,()),0,())
def zh0 (N:Nat)(s:List UInt8)(qa1 qe0 q69 q78:Int)(K0:(List q36×Int×Int×Int)→Option OX6)(e:List q36×Int×Int×Int):Option OX6:=y76 N s qa1 qe0 q69 q78 (fun s out line begin qa1 qe0 q69 q78 e=>q86 (j58 N s out line begin qa1 qe0 q69 q78 K0) N e) K0 e
theorem r6_Lex_l1 (N:Nat)(s:List UInt8)(qa1 qe0 q69 q78:Int)(n_:Nat)(e:List q36×Int×Int×Int):q57 (v78 N ) n_ ((j06 s qa1 qe0 q69 q78) e) ((j30 s qa1 qe0 q69 q78) e)=q86 (zh0 N s qa1 qe0 q69 q78 ) n_ e :=
 q39 (j06 s qa1 qe0 q69 q78) (j30 s qa1 qe0 q69 q78) (by
  intro K e
  have h:(v78 N ) K ((j06 s qa1 qe0 q69 q78) e) ((j30 s qa1 qe0 q69 q78) e)=y76 N s qa1 qe0 q69 q78 (fun s out line begin qa1 qe0 q69 q78 e=>q57 (uv3 N K) N (v82 s out line begin qa1 qe0 q69 q78 e) (va6 s out line begin qa1 qe0 q69 q78 e)) (fun e=>K ((j06 s qa1 qe0 q69 q78) e) ((j30 s qa1 qe0 q69 q78) e)) e:=by obtain ⟨out,line,begin,at_⟩:=e; kernel_rfl
  rw [h]
  simp only [zh0,r6_Lex_l2] <;> rfl) n_ e
def v01 (N:Nat)(s:List UInt8)(l1:(List UInt8)→Int→Int→Int→Int→(List q36×Int×Int×Int)→Option OX6):Option OX6 :=
 bif decide ((s.length:Int) > 65536) then
  some ([],(0,0,()),3,())
 else
  l1 s 0 0 0 0 ([],1,0,0)
def jy1 (N:Nat)(s:List UInt8):Option OX6:=v01 N s (fun s qa1 qe0 q69 q78 e=>q86 (zh0 N s qa1 qe0 q69 q78) N e)
noncomputable def kn8 (N:Nat)(s:List UInt8):Option (RT [(.list qc9),w74,(.int .i64)]):=q22 DR Tryz.prog N (u43 N) zq5 Tryz.f29 (q10 Tryz.f29) (RT [(.list qc9),w74,(.int .i64)]) (qd2 [.str] (s,())) [] (q40 [(.list qc9),w74,(.int .i64)])
theorem kv8 (N:Nat)(s:List UInt8):kn8 N s=jy1 N s:=by
 have h:kn8 N s=v01 N s (fun s qa1 qe0 q69 q78 e=>q57 (v78 N ) N (j06 s qa1 qe0 q69 q78 e) (j30 s qa1 qe0 q69 q78 e)):=by kernel_rfl
 rw [h]
 simp only [jy1,r6_Lex_l1] <;> rfl
def k82 (m:(List UInt8)→Option OX6):Ent:=q35 [.str] [(.list qc9),w74,(.int .i64)] fun (x:Els [.str])=>m x.1
def vy2 (N:Nat):Ent:=k82 (jy1 N)
theorem up3 (N:Nat):q16 Tryz.prog 29 (vy2 N):=q15 (r6_Lex_Ts N) Tryz.func29 rfl (by kernel_rfl) fun (x:Els [.str])=>kv8 N x.1
def vk2 :FH:=⟨[],[],[(1,⟨8,21,0,[(7,.app 2003)],[]⟩)],[],false,[],[]⟩
noncomputable def y04 (N:Nat):q48:=tab []
theorem xs6 (N:Nat):q13 Tryz.prog (y04 N):=q27 _
def qo6 (N:Nat)(q41:List q36)(q21 q18:Int)(q64:List q23)(q77 q28:Int)(n:q23):Option OX0 :=
 bif w23 (q64.length + ([n]:List q23).length) 1466015503701 then
 bif q26 (((q64 ++ ([n]:List q23)).length:Int) - 1) then
 some (((q41,q21,q18,(q64 ++ ([n]:List q23)),q77,q28,()),()),(((q64 ++ ([n]:List q23)).length:Int) - 1,()))
 else none
 else none
abbrev ql9 :yk9:=⟨[.ref 0,.val q79],[.cells [.val (.list qc9),.val (.int .i64),.val (.int .i64),.own q79 2003 54 8,.val (.int .i64),.val (.int .i64)] 161],[.arg 0 []],[.val (.int .i64)],true⟩
noncomputable def va5 (N:Nat)(q41:List q36)(q21 q18:Int)(q64:List q23)(q77 q28:Int)(n:q23):Option (ObR ql9):=q22 DR Tryz.prog N (y04 N) vk2 Tryz.f145 (q10 Tryz.f145) (ObR ql9) (encX ql9 ((q41,q21,q18,q64,q77,q28,()),()) (n,())) (encY ql9 ((q41,q21,q18,q64,q77,q28,()),())) (kObj ql9)
theorem x70 (N:Nat)(q41:List q36)(q21 q18:Int)(q64:List q23)(q77 q28:Int)(n:q23):va5 N q41 q21 q18 q64 q77 q28 n=qo6 N q41 q21 q18 q64 q77 q28 n:=by kernel_rfl
def x50 (m:(List q36)→Int→Int→(List q23)→Int→Int→q23→Option OX0):Ent:=yw0 ql9 fun (y:OX2×Unit) (x:Els [q79])=>m y.1.1 y.1.2.1 y.1.2.2.1 y.1.2.2.2.1 y.1.2.2.2.2.1 y.1.2.2.2.2.2.1 x.1
def w24 (N:Nat):Ent:=x50 (qo6 N)
theorem we3 (N:Nat):q16 Tryz.prog 145 (w24 N):=wu4 (xs6 N) Tryz.func145 rfl (by kernel_rfl) (by kernel_rfl) fun (y:OX2×Unit) (x:Els [q79])=>x70 N y.1.1 y.1.2.1 y.1.2.2.1 y.1.2.2.2.1 y.1.2.2.2.2.1 y.1.2.2.2.2.2.1 x.1
def r7_Call_H :FH:=⟨[],[],[],[],false,[],[]⟩
noncomputable def uw8 (N:Nat):q48:=tab []
theorem ku2 (N:Nat):q13 Tryz.prog (uw8 N):=q27 _
def ja5 (N:Nat)(s:List UInt8):Option (Int×Int×Int×Unit) :=
 bif (s == ([97,98,115]:List UInt8)) then
  some (18,1,1,())
 else
  bif (s == ([109,105,110]:List UInt8)) then
   some (19,1,8,())
  else
   bif (s == ([109,97,120]:List UInt8)) then
    some (20,1,8,())
   else
    bif (s == ([109,111,100]:List UInt8)) then
     some (21,2,2,())
    else
     bif (s == ([108,101,110,103,116,104]:List UInt8)) then
      some (22,1,1,())
     else
      bif (s == ([117,112,112,101,114]:List UInt8)) then
       some (23,1,1,())
      else
       bif (s == ([99,111,110,116,97,105,110,115]:List UInt8)) then
        some (24,2,2,())
       else
        bif (s == ([115,116,97,114,116,115]:List UInt8)) then
         some (25,2,2,())
        else
         bif (s == ([105,102]:List UInt8)) then
          some (26,3,3,())
         else
          some (0,0,0,())
noncomputable def r7_Call_C (N:Nat)(s:List UInt8):Option (RT [(.int .u8),(.int .i64),(.int .i64)]):=q22 DR Tryz.prog N (uw8 N) r7_Call_H Tryz.f206 (q10 Tryz.f206) (RT [(.int .u8),(.int .i64),(.int .i64)]) (qd2 [.str] (s,())) [] (q40 [(.int .u8),(.int .i64),(.int .i64)])
theorem ke8 (N:Nat)(s:List UInt8):r7_Call_C N s=ja5 N s:=by kernel_rfl
def ul4 (m:(List UInt8)→Option (Int×Int×Int×Unit)):Ent:=q35 [.str] [(.int .u8),(.int .i64),(.int .i64)] fun (x:Els [.str])=>m x.1
def vf6 (N:Nat):Ent:=ul4 (ja5 N)
theorem uc1 (N:Nat):q16 Tryz.prog 206 (vf6 N):=q15 (ku2 N) Tryz.func206 rfl (by kernel_rfl) fun (x:Els [.str])=>ke8 N x.1
def xv4 :FH:=⟨[],[],[(1,⟨32,52,0,[],[]⟩),(2,⟨8,52,0,[],[]⟩)],[],false,[],[]⟩
noncomputable def jh1 (N:Nat):q48:=tab []
theorem xe6 (N:Nat):q13 Tryz.prog (jh1 N):=q27 _
def q98 (N:Nat)(r_L:List q36)(we1 qj0:Int)(r_T:List q23)(r_E zf0:Int):Option (List UInt8) :=
 bif decide (we1 < (r_L.length:Int)) then
  bif inR we1 r_L.length then
  bif (((q24 r_L we1 q30).1) == 1) then
   bif inR we1 r_L.length then
   some ((q24 r_L we1 q30).2.1)
   else none
  else
   bif inR we1 r_L.length then
   bif (((q24 r_L we1 q30).1) == 7) then
    bif inR we1 r_L.length then
    some ((q24 r_L we1 q30).2.1)
    else none
   else
    some []
   else none
  else none
 else
  some []
abbrev j39 :List PK:=[.ep 6,.val (.list qc9),.val (.int .i64),.val (.int .i64),.val (.list q79),.val (.int .i64),.val (.int .i64)]
noncomputable def xv1 (N:Nat)(r_L:List q36)(we1 qj0:Int)(r_T:List q23)(r_E zf0:Int):Option (RT [.str]):=q22 DR Tryz.prog N (jh1 N) xv4 Tryz.f143 (q10 Tryz.f143) (RT [.str]) (qx9 j39 (r_L,we1,qj0,r_T,r_E,zf0,())) [] (q40 [.str])
theorem x58 (N:Nat)(r_L:List q36)(we1 qj0:Int)(r_T:List q23)(r_E zf0:Int):xv1 N r_L we1 qj0 r_T r_E zf0=q98 N r_L we1 qj0 r_T r_E zf0:=by kernel_rfl
def yq3 (m:(List q36)→Int→Int→(List q23)→Int→Int→Option (List UInt8)):Ent:=qf1 j39 [.str] fun (x:Els [(.list qc9),(.int .i64),(.int .i64),(.list q79),(.int .i64),(.int .i64)])=>m x.1 x.2.1 x.2.2.1 x.2.2.2.1 x.2.2.2.2.1 x.2.2.2.2.2.1
def qn5 (N:Nat):Ent:=yq3 (q98 N)
theorem qp4 (N:Nat):q16 Tryz.prog 143 (qn5 N):=q51 (xe6 N) Tryz.func143 rfl (by kernel_rfl) (by kernel_rfl) fun (x:Els [(.list qc9),(.int .i64),(.int .i64),(.list q79),(.int .i64),(.int .i64)])=>x58 N x.1 x.2.1 x.2.2.1 x.2.2.2.1 x.2.2.2.2.1 x.2.2.2.2.2.1
noncomputable def zq6 (N:Nat):q48:=tab []
theorem yi5 (N:Nat):q13 Tryz.prog (zq6 N):=q27 _
noncomputable def qi1 (N:Nat):Ent:=zn6 Tryz.prog N (zq6 N) ⟨[],[],[],[],false,[],[]⟩ Tryz.f205 (q10 Tryz.f205)
theorem ql3 (N:Nat):q16 Tryz.prog 205 (qi1 N):=qc2 (yi5 N) Tryz.func205 rfl (by kernel_rfl)
def xu0 :FH:=⟨[],[],[],[],false,[143],[]⟩
noncomputable def ji3 (N:Nat):q48:=tab [(143,qn5 N),(205,qi1 N)]
theorem x91 (N:Nat):q13 Tryz.prog (ji3 N):=q06 (qp4 N) <| q06 (ql3 N) <| q27 _
def qj3 (N:Nat)(q41:List q36)(q21 q18:Int)(q64:List q23)(q77 q28:Int)(s:List UInt8):Option (OX1×(Unit)) :=
 bif (q77 == 0) then
  (q98 N q41 q21 q18 q64 q77 q28).bind fun r =>
  bif (!(r == s)) then
   bif (q77 == 0) then
    some (((q41,q21,q18,q64,4,q21,()),()),())
   else
    bif (q77 == 0) then
     bif q26 (q21 + 1) then
     some (((q41,q21 + 1,q18,q64,q77,q28,()),()),())
     else none
    else
     some (((q41,q21,q18,q64,q77,q28,()),()),())
  else
   bif (q77 == 0) then
    bif q26 (q21 + 1) then
    some (((q41,q21 + 1,q18,q64,q77,q28,()),()),())
    else none
   else
    some (((q41,q21,q18,q64,q77,q28,()),()),())
 else
  bif (q77 == 0) then
   bif q26 (q21 + 1) then
   some (((q41,q21 + 1,q18,q64,q77,q28,()),()),())
   else none
  else
   some (((q41,q21,q18,q64,q77,q28,()),()),())
abbrev qj7 :yk9:=⟨[.ref 0,.val .str],[.cells [.val (.list qc9),.val (.int .i64),.val (.int .i64),.own q79 2003 54 8,.val (.int .i64),.val (.int .i64)] 161],[.arg 0 []],[],false⟩
noncomputable def xw8 (N:Nat)(q41:List q36)(q21 q18:Int)(q64:List q23)(q77 q28:Int)(s:List UInt8):Option (ObR qj7):=q22 DR Tryz.prog N (ji3 N) xu0 Tryz.f208 (q10 Tryz.f208) (ObR qj7) (encX qj7 ((q41,q21,q18,q64,q77,q28,()),()) (s,())) (encY qj7 ((q41,q21,q18,q64,q77,q28,()),())) (kObj qj7)
theorem x16 (N:Nat)(q41:List q36)(q21 q18:Int)(q64:List q23)(q77 q28:Int)(s:List UInt8):xw8 N q41 q21 q18 q64 q77 q28 s=qj3 N q41 q21 q18 q64 q77 q28 s:=by kernel_rfl
def yp5 (m:(List q36)→Int→Int→(List q23)→Int→Int→(List UInt8)→Option (OX1×(Unit))):Ent:=yw0 qj7 fun (y:OX2×Unit) (x:Els [.str])=>m y.1.1 y.1.2.1 y.1.2.2.1 y.1.2.2.2.1 y.1.2.2.2.2.1 y.1.2.2.2.2.2.1 x.1
def wj9 (N:Nat):Ent:=yp5 (qj3 N)
theorem zb7 (N:Nat):q16 Tryz.prog 208 (wj9 N):=wu4 (x91 N) Tryz.func208 rfl (by kernel_rfl) (by kernel_rfl) fun (y:OX2×Unit) (x:Els [.str])=>x16 N y.1.1 y.1.2.1 y.1.2.2.1 y.1.2.2.2.1 y.1.2.2.2.2.1 y.1.2.2.2.2.2.1 x.1
noncomputable def zl8 (N:Nat):q48:=tab []
theorem yc5 (N:Nat):q13 Tryz.prog (zl8 N):=q27 _
noncomputable def w07 (N:Nat):Ent:=zn6 Tryz.prog N (zl8 N) ⟨[],[],[(1,⟨9,25,0,[],[]⟩),(2,⟨8,25,0,[],[]⟩)],[],false,[],[]⟩ Tryz.f142 (q10 Tryz.f142)
theorem wi5 (N:Nat):q16 Tryz.prog 142 (w07 N):=qc2 (yc5 N) Tryz.func142 rfl (by kernel_rfl)
noncomputable def z61 (N:Nat):q48:=tab [(205,qi1 N)]
theorem jt4 (N:Nat):q13 Tryz.prog (z61 N):=q06 (ql3 N) <| q27 _
noncomputable def ql1 (N:Nat):Ent:=zn6 Tryz.prog N (z61 N) ⟨[],[],[],[],false,[],[]⟩ Tryz.f144 (q10 Tryz.f144)
theorem qt4 (N:Nat):q16 Tryz.prog 144 (ql1 N):=qc2 (jt4 N) Tryz.func144 rfl (by kernel_rfl)
def va2 :LH:=⟨[(0,.int .i64),(1,.str),(5,.lst (.list .str)),(6,.lst (.int .u8)),(7,.int .i64)],[],[]⟩
def y66 :FH:=⟨[va2],[],[],[],false,[],[]⟩
noncomputable def x92 (N:Nat):q48:=tab []
theorem k84 (N:Nat):q13 Tryz.prog (x92 N):=q27 _
noncomputable def v95 :Sc:=wl6 Tryz.prog y66
noncomputable def vk0 (N:Nat):Cfg:=⟨N,x92 N,0⟩
noncomputable def uq9 (N:Nat):Exit→List TV→List TOb→Option Int:=fin Tryz.prog 0 Tryz.f146.results.toList (q40 [(.int .u8)])
def yp9 (level:Int)(s:List UInt8)(words:List (List (List UInt8)))(first:List Int)(e:Int):List TV:=match e with
 | i=>frm 40 [(0,.int .i64 level),(1,.str s),(5,.tl (.list .str) words .unk),(6,.tl (.int .u8) first .unk),(7,.int .i64 i)]
def yk1 (level:Int)(s:List UInt8)(words:List (List (List UInt8)))(first:List Int)(e:Int):List TOb:=match e with
 | i=>[]
noncomputable def v03 (N:Nat):(List TV→List TOb→Option Int)→List TV→List TOb→Option Int:=w54 DR v95 (vk0 N) (ql6 (qc4 (q08 (q87 (q08 (q08 (q08 (q10 Tryz.f146)))))))) va2 (y66.loops.drop 1) (qk0 0 (qc3 DR v95 (vk0 N) (q08 (q08 (q08 (q08 (q10 Tryz.f146))))) (y66.loops.drop 1) (uq9 N)))
def yo4 (N:Nat)(level:Int)(s:List UInt8)(words:List (List (List UInt8)))(first:List Int)(K0:Int→Option Int)(e:Int):Option Int :=
 match e with
 | i =>
  bif inR level words.length then
  bif decide (i < ((q24 words level []).length:Int)) then
   bif inR level words.length then
   bif inR i (q24 words level []).length then
   bif ((q24 (q24 words level []) i []) == s) then
    bif inR level first.length then
    some (IntKind.u8.wrap ((q24 first level 0) + (IntKind.u8.wrap i)))
    else none
   else
    bif q26 (i + 1) then
    K0 (i + 1)
    else none
   else none
   else none
  else
   some 0
  else none
theorem k74 (N:Nat)(level:Int)(s:List UInt8)(words:List (List (List UInt8)))(first:List Int)(n_:Nat)(e:Int):q57 (v03 N ) n_ ((yp9 level s words first) e) ((yk1 level s words first) e)=q86 (yo4 N level s words first ) n_ e :=
 q39 (yp9 level s words first) (yk1 level s words first) (by intro K e; kernel_rfl) n_ e
def xe0 (N:Nat)(level:Int)(s:List UInt8)(l1:Int→(List UInt8)→(List (List (List UInt8)))→(List Int)→Int→Option Int):Option Int :=
 l1 level s ([[[111,114]],[[97,110,100]],[],[[61],[60,62],[60],[60,61],[62],[62,61]],[[43],[45]],[[42],[47]],[]]) [4,5,0,7,13,15,0] 0
def jd8 (N:Nat)(level:Int)(s:List UInt8):Option Int:=xe0 N level s (fun level s words first e=>q86 (yo4 N level s words first) N e)
noncomputable def u27 (N:Nat)(level:Int)(s:List UInt8):Option (RT [(.int .u8)]):=q22 DR Tryz.prog N (x92 N) y66 Tryz.f146 (q10 Tryz.f146) (RT [(.int .u8)]) (qd2 [(.int .i64),.str] (level,s,())) [] (q40 [(.int .u8)])
theorem ur2 (N:Nat)(level:Int)(s:List UInt8):u27 N level s=jd8 N level s:=by
 have h:u27 N level s=xe0 N level s (fun level s words first e=>q57 (v03 N ) N (yp9 level s words first e) (yk1 level s words first e)):=by kernel_rfl
 rw [h]
 simp only [jd8,k74] <;> rfl
def ue3 (m:Int→(List UInt8)→Option Int):Ent:=q35 [(.int .i64),.str] [(.int .u8)] fun (x:Els [(.int .i64),.str])=>m x.1 x.2.1
def xk3 (N:Nat):Ent:=ue3 (jd8 N)
theorem vv2 (N:Nat):q16 Tryz.prog 146 (xk3 N):=q15 (k84 N) Tryz.func146 rfl (by kernel_rfl) fun (x:Els [(.int .i64),.str])=>ur2 N x.1 x.2.1
end Go.Proofs.YtgicljncknbgcaaGreat.Abs
