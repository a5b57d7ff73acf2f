/- The functions of the program, told on typed values, printed by a program: each tells what the reckoning of its body tells. -/
import Derived.Test.YtgicljncknbgcaaGreatL7
import Derived.Test.YtgicljncknbgcaaGreatG0
import Derived.Test.YtgicljncknbgcaaGreatLA
import Derived.Test.YtgicljncknbgcaaGreatProg
set_option linter.unusedVariables false
set_option linter.unusedSimpArgs false
set_option linter.unusedSectionVars false
namespace Go.Proofs.YtgicljncknbgcaaGreat.Abs
set_option maxRecDepth 100000
open Go Go.Proofs
def xt0 :LH:=⟨[(1,.int .i64),(5,.str),(6,.asis)],[],[.cells [.bool,.lst (.int .i64)],.cells [.bool,.lst (.int .i64)]]⟩
def jh7 :FH:=⟨[xt0],[],[(4,⟨9,46,2,[(6,.alloc 0),(7,.alloc 1),(8,.store true 2)],[]⟩)],[],false,[],[]⟩
noncomputable def yn2 (N:Nat):q49:=tab [(209,zy4 N),(239,u60 N)]
theorem ut8 (N:Nat):q14 Tryz.prog (yn2 N):=q06 (zo5 N) <| q06 (uv1 N) <| q28 _
noncomputable def xs5 :Sc:=wm4 Tryz.prog jh7
noncomputable def xu7 (N:Nat):Cfg:=⟨N,yn2 N,0⟩
noncomputable def ui0 (N:Nat):Exit→List TV→List TOb→Option (List UInt8):=fin Tryz.prog 0 Tryz.f210.results.toList (q42 [.str])
def jv6 (least:Int)(zq5:Bool)(km9:List Int)(e:List UInt8×Bool×List Int):List TV:=match e with
 | (s,left_Neg,left_D)=>frm 46 [(1,.int .i64 least),(5,.str s),(6,.ref 1 0)]
def jy0 (least:Int)(zq5:Bool)(km9:List Int)(e:List UInt8×Bool×List Int):List TOb:=match e with
 | (s,left_Neg,left_D)=>[.cells [.bool zq5,.tl (.int .i64) km9 .unk] 265 true,.cells [.bool left_Neg,.tl (.int .i64) left_D .unk] 265 true]
noncomputable def xo4 (N:Nat):(List TV→List TOb→Option (List UInt8))→List TV→List TOb→Option (List UInt8):=w66 DR xs5 (xu7 N) (qm3 (qc6 (q88 (q08 (q08 (q08 (q13 Tryz.f210))))))) xt0 (jh7.loops.drop 1) (qj9 0 (qc5 DR xs5 (xu7 N) (q08 (q08 (q08 (q08 (q13 Tryz.f210))))) (jh7.loops.drop 1) (ui0 N)))
def jt1 (N:Nat)(least:Int)(zq5:Bool)(km9:List Int)(K0:(List UInt8×Bool×List Int)→Option (List UInt8))(e:List UInt8×Bool×List Int):Option (List UInt8) :=
 match e with
 | (s,left_Neg,left_D) =>
  bif decide ((left_D.length:Int) > 0) then
   (qz5 N 10).bind fun r =>
   (xp8 N (left_Neg,left_D,()) r).bind fun r1 =>
   bif decide ((r1.2.1.2.1.length:Int) > 0) then
    bif inR 0 r1.2.1.2.1.length then
    bif q27 (48 + (q25 r1.2.1.2.1 0 0)) then
    bif qf6 (qy7 [(IntKind.u8.wrap (48 + (q25 r1.2.1.2.1 0 0)))]) s then
    K0 (((qy7 [(IntKind.u8.wrap (48 + (q25 r1.2.1.2.1 0 0)))]) ++ s),r1.1.1,r1.1.2.1)
    else none
    else none
    else none
   else
    bif qf6 (qy7 [(IntKind.u8.wrap 48)]) s then
    K0 (((qy7 [(IntKind.u8.wrap 48)]) ++ s),r1.1.1,r1.1.2.1)
    else none
  else
   bif decide ((s.length:Int) < least) then
    (qz5 N 10).bind fun r2 =>
    (xp8 N (left_Neg,left_D,()) r2).bind fun r3 =>
    bif decide ((r3.2.1.2.1.length:Int) > 0) then
     bif inR 0 r3.2.1.2.1.length then
     bif q27 (48 + (q25 r3.2.1.2.1 0 0)) then
     bif qf6 (qy7 [(IntKind.u8.wrap (48 + (q25 r3.2.1.2.1 0 0)))]) s then
     K0 (((qy7 [(IntKind.u8.wrap (48 + (q25 r3.2.1.2.1 0 0)))]) ++ s),r3.1.1,r3.1.2.1)
     else none
     else none
     else none
    else
     bif qf6 (qy7 [(IntKind.u8.wrap 48)]) s then
     K0 (((qy7 [(IntKind.u8.wrap 48)]) ++ s),r3.1.1,r3.1.2.1)
     else none
   else
    some s
theorem k34 (N:Nat)(least:Int)(zq5:Bool)(km9:List Int)(n_:Nat)(e:List UInt8×Bool×List Int):q58 (xo4 N ) n_ ((jv6 least zq5 km9) e) ((jy0 least zq5 km9) e)=q87 (jt1 N least zq5 km9 ) n_ e :=
 q41 (jv6 least zq5 km9) (jy0 least zq5 km9) (by intro K e; obtain ⟨s,left_Neg,left_D⟩:=e; kernel_rfl) n_ e
def yn5 (N:Nat)(x:qa2)(least:Int)(l1:Int→Bool→(List Int)→(List UInt8×Bool×List Int)→Option (List UInt8)):Option (List UInt8) :=
 l1 least x.1 x.2.1 ([],false,x.2.1)
def wv8 (N:Nat)(x:qa2)(least:Int):Option (List UInt8):=yn5 N x least (fun least zq5 km9 e=>q87 (jt1 N least zq5 km9) N e)
noncomputable def vm8 (N:Nat)(x:qa2)(least:Int):Option (RT [.str]):=q24 DR Tryz.prog N (yn2 N) jh7 Tryz.f210 (q13 Tryz.f210) (RT [.str]) (qd4 [ql5,(.int .i64)] (x,least,())) [] (q42 [.str])
theorem u71 (N:Nat)(x:qa2)(least:Int):vm8 N x least=wv8 N x least:=by
 have h:vm8 N x least=yn5 N x least (fun least zq5 km9 e=>q58 (xo4 N ) N (jv6 least zq5 km9 e) (jy0 least zq5 km9 e)):=by kernel_rfl
 rw [h]
 simp only [wv8,k34] <;> rfl
def vu1 (m:qa2→Int→Option (List UInt8)):Ent:=q37 [ql5,(.int .i64)] [.str] fun (x:Els [ql5,(.int .i64)])=>m x.1 x.2.1
def yu7 (N:Nat):Ent:=vu1 (wv8 N)
theorem vb5 (N:Nat):q17 Tryz.prog 210 (yu7 N):=q16 (ut8 N) Tryz.func210 rfl (by kernel_rfl) fun (x:Els [ql5,(.int .i64)])=>u71 N x.1 x.2.1
def u05 :LH:=⟨[(4,.str),(5,.str),(6,.int .i64)],[],[.cells [.int .u8,.int .i64,.str],.cells [.bool,.lst (.int .i64)]]⟩
def y86 :LH:=⟨[(1,.asis),(7,.str),(8,.int .i64)],[],[.cells [.int .u8,.int .i64,.str],.cells [.bool,.lst (.int .i64)]]⟩
def qo4 :FH:=⟨[u05,y86],[],[(17,⟨14,103,0,[],[]⟩)],[],false,[],[(7,⟨[(1,.asis),(3,.asis),(4,.str)],[],[.cells [.int .u8,.int .i64,.str],.cells [.bool,.lst (.int .i64)]]⟩),(29,⟨[(1,.asis),(7,.str),(8,.int .i64)],[],[.cells [.int .u8,.int .i64,.str],.cells [.bool,.lst (.int .i64)]]⟩),(30,⟨[(1,.asis),(7,.str),(8,.int .i64)],[],[.cells [.int .u8,.int .i64,.str],.cells [.bool,.lst (.int .i64)]]⟩)]⟩
noncomputable def vd1 (N:Nat):q49:=tab [(14,xm7 N),(209,zy4 N),(210,yu7 N)]
theorem kr4 (N:Nat):q14 Tryz.prog (vd1 N):=q06 (xv3 N) <| q06 (zo5 N) <| q06 (vb5 N) <| q28 _
noncomputable def qg2 :Sc:=wm4 Tryz.prog qo4
noncomputable def qd5 (N:Nat):Cfg:=⟨N,vd1 N,0⟩
noncomputable def zn0 (N:Nat):Exit→List TV→List TOb→Option (List UInt8):=fin Tryz.prog 0 Tryz.f148.results.toList (q42 [.str])
def xh6 (q44 v_N:Int)(v_S:List UInt8)(q32:Bool)(x_D:List Int)(e:List UInt8):List TV:=match e with
 | sign=>frm 103 [(1,.ref 0 0),(3,.ref 1 0),(4,.str sign)]
def xg2 (q44 v_N:Int)(v_S:List UInt8)(q32:Bool)(x_D:List Int)(e:List UInt8):List TOb:=match e with
 | sign=>[.cells [.int .u8 q44,.int .i64 v_N,.str v_S] 26 true,.cells [.bool q32,.tl (.int .i64) x_D .unk] 265 true]
def wg4 (q44 v_N:Int)(v_S:List UInt8)(q32:Bool)(x_D:List Int)(e:List UInt8×Int):List TV:=match e with
 | (s,i)=>frm 103 [(1,.ref 0 0),(7,.str s),(8,.int .i64 i)]
def wh3 (q44 v_N:Int)(v_S:List UInt8)(q32:Bool)(x_D:List Int)(e:List UInt8×Int):List TOb:=match e with
 | (s,i)=>[.cells [.int .u8 q44,.int .i64 v_N,.str v_S] 26 true,.cells [.bool q32,.tl (.int .i64) x_D .unk] 265 true]
def xc3 (s:List UInt8)(i q44 v_N:Int)(v_S:List UInt8)(q32:Bool)(x_D:List Int)(e:Unit):List TV:=frm 103 [(1,.ref 0 0),(7,.str s),(8,.int .i64 i)]
def xg5 (s:List UInt8)(i q44 v_N:Int)(v_S:List UInt8)(q32:Bool)(x_D:List Int)(e:Unit):List TOb:=[.cells [.int .u8 q44,.int .i64 v_N,.str v_S] 26 true,.cells [.bool q32,.tl (.int .i64) x_D .unk] 265 true]
def xb9 (i q44 v_N:Int)(v_S:List UInt8)(q32:Bool)(x_D:List Int)(e:List UInt8):List TV:=match e with
 | s1=>frm 103 [(1,.ref 0 0),(7,.str s1),(8,.int .i64 i)]
def xc5 (i q44 v_N:Int)(v_S:List UInt8)(q32:Bool)(x_D:List Int)(e:List UInt8):List TOb:=match e with
 | s1=>[.cells [.int .u8 q44,.int .i64 v_N,.str v_S] 26 true,.cells [.bool q32,.tl (.int .i64) x_D .unk] 265 true]
def x98 (sign r3:List UInt8)(q44 v_N:Int)(v_S:List UInt8)(q32:Bool)(x_D:List Int)(e:Int):List TV:=match e with
 | end_=>frm 103 [(4,.str sign),(5,.str r3),(6,.int .i64 end_)]
def xj5 (sign r3:List UInt8)(q44 v_N:Int)(v_S:List UInt8)(q32:Bool)(x_D:List Int)(e:Int):List TOb:=match e with
 | end_=>[.cells [.int .u8 q44,.int .i64 v_N,.str v_S] 26 true,.cells [.bool q32,.tl (.int .i64) x_D .unk] 265 true]
noncomputable def u01 (N:Nat):(List TV→List TOb→Option (List UInt8))→List TV→List TOb→Option (List UInt8):=w66 DR qg2 (qd5 N) (qm3 (qc6 (q88 (q08 (q08 (yu6 (q08 (zh9 (q08 (zh9 (q08 (qc6 (q08 (q88 (q08 (q08 (q08 (q08 (q08 (q13 Tryz.f148)))))))))))))))))))) u05 (qo4.loops.drop 1) (qj9 1 (qc5 DR qg2 (qd5 N) (q08 (q08 (q08 (yu6 (q08 (zh9 (q08 (zh9 (q08 (qc6 (q08 (q88 (q08 (q08 (q08 (q08 (q08 (q13 Tryz.f148)))))))))))))))))) (qo4.loops.drop 1) (qj9 0 (qc5 DR qg2 (qd5 N) (q08 (q08 (q08 (q08 (q08 (q08 (q13 Tryz.f148))))))) (qo4.loops.drop 1) (zn0 N)))))
def xi0 (N:Nat)(sign r3:List UInt8)(q44 v_N:Int)(v_S:List UInt8)(q32:Bool)(x_D:List Int)(K0:Int→Option (List UInt8))(e:Int):Option (List UInt8) :=
 match e with
 | end_ =>
  bif q27 ((r3.length:Int) - 3) then
  bif decide (end_ > ((r3.length:Int) - 3)) then
   bif q27 (end_ - 1) then
   bif inR (end_ - 1) r3.length then
   bif ((q38 r3 (end_ - 1)) == 48) then
    bif q27 (end_ - 1) then
    K0 (end_ - 1)
    else none
   else
    bif q27 ((r3.length:Int) - 4) then
    bif upTo ((r3.length:Int) - 4) r3.length then
    bif qf6 sign (r3.take ((r3.length:Int) - 4).toNat) then
    bif qf6 (sign ++ (r3.take ((r3.length:Int) - 4).toNat)) ([46]:List UInt8) then
    bif q27 ((r3.length:Int) - 4) then
    bif inB ((r3.length:Int) - 4) end_ r3.length then
    bif qf6 ((sign ++ (r3.take ((r3.length:Int) - 4).toNat)) ++ ([46]:List UInt8)) ((r3.take end_.toNat).drop ((r3.length:Int) - 4).toNat) then
    some (((sign ++ (r3.take ((r3.length:Int) - 4).toNat)) ++ ([46]:List UInt8)) ++ ((r3.take end_.toNat).drop ((r3.length:Int) - 4).toNat))
    else none
    else none
    else none
    else none
    else none
    else none
    else none
   else none
   else none
  else
   bif q27 ((r3.length:Int) - 4) then
   bif upTo ((r3.length:Int) - 4) r3.length then
   bif qf6 sign (r3.take ((r3.length:Int) - 4).toNat) then
   bif qf6 (sign ++ (r3.take ((r3.length:Int) - 4).toNat)) ([46]:List UInt8) then
   bif q27 ((r3.length:Int) - 4) then
   bif inB ((r3.length:Int) - 4) end_ r3.length then
   bif qf6 ((sign ++ (r3.take ((r3.length:Int) - 4).toNat)) ++ ([46]:List UInt8)) ((r3.take end_.toNat).drop ((r3.length:Int) - 4).toNat) then
   some (((sign ++ (r3.take ((r3.length:Int) - 4).toNat)) ++ ([46]:List UInt8)) ++ ((r3.take end_.toNat).drop ((r3.length:Int) - 4).toNat))
   else none
   else none
   else none
   else none
   else none
   else none
   else none
  else none
theorem kt0 (N:Nat)(sign r3:List UInt8)(q44 v_N:Int)(v_S:List UInt8)(q32:Bool)(x_D:List Int)(n_:Nat)(e:Int):q58 (u01 N ) n_ ((x98 sign r3 q44 v_N v_S q32 x_D) e) ((xj5 sign r3 q44 v_N v_S q32 x_D) e)=q87 (xi0 N sign r3 q44 v_N v_S q32 x_D ) n_ e :=
 q41 (x98 sign r3 q44 v_N v_S q32 x_D) (xj5 sign r3 q44 v_N v_S q32 x_D) (by intro K e; kernel_rfl) n_ e
noncomputable def xd1 (N:Nat)(K0r:List TV→List TOb→Option (List UInt8)):List TV→List TOb→Option (List UInt8):=x83 DR qg2 (qd5 N) (q08 (qc6 (q88 (q08 (qm3 (qc6 (q08 (q88 (q08 (q08 (q08 (q08 (q08 (q08 (q08 (q13 Tryz.f148)))))))))))))))) (qj9 4 (qc5 DR qg2 (qd5 N) (q08 (q08 (qm3 (qc6 (q08 (q88 (q08 (q08 (q08 (q08 (q08 (q08 (q08 (q13 Tryz.f148)))))))))))))) (qo4.loops.drop 2) (ug3 (qd5 N) y86 (qj9 3 (qc5 DR qg2 (qd5 N) (q08 (q08 (q08 (q08 (q08 (q08 (q08 (q08 (q13 Tryz.f148))))))))) (qo4.loops.drop 2) (zn0 N))) K0r)))
def j66 (N:Nat)(i q44 v_N:Int)(v_S:List UInt8)(q32:Bool)(x_D:List Int)(K0:(List UInt8×Int)→Option (List UInt8))(e:List UInt8):Option (List UInt8) :=
 match e with
 | s1 =>
  bif q27 (i + 1) then
  bif inB i (i + 1) v_S.length then
  bif qf6 s1 ((v_S.take (i + 1).toNat).drop i.toNat) then
  bif q27 (i + 1) then
  K0 ((s1 ++ ((v_S.take (i + 1).toNat).drop i.toNat)),i + 1)
  else none
  else none
  else none
  else none
theorem u61 (N:Nat)(i q44 v_N:Int)(v_S:List UInt8)(q32:Bool)(x_D:List Int)(K0r:List TV→List TOb→Option (List UInt8))(e:List UInt8):jmp N (xd1 N K0r) ((xb9 i q44 v_N v_S q32 x_D) e) ((xc5 i q44 v_N v_S q32 x_D) e)=at1 N (j66 N i q44 v_N v_S q32 x_D (fun a=>K0r (wg4 q44 v_N v_S q32 x_D a) (wh3 q44 v_N v_S q32 x_D a)) e):=qn7 (by kernel_rfl) N
noncomputable def xh7 (N:Nat)(K0r:List TV→List TOb→Option (List UInt8)):List TV→List TOb→Option (List UInt8):=x83 DR qg2 (qd5 N) (yu6 (q08 (q88 (qc6 (q88 (q08 (qm3 (qc6 (q08 (q88 (q08 (q08 (q08 (q08 (q08 (q08 (q08 (q13 Tryz.f148)))))))))))))))))) (qc5 DR qg2 (qd5 N) (q08 (qc6 (q88 (q08 (qm3 (qc6 (q08 (q88 (q08 (q08 (q08 (q08 (q08 (q08 (q08 (q13 Tryz.f148)))))))))))))))) (qo4.loops.drop 2) (qj9 4 (qc5 DR qg2 (qd5 N) (q08 (q08 (qm3 (qc6 (q08 (q88 (q08 (q08 (q08 (q08 (q08 (q08 (q08 (q13 Tryz.f148)))))))))))))) (qo4.loops.drop 2) (ug3 (qd5 N) y86 (qj9 3 (qc5 DR qg2 (qd5 N) (q08 (q08 (q08 (q08 (q08 (q08 (q08 (q08 (q13 Tryz.f148))))))))) (qo4.loops.drop 2) (zn0 N))) K0r))))
def ys0 (N:Nat)(s:List UInt8)(i q44 v_N:Int)(v_S:List UInt8)(q32:Bool)(x_D:List Int)(K0:(List UInt8×Int)→Option (List UInt8))(l5:Int→Int→Int→(List UInt8)→Bool→(List Int)→(List UInt8)→Option (List UInt8))(e:Unit):Option (List UInt8) :=
 bif qf6 s ([92]:List UInt8) then
 l5 i q44 v_N v_S q32 x_D (s ++ ([92]:List UInt8))
 else none
def j70 (N:Nat)(s:List UInt8)(i q44 v_N:Int)(v_S:List UInt8)(q32:Bool)(x_D:List Int)(K0:(List UInt8×Int)→Option (List UInt8))(e:Unit):Option (List UInt8):=ys0 N s i q44 v_N v_S q32 x_D K0 (fun i q44 v_N v_S q32 x_D e=>at1 N (j66 N i q44 v_N v_S q32 x_D K0 e)) e
theorem ku0 (N:Nat)(s:List UInt8)(i q44 v_N:Int)(v_S:List UInt8)(q32:Bool)(x_D:List Int)(K0r:List TV→List TOb→Option (List UInt8))(e:Unit):jmp N (xh7 N K0r) ((xc3 s i q44 v_N v_S q32 x_D) e) ((xg5 s i q44 v_N v_S q32 x_D) e)=at1 N (j70 N s i q44 v_N v_S q32 x_D (fun a=>K0r (wg4 q44 v_N v_S q32 x_D a) (wh3 q44 v_N v_S q32 x_D a)) e):=qn7 (by
 have h:(xh7 N K0r) ((xc3 s i q44 v_N v_S q32 x_D) e) ((xg5 s i q44 v_N v_S q32 x_D) e)=ys0 N s i q44 v_N v_S q32 x_D (fun a=>K0r (wg4 q44 v_N v_S q32 x_D a) (wh3 q44 v_N v_S q32 x_D a)) (fun i q44 v_N v_S q32 x_D e=>jmp N (xd1 N K0r) (xb9 i q44 v_N v_S q32 x_D e) (xc5 i q44 v_N v_S q32 x_D e)) e:=by kernel_rfl
 rw [h]
 simp only [j70,u61] <;> rfl) N
noncomputable def xj2 (N:Nat):(List TV→List TOb→Option (List UInt8))→List TV→List TOb→Option (List UInt8):=w66 DR qg2 (qd5 N) (qm3 (qc6 (q08 (q88 (q08 (q08 (q08 (q08 (q08 (q08 (q08 (q13 Tryz.f148)))))))))))) y86 (qo4.loops.drop 2) (qj9 3 (qc5 DR qg2 (qd5 N) (q08 (q08 (q08 (q08 (q08 (q08 (q08 (q08 (q13 Tryz.f148))))))))) (qo4.loops.drop 2) (zn0 N)))
def yl9 (N:Nat)(q44 v_N:Int)(v_S:List UInt8)(q32:Bool)(x_D:List Int)(l4:(List UInt8)→Int→Int→Int→(List UInt8)→Bool→(List Int)→Unit→Option (List UInt8))(l5:Int→Int→Int→(List UInt8)→Bool→(List Int)→(List UInt8)→Option (List UInt8))(K0:(List UInt8×Int)→Option (List UInt8))(e:List UInt8×Int):Option (List UInt8) :=
 match e with
 | (s,i) =>
  bif decide (i < (v_S.length:Int)) then
   bif inR i v_S.length then
   bif ((q38 v_S i) == 34) then
    l4 s i q44 v_N v_S q32 x_D ()
   else
    bif inR i v_S.length then
    bif ((q38 v_S i) == 92) then
     l4 s i q44 v_N v_S q32 x_D ()
    else
     l5 i q44 v_N v_S q32 x_D s
    else none
   else none
  else
   bif qf6 s ([34]:List UInt8) then
   some (s ++ ([34]:List UInt8))
   else none
def y79 (N:Nat)(q44 v_N:Int)(v_S:List UInt8)(q32:Bool)(x_D:List Int)(K0:(List UInt8×Int)→Option (List UInt8))(e:List UInt8×Int):Option (List UInt8):=yl9 N q44 v_N v_S q32 x_D (fun s i q44 v_N v_S q32 x_D e=>at1 N (j70 N s i q44 v_N v_S q32 x_D K0 e)) (fun i q44 v_N v_S q32 x_D e=>at1 N (j66 N i q44 v_N v_S q32 x_D K0 e)) K0 e
theorem ku1 (N:Nat)(q44 v_N:Int)(v_S:List UInt8)(q32:Bool)(x_D:List Int)(n_:Nat)(e:List UInt8×Int):q58 (xj2 N ) n_ ((wg4 q44 v_N v_S q32 x_D) e) ((wh3 q44 v_N v_S q32 x_D) e)=q87 (y79 N q44 v_N v_S q32 x_D ) n_ e :=
 q41 (wg4 q44 v_N v_S q32 x_D) (wh3 q44 v_N v_S q32 x_D) (by
  intro K e
  have h:(xj2 N ) K ((wg4 q44 v_N v_S q32 x_D) e) ((wh3 q44 v_N v_S q32 x_D) e)=yl9 N q44 v_N v_S q32 x_D (fun s i q44 v_N v_S q32 x_D e=>jmp N (xh7 N K) (xc3 s i q44 v_N v_S q32 x_D e) (xg5 s i q44 v_N v_S q32 x_D e)) (fun i q44 v_N v_S q32 x_D e=>jmp N (xd1 N K) (xb9 i q44 v_N v_S q32 x_D e) (xc5 i q44 v_N v_S q32 x_D e)) (fun e=>K ((wg4 q44 v_N v_S q32 x_D) e) ((wh3 q44 v_N v_S q32 x_D) e)) e:=by obtain ⟨s,i⟩:=e; kernel_rfl
  rw [h]
  simp only [y79,ku0,u61] <;> rfl) n_ e
noncomputable def xe2 (N:Nat):List TV→List TOb→Option (List UInt8):=x83 DR qg2 (qd5 N) (q88 (q88 (q08 (q08 (q08 (q08 (q08 (q13 Tryz.f148)))))))) (qc5 DR qg2 (qd5 N) (q08 (q88 (q08 (q08 (q08 (q08 (q08 (q13 Tryz.f148)))))))) (qo4.loops.drop 0) (qc5 DR qg2 (qd5 N) (q08 (q08 (q08 (q08 (q08 (q08 (q13 Tryz.f148))))))) (qo4.loops.drop 1) (zn0 N)))
def yp1 (N:Nat)(q44 v_N:Int)(v_S:List UInt8)(q32:Bool)(x_D:List Int)(l2:(List UInt8)→(List UInt8)→Int→Int→(List UInt8)→Bool→(List Int)→Int→Option (List UInt8))(l3:Int→Int→(List UInt8)→Bool→(List Int)→(List UInt8×Int)→Option (List UInt8))(e:List UInt8):Option (List UInt8) :=
 match e with
 | sign =>
  bif (q44 == 0) then
   some [110,117,108,108]
  else
   bif (q44 == 1) then
    (wv8 N (q32,x_D,()) 1).bind fun r2 =>
    bif qf6 sign r2 then
    some (sign ++ r2)
    else none
   else
    bif (q44 == 2) then
     (wv8 N (q32,x_D,()) 5).bind fun r3 =>
     l2 sign r3 q44 v_N v_S q32 x_D (r3.length:Int)
    else
     bif (q44 == 4) then
      bif (v_N == 1) then
       some [116,114,117,101]
      else
       some [102,97,108,115,101]
     else
      bif (q44 == 5) then
       bif qf6 ([35]:List UInt8) v_S then
       some (([35]:List UInt8) ++ v_S)
       else none
      else
       l3 q44 v_N v_S q32 x_D ([34],0)
def j04 (N:Nat)(q44 v_N:Int)(v_S:List UInt8)(q32:Bool)(x_D:List Int)(e:List UInt8):Option (List UInt8):=yp1 N q44 v_N v_S q32 x_D (fun sign r3 q44 v_N v_S q32 x_D e=>q87 (xi0 N sign r3 q44 v_N v_S q32 x_D) N e) (fun q44 v_N v_S q32 x_D e=>q87 (y79 N q44 v_N v_S q32 x_D) N e) e
theorem kx7 (N:Nat)(q44 v_N:Int)(v_S:List UInt8)(q32:Bool)(x_D:List Int)(e:List UInt8):jmp N (xe2 N ) ((xh6 q44 v_N v_S q32 x_D) e) ((xg2 q44 v_N v_S q32 x_D) e)=at1 N (j04 N q44 v_N v_S q32 x_D e):=qn7 (by
 have h:(xe2 N ) ((xh6 q44 v_N v_S q32 x_D) e) ((xg2 q44 v_N v_S q32 x_D) e)=yp1 N q44 v_N v_S q32 x_D (fun sign r3 q44 v_N v_S q32 x_D e=>q58 (u01 N ) N (x98 sign r3 q44 v_N v_S q32 x_D e) (xj5 sign r3 q44 v_N v_S q32 x_D e)) (fun q44 v_N v_S q32 x_D e=>q58 (xj2 N ) N (wg4 q44 v_N v_S q32 x_D e) (wh3 q44 v_N v_S q32 x_D e)) e:=by kernel_rfl
 rw [h]
 simp only [j04,kt0,ku1] <;> rfl) N
def vd7 (N:Nat)(v:q00)(l1:Int→Int→(List UInt8)→Bool→(List Int)→(List UInt8)→Option (List UInt8)):Option (List UInt8) :=
 (xs8 N v).bind fun r =>
 bif (!r) then
  some []
 else
  (qz5 N v.2.1).bind fun r1 =>
  bif r1.1 then
   l1 v.1 v.2.1 v.2.2.1 r1.1 r1.2.1 [45]
  else
   l1 v.1 v.2.1 v.2.2.1 r1.1 r1.2.1 []
def xh0 (N:Nat)(v:q00):Option (List UInt8):=vd7 N v (fun q44 v_N v_S q32 x_D e=>at1 N (j04 N q44 v_N v_S q32 x_D e))
noncomputable def uu0 (N:Nat)(v:q00):Option (RT [.str]):=q24 DR Tryz.prog N (vd1 N) qo4 Tryz.f148 (q13 Tryz.f148) (RT [.str]) (qd4 [q05] (v,())) [] (q42 [.str])
theorem kd2 (N:Nat)(v:q00):uu0 N v=xh0 N v:=by
 have h:uu0 N v=vd7 N v (fun q44 v_N v_S q32 x_D e=>jmp N (xe2 N ) (xh6 q44 v_N v_S q32 x_D e) (xg2 q44 v_N v_S q32 x_D e)):=by kernel_rfl
 rw [h]
 simp only [xh0,kx7] <;> rfl
def uz5 (m:q00→Option (List UInt8)):Ent:=q37 [q05] [.str] fun (x:Els [q05])=>m x.1
def v83 (N:Nat):Ent:=uz5 (xh0 N)
theorem ul4 (N:Nat):q17 Tryz.prog 148 (v83 N):=q16 (kr4 N) Tryz.func148 rfl (by kernel_rfl) fun (x:Els [q05])=>kd2 N x.1
def vi6 :LH:=⟨[(0,.str),(3,.str),(4,.int .i64)],[],[]⟩
def ya2 :FH:=⟨[vi6],[],[],[],false,[],[]⟩
noncomputable def xk8 (N:Nat):q49:=tab []
theorem k87 (N:Nat):q14 Tryz.prog (xk8 N):=q28 _
noncomputable def vo2 :Sc:=wm4 Tryz.prog ya2
noncomputable def vd6 (N:Nat):Cfg:=⟨N,xk8 N,0⟩
noncomputable def k33 (N:Nat):Exit→List TV→List TOb→Option (List UInt8):=fin Tryz.prog 0 Tryz.f203.results.toList (q42 [.str])
def yq2 (s:List UInt8)(e:List UInt8×Int):List TV:=match e with
 | (out,i)=>frm 26 [(0,.str s),(3,.str out),(4,.int .i64 i)]
def yo5 (s:List UInt8)(e:List UInt8×Int):List TOb:=match e with
 | (out,i)=>[]
noncomputable def vk0 (N:Nat):(List TV→List TOb→Option (List UInt8))→List TV→List TOb→Option (List UInt8):=w66 DR vo2 (vd6 N) (qm3 (qc6 (q08 (q88 (q08 (q08 (q13 Tryz.f203))))))) vi6 (ya2.loops.drop 1) (qj9 0 (qc5 DR vo2 (vd6 N) (q08 (q08 (q08 (q13 Tryz.f203)))) (ya2.loops.drop 1) (k33 N)))
def yo0 (N:Nat)(s:List UInt8)(K0:(List UInt8×Int)→Option (List UInt8))(e:List UInt8×Int):Option (List UInt8) :=
 match e with
 | (out,i) =>
  bif q27 (i + 1) then
  bif decide ((i + 1) < (s.length:Int)) then
   bif inR i s.length then
   bif ((q38 s i) == 92) then
    bif q27 (i + 1) then
    bif q27 ((i + 1) + 1) then
    bif inB (i + 1) ((i + 1) + 1) s.length then
    bif qf6 out ((s.take ((i + 1) + 1).toNat).drop (i + 1).toNat) then
    bif q27 ((i + 1) + 1) then
    K0 ((out ++ ((s.take ((i + 1) + 1).toNat).drop (i + 1).toNat)),(i + 1) + 1)
    else none
    else none
    else none
    else none
    else none
   else
    bif q27 (i + 1) then
    bif inB i (i + 1) s.length then
    bif qf6 out ((s.take (i + 1).toNat).drop i.toNat) then
    bif q27 (i + 1) then
    K0 ((out ++ ((s.take (i + 1).toNat).drop i.toNat)),i + 1)
    else none
    else none
    else none
    else none
   else none
  else
   some out
  else none
theorem kh0 (N:Nat)(s:List UInt8)(n_:Nat)(e:List UInt8×Int):q58 (vk0 N ) n_ ((yq2 s) e) ((yo5 s) e)=q87 (yo0 N s ) n_ e :=
 q41 (yq2 s) (yo5 s) (by intro K e; obtain ⟨out,i⟩:=e; kernel_rfl) n_ e
def xg3 (N:Nat)(s:List UInt8)(l1:(List UInt8)→(List UInt8×Int)→Option (List UInt8)):Option (List UInt8) :=
 l1 s ([],1)
def ya3 (N:Nat)(s:List UInt8):Option (List UInt8):=xg3 N s (fun s e=>q87 (yo0 N s) N e)
noncomputable def u23 (N:Nat)(s:List UInt8):Option (RT [.str]):=q24 DR Tryz.prog N (xk8 N) ya2 Tryz.f203 (q13 Tryz.f203) (RT [.str]) (qd4 [.str] (s,())) [] (q42 [.str])
theorem ut5 (N:Nat)(s:List UInt8):u23 N s=ya3 N s:=by
 have h:u23 N s=xg3 N s (fun s e=>q58 (vk0 N ) N (yq2 s e) (yo5 s e)):=by kernel_rfl
 rw [h]
 simp only [ya3,kh0] <;> rfl
def uh0 (m:(List UInt8)→Option (List UInt8)):Ent:=q37 [.str] [.str] fun (x:Els [.str])=>m x.1
def xo0 (N:Nat):Ent:=uh0 (ya3 N)
theorem vr0 (N:Nat):q17 Tryz.prog 203 (xo0 N):=q16 (k87 N) Tryz.func203 rfl (by kernel_rfl) fun (x:Els [.str])=>ut5 N x.1
def v89 :LH:=⟨[(1,.asis),(6,.int .i64),(7,.int .i64)],[],[.cells [.bool,.lst (.int .i64)],.cells [.bool,.lst (.int .i64)],.cells [.bool,.lst (.int .i64)]]⟩
def ya1 :FH:=⟨[v89],[],[],[],false,[],[]⟩
noncomputable def xd3 (N:Nat):q49:=tab [(209,zy4 N),(249,xa7 N)]
theorem ka3 (N:Nat):q14 Tryz.prog (xd3 N):=q06 (zo5 N) <| q06 (xn7 N) <| q28 _
noncomputable def v97 :Sc:=wm4 Tryz.prog ya1
noncomputable def vm0 (N:Nat):Cfg:=⟨N,xd3 N,0⟩
noncomputable def k21 (N:Nat):Exit→List TV→List TOb→Option (Int×Int×Unit):=fin Tryz.prog 0 Tryz.f204.results.toList (q42 [(.int .i64),(.int .i64)])
def yn8 (q32:Bool)(x_D:List Int)(zs9:Bool)(kk6:List Int)(qi4:Bool)(yd6:List Int)(e:Int×Int):List TV:=match e with
 | (n,i)=>frm 47 [(1,.ref 0 0),(6,.int .i64 n),(7,.int .i64 i)]
def yu0 (q32:Bool)(x_D:List Int)(zs9:Bool)(kk6:List Int)(qi4:Bool)(yd6:List Int)(e:Int×Int):List TOb:=match e with
 | (n,i)=>[.cells [.bool q32,.tl (.int .i64) x_D .unk] 265 true,.cells [.bool zs9,.tl (.int .i64) kk6 .unk] 265 true,.cells [.bool qi4,.tl (.int .i64) yd6 .unk] 265 true]
noncomputable def v76 (N:Nat):(List TV→List TOb→Option (Int×Int×Unit))→List TV→List TOb→Option (Int×Int×Unit):=w66 DR v97 (vm0 N) (qm3 (qc6 (q08 (q88 (q08 (q08 (q08 (q08 (q13 Tryz.f204))))))))) v89 (ya1.loops.drop 1) (qj9 0 (qc5 DR v97 (vm0 N) (q08 (q08 (q08 (q08 (q08 (q13 Tryz.f204)))))) (ya1.loops.drop 1) (k21 N)))
def ym6 (N:Nat)(q32:Bool)(x_D:List Int)(zs9:Bool)(kk6:List Int)(qi4:Bool)(yd6:List Int)(K0:(Int×Int)→Option (Int×Int×Unit))(e:Int×Int):Option (Int×Int×Unit) :=
 match e with
 | (n,i) =>
  bif decide (i ≥ 0) then
   bif q32 then
    bif q27 (n * 10000) then
    bif inR i x_D.length then
    bif q27 ((n * 10000) - (q25 x_D i 0)) then
    bif q27 (i - 1) then
    K0 ((n * 10000) - (q25 x_D i 0),i - 1)
    else none
    else none
    else none
    else none
   else
    bif q27 (n * 10000) then
    bif inR i x_D.length then
    bif q27 ((n * 10000) + (q25 x_D i 0)) then
    bif q27 (i - 1) then
    K0 ((n * 10000) + (q25 x_D i 0),i - 1)
    else none
    else none
    else none
    else none
  else
   some (n,0,())
theorem ki4 (N:Nat)(q32:Bool)(x_D:List Int)(zs9:Bool)(kk6:List Int)(qi4:Bool)(yd6:List Int)(n_:Nat)(e:Int×Int):q58 (v76 N ) n_ ((yn8 q32 x_D zs9 kk6 qi4 yd6) e) ((yu0 q32 x_D zs9 kk6 qi4 yd6) e)=q87 (ym6 N q32 x_D zs9 kk6 qi4 yd6 ) n_ e :=
 q41 (yn8 q32 x_D zs9 kk6 qi4 yd6) (yu0 q32 x_D zs9 kk6 qi4 yd6) (by intro K e; obtain ⟨n,i⟩:=e; kernel_rfl) n_ e
def xm1 (N:Nat)(x:qa2)(l1:Bool→(List Int)→Bool→(List Int)→Bool→(List Int)→(Int×Int)→Option (Int×Int×Unit)):Option (Int×Int×Unit) :=
 (qz5 N (-9223372036854775808)).bind fun r =>
 (qz5 N 9223372036854775807).bind fun r1 =>
 (vh2 N x r).bind fun r2 =>
 bif decide (r2 < 0) then
  some (0,9,())
 else
  (vh2 N x r1).bind fun r3 =>
  bif decide (r3 > 0) then
   some (0,9,())
  else
   bif q27 ((x.2.1.length:Int) - 1) then
   l1 x.1 x.2.1 r.1 r.2.1 r1.1 r1.2.1 (0,(x.2.1.length:Int) - 1)
   else none
def y90 (N:Nat)(x:qa2):Option (Int×Int×Unit):=xm1 N x (fun q32 x_D zs9 kk6 qi4 yd6 e=>q87 (ym6 N q32 x_D zs9 kk6 qi4 yd6) N e)
noncomputable def u12 (N:Nat)(x:qa2):Option (RT [(.int .i64),(.int .i64)]):=q24 DR Tryz.prog N (xd3 N) ya1 Tryz.f204 (q13 Tryz.f204) (RT [(.int .i64),(.int .i64)]) (qd4 [ql5] (x,())) [] (q42 [(.int .i64),(.int .i64)])
theorem k28 (N:Nat)(x:qa2):u12 N x=y90 N x:=by
 have h:u12 N x=xm1 N x (fun q32 x_D zs9 kk6 qi4 yd6 e=>q58 (v76 N ) N (yn8 q32 x_D zs9 kk6 qi4 yd6 e) (yu0 q32 x_D zs9 kk6 qi4 yd6 e)):=by kernel_rfl
 rw [h]
 simp only [y90,ki4] <;> rfl
def ud5 (m:qa2→Option (Int×Int×Unit)):Ent:=q37 [ql5] [(.int .i64),(.int .i64)] fun (x:Els [ql5])=>m x.1
def xq3 (N:Nat):Ent:=ud5 (y90 N)
theorem vq6 (N:Nat):q17 Tryz.prog 204 (xq3 N):=q16 (ka3 N) Tryz.func204 rfl (by kernel_rfl) fun (x:Els [ql5])=>k28 N x.1
def w37 :FH:=⟨[],[],[],[],false,[],[(7,⟨[(0,.str),(2,.asis),(4,.asis)],[],[.cells [.int .u8,.int .i64,.str],.cells [.int .u8,.int .i64,.str],.cells [.bool,.lst (.int .i64)]]⟩),(11,⟨[(0,.str),(2,.asis),(4,.asis),(5,.asis),(6,.bool),(7,.bool)],[],[.cells [.int .u8,.int .i64,.str],.cells [.int .u8,.int .i64,.str],.cells [.bool,.lst (.int .i64)]]⟩),(13,⟨[(0,.str),(2,.asis),(4,.asis),(5,.asis),(6,.bool),(7,.bool)],[],[.cells [.int .u8,.int .i64,.str],.cells [.int .u8,.int .i64,.str],.cells [.bool,.lst (.int .i64)]]⟩),(20,⟨[(0,.str),(2,.asis),(4,.asis)],[],[.cells [.int .u8,.int .i64,.str],.cells [.int .u8,.int .i64,.str],.cells [.bool,.lst (.int .i64)]]⟩)]⟩
noncomputable def xe3 (N:Nat):q49:=tab [(201,yw3 N),(202,xs3 N),(203,xo0 N),(204,xq3 N),(14,xm7 N),(148,v83 N)]
theorem kg9 (N:Nat):q14 Tryz.prog (xe3 N):=q06 (vb3 N) <| q06 (vx8 N) <| q06 (vr0 N) <| q06 (vq6 N) <| q06 (xv3 N) <| q06 (ul4 N) <| q28 _
noncomputable def ql1 :Sc:=wm4 Tryz.prog w37
noncomputable def qk8 (N:Nat):Cfg:=⟨N,xe3 N,0⟩
noncomputable def zs4 (N:Nat):Exit→List TV→List TOb→Option OX3:=fin Tryz.prog 0 Tryz.f138.results.toList (q42 [q05,(.int .i64)])
def yt2 (s:List UInt8)(point ok q32:Bool)(x_D:List Int)(e:Unit):List TV:=frm 85 [(0,.str s),(2,.ref 0 0),(4,.ref 1 0),(5,.ref 2 0),(6,.bool point),(7,.bool ok)]
def yl5 (s:List UInt8)(point ok q32:Bool)(x_D:List Int)(e:Unit):List TOb:=[.cells [.int .u8 0,.int .i64 0,.str []] 26 true,.cells [.int .u8 0,.int .i64 0,.str []] 26 true,.cells [.bool q32,.tl (.int .i64) x_D .unk] 265 true]
def yo7 (s:List UInt8)(point ok q32:Bool)(x_D:List Int)(e:Unit):List TV:=frm 85 [(0,.str s),(2,.ref 0 0),(4,.ref 1 0),(5,.ref 2 0),(6,.bool point),(7,.bool ok)]
def yu3 (s:List UInt8)(point ok q32:Bool)(x_D:List Int)(e:Unit):List TOb:=[.cells [.int .u8 0,.int .i64 0,.str []] 26 true,.cells [.int .u8 0,.int .i64 0,.str []] 26 true,.cells [.bool q32,.tl (.int .i64) x_D .unk] 265 true]
def yt6 (s:List UInt8)(qi4:Bool)(yd6:List Int)(e:Unit):List TV:=frm 85 [(0,.str s),(2,.ref 0 0),(4,.ref 1 0)]
def yo4 (s:List UInt8)(qi4:Bool)(yd6:List Int)(e:Unit):List TOb:=[.cells [.int .u8 0,.int .i64 0,.str []] 26 true,.cells [.int .u8 0,.int .i64 0,.str []] 26 true,.cells [.bool qi4,.tl (.int .i64) yd6 .unk] 265 true]
def zl8 (s:List UInt8)(e:Int×Int×List UInt8×Bool×List Int):List TV:=match e with
 | (q44,v_N,v_S,o2_Neg1,o2_D1)=>frm 85 [(0,.str s),(2,.ref 0 0),(4,.ref 1 0)]
def zp6 (s:List UInt8)(e:Int×Int×List UInt8×Bool×List Int):List TOb:=match e with
 | (q44,v_N,v_S,o2_Neg1,o2_D1)=>[.cells [.int .u8 0,.int .i64 0,.str []] 26 true,.cells [.int .u8 q44,.int .i64 v_N,.str v_S] 26 true,.cells [.bool o2_Neg1,.tl (.int .i64) o2_D1 .unk] 265 true]
noncomputable def zk4 (N:Nat):List TV→List TOb→Option OX3:=x83 DR ql1 (qk8 N) (q88 (q88 (q08 (q08 (q08 (q08 (q08 (q13 Tryz.f138)))))))) (qc5 DR ql1 (qk8 N) (q08 (q88 (q08 (q08 (q08 (q08 (q08 (q13 Tryz.f138)))))))) (w37.loops.drop 0) (qc5 DR ql1 (qk8 N) (q08 (q08 (q08 (q08 (q08 (q08 (q13 Tryz.f138))))))) (w37.loops.drop 0) (zs4 N)))
def wf8 (N:Nat)(s:List UInt8)(e:Int×Int×List UInt8×Bool×List Int):Option OX3 :=
 match e with
 | (q44,v_N,v_S,o2_Neg1,o2_D1) =>
  (xs8 N (q44,v_N,v_S,())).bind fun r4 =>
  bif (!r4) then
   some ((0,0,[],()),4,())
  else
   (xh0 N (q44,v_N,v_S,())).bind fun r5 =>
   bif (!(r5 == s)) then
    some ((0,0,[],()),4,())
   else
    some ((q44,v_N,v_S,()),0,())
theorem jc0 (N:Nat)(s:List UInt8)(e:Int×Int×List UInt8×Bool×List Int):jmp N (zk4 N ) ((zl8 s) e) ((zp6 s) e)=at1 N (wf8 N s e):=qn7 (by obtain ⟨q44,v_N,v_S,o2_Neg1,o2_D1⟩:=e; kernel_rfl) N
noncomputable def yp5 (N:Nat):List TV→List TOb→Option OX3:=x83 DR ql1 (qk8 N) (yu6 (q08 (qc6 (q88 (q08 (q08 (q08 (q08 (q13 Tryz.f138))))))))) (qj9 0 (qc5 DR ql1 (qk8 N) (q08 (q08 (q08 (q08 (q08 (q13 Tryz.f138)))))) (w37.loops.drop 0) (zs4 N)))
def jt6 (N:Nat)(s:List UInt8)(qi4:Bool)(yd6:List Int)(l2:(List UInt8)→(Int×Int×List UInt8×Bool×List Int)→Option OX3)(e:Unit):Option OX3 :=
 (v33 N (s == ([116,114,117,101]:List UInt8))).bind fun r1 =>
 l2 s (r1.1,r1.2.1,r1.2.2.1,qi4,yd6)
def zl0 (N:Nat)(s:List UInt8)(qi4:Bool)(yd6:List Int)(e:Unit):Option OX3:=jt6 N s qi4 yd6 (fun s e=>at1 N (wf8 N s e)) e
theorem kf1 (N:Nat)(s:List UInt8)(qi4:Bool)(yd6:List Int)(e:Unit):jmp N (yp5 N ) ((yt6 s qi4 yd6) e) ((yo4 s qi4 yd6) e)=at1 N (zl0 N s qi4 yd6 e):=qn7 (by
 have h:(yp5 N ) ((yt6 s qi4 yd6) e) ((yo4 s qi4 yd6) e)=jt6 N s qi4 yd6 (fun s e=>jmp N (zk4 N ) (zl8 s e) (zp6 s e)) e:=by kernel_rfl
 rw [h]
 simp only [zl0,jc0] <;> rfl) N
noncomputable def yo3 (N:Nat):List TV→List TOb→Option OX3:=x83 DR ql1 (qk8 N) (q88 (zh9 (q08 (zh9 (q08 (zh9 (q08 (zh9 (q08 (qc6 (q88 (q08 (q08 (q08 (q08 (q13 Tryz.f138)))))))))))))))) (qc5 DR ql1 (qk8 N) (q08 (zh9 (q08 (zh9 (q08 (zh9 (q08 (zh9 (q08 (qc6 (q88 (q08 (q08 (q08 (q08 (q13 Tryz.f138)))))))))))))))) (w37.loops.drop 0) (qj9 0 (qc5 DR ql1 (qk8 N) (q08 (q08 (q08 (q08 (q08 (q13 Tryz.f138)))))) (w37.loops.drop 0) (zs4 N))))
def jr2 (N:Nat)(s:List UInt8)(point ok q32:Bool)(x_D:List Int)(l2:(List UInt8)→(Int×Int×List UInt8×Bool×List Int)→Option OX3)(e:Unit):Option OX3 :=
 bif ok then
  (y90 N (q32,x_D,())).bind fun r3 =>
  bif (r3.2.1 != 0) then
   some ((0,0,[],()),r3.2.1,())
  else
   bif point then
    l2 s (2,r3.1,[],q32,x_D)
   else
    l2 s (1,r3.1,[],q32,x_D)
 else
  some ((0,0,[],()),4,())
def zm3 (N:Nat)(s:List UInt8)(point ok q32:Bool)(x_D:List Int)(e:Unit):Option OX3:=jr2 N s point ok q32 x_D (fun s e=>at1 N (wf8 N s e)) e
theorem kd3 (N:Nat)(s:List UInt8)(point ok q32:Bool)(x_D:List Int)(e:Unit):jmp N (yo3 N ) ((yo7 s point ok q32 x_D) e) ((yu3 s point ok q32 x_D) e)=at1 N (zm3 N s point ok q32 x_D e):=qn7 (by
 have h:(yo3 N ) ((yo7 s point ok q32 x_D) e) ((yu3 s point ok q32 x_D) e)=jr2 N s point ok q32 x_D (fun s e=>jmp N (zk4 N ) (zl8 s e) (zp6 s e)) e:=by kernel_rfl
 rw [h]
 simp only [zm3,jc0] <;> rfl) N
noncomputable def yk9 (N:Nat):List TV→List TOb→Option OX3:=x83 DR ql1 (qk8 N) (q88 (zh9 (q08 (zh9 (q08 (zh9 (q08 (qc6 (q88 (q08 (q08 (q08 (q08 (q13 Tryz.f138)))))))))))))) (qc5 DR ql1 (qk8 N) (q08 (zh9 (q08 (zh9 (q08 (zh9 (q08 (qc6 (q88 (q08 (q08 (q08 (q08 (q13 Tryz.f138)))))))))))))) (w37.loops.drop 0) (qj9 0 (qc5 DR ql1 (qk8 N) (q08 (q08 (q08 (q08 (q08 (q13 Tryz.f138)))))) (w37.loops.drop 0) (zs4 N))))
def y74 (N:Nat)(s:List UInt8)(point ok q32:Bool)(x_D:List Int)(l2:(List UInt8)→(Int×Int×List UInt8×Bool×List Int)→Option OX3)(l4:(List UInt8)→Bool→Bool→Bool→(List Int)→Unit→Option OX3)(e:Unit):Option OX3 :=
 bif decide ((s.length:Int) > 0) then
  bif inR 0 s.length then
  bif ((q38 s 0) == 34) then
   (ya3 N s).bind fun r2 =>
   l2 s (3,0,r2,q32,x_D)
  else
   l4 s point ok q32 x_D ()
  else none
 else
  l4 s point ok q32 x_D ()
def zo9 (N:Nat)(s:List UInt8)(point ok q32:Bool)(x_D:List Int)(e:Unit):Option OX3:=y74 N s point ok q32 x_D (fun s e=>at1 N (wf8 N s e)) (fun s point ok q32 x_D e=>at1 N (zm3 N s point ok q32 x_D e)) e
theorem ka8 (N:Nat)(s:List UInt8)(point ok q32:Bool)(x_D:List Int)(e:Unit):jmp N (yk9 N ) ((yt2 s point ok q32 x_D) e) ((yl5 s point ok q32 x_D) e)=at1 N (zo9 N s point ok q32 x_D e):=qn7 (by
 have h:(yk9 N ) ((yt2 s point ok q32 x_D) e) ((yl5 s point ok q32 x_D) e)=y74 N s point ok q32 x_D (fun s e=>jmp N (zk4 N ) (zl8 s e) (zp6 s e)) (fun s point ok q32 x_D e=>jmp N (yo3 N ) (yo7 s point ok q32 x_D e) (yu3 s point ok q32 x_D e)) e:=by kernel_rfl
 rw [h]
 simp only [zo9,jc0,kd3] <;> rfl) N
def xd0 (N:Nat)(s:List UInt8)(l1:(List UInt8)→Bool→(List Int)→Unit→Option OX3)(l2:(List UInt8)→(Int×Int×List UInt8×Bool×List Int)→Option OX3)(l3:(List UInt8)→Bool→Bool→Bool→(List Int)→Unit→Option OX3):Option OX3 :=
 bif decide ((s.length:Int) > 402) then
  some ((0,0,[],()),3,())
 else
  (j14 N s).bind fun r =>
  bif (s == ([116,114,117,101]:List UInt8)) then
   l1 s r.1.1 r.1.2.1 ()
  else
   bif (s == ([102,97,108,115,101]:List UInt8)) then
    l1 s r.1.1 r.1.2.1 ()
   else
    bif (s == ([110,117,108,108]:List UInt8)) then
     l2 s (0,0,[],r.1.1,r.1.2.1)
    else
     bif decide ((s.length:Int) > 0) then
      bif inR 0 s.length then
      bif ((q38 s 0) == 35) then
       bif upTo 1 s.length then
       l2 s (5,0,(s.drop (1:Int).toNat),r.1.1,r.1.2.1)
       else none
      else
       l3 s r.2.1 r.2.2.1 r.1.1 r.1.2.1 ()
      else none
     else
      l3 s r.2.1 r.2.2.1 r.1.1 r.1.2.1 ()
def wu5 (N:Nat)(s:List UInt8):Option OX3:=xd0 N s (fun s qi4 yd6 e=>at1 N (zl0 N s qi4 yd6 e)) (fun s e=>at1 N (wf8 N s e)) (fun s point ok q32 x_D e=>at1 N (zo9 N s point ok q32 x_D e))
noncomputable def u31 (N:Nat)(s:List UInt8):Option (RT [q05,(.int .i64)]):=q24 DR Tryz.prog N (xe3 N) w37 Tryz.f138 (q13 Tryz.f138) (RT [q05,(.int .i64)]) (qd4 [.str] (s,())) [] (q42 [q05,(.int .i64)])
theorem uv0 (N:Nat)(s:List UInt8):u31 N s=wu5 N s:=by
 have h:u31 N s=xd0 N s (fun s qi4 yd6 e=>jmp N (yp5 N ) (yt6 s qi4 yd6 e) (yo4 s qi4 yd6 e)) (fun s e=>jmp N (zk4 N ) (zl8 s e) (zp6 s e)) (fun s point ok q32 x_D e=>jmp N (yk9 N ) (yt2 s point ok q32 x_D e) (yl5 s point ok q32 x_D e)):=by kernel_rfl
 rw [h]
 simp only [wu5,kf1,jc0,ka8] <;> rfl
def u63 (m:(List UInt8)→Option OX3):Ent:=q37 [.str] [q05,(.int .i64)] fun (x:Els [.str])=>m x.1
def xq5 (N:Nat):Ent:=u63 (wu5 N)
theorem vx1 (N:Nat):q17 Tryz.prog 138 (xq5 N):=q16 (kg9 N) Tryz.func138 rfl (by kernel_rfl) fun (x:Els [.str])=>uv0 N x.1
def xq2 :LH:=⟨[(0,.str),(5,.int .i64)],[],[]⟩
def jc7 :FH:=⟨[xq2],[],[],[],false,[],[]⟩
noncomputable def yp7 (N:Nat):q49:=tab []
theorem ur7 (N:Nat):q14 Tryz.prog (yp7 N):=q28 _
noncomputable def xr3 :Sc:=wm4 Tryz.prog jc7
noncomputable def xn6 (N:Nat):Cfg:=⟨N,yp7 N,0⟩
noncomputable def uk5 (N:Nat):Exit→List TV→List TOb→Option Int:=fin Tryz.prog 0 Tryz.f139.results.toList (q42 [(.int .i64)])
def ju8 (s:List UInt8)(e:Int):List TV:=match e with
 | i=>frm 52 [(0,.str s),(5,.int .i64 i)]
def y71 (s:List UInt8)(e:Int):List TOb:=match e with
 | i=>[]
noncomputable def xo6 (N:Nat):(List TV→List TOb→Option Int)→List TV→List TOb→Option Int:=w66 DR xr3 (xn6 N) (qm3 (qc6 (q08 (q88 (q08 (q13 Tryz.f139)))))) xq2 (jc7.loops.drop 1) (qj9 0 (qc5 DR xr3 (xn6 N) (q08 (q08 (q13 Tryz.f139))) (jc7.loops.drop 1) (uk5 N)))
def zs3 (N:Nat)(s:List UInt8)(K0:Int→Option Int)(e:Int):Option Int :=
 match e with
 | i =>
  bif decide (i < (s.length:Int)) then
   bif inR i s.length then
   bif decide ((q38 s i) < 32) then
    some (-1)
   else
    bif inR i s.length then
    bif decide ((q38 s i) > 126) then
     some (-1)
    else
     bif inR i s.length then
     bif ((q38 s i) == 34) then
      bif q27 (i + 1) then
      some (i + 1)
      else none
     else
      bif inR i s.length then
      bif ((q38 s i) == 92) then
       bif q27 (i + 1) then
       bif decide ((i + 1) < (s.length:Int)) then
        bif inR (i + 1) s.length then
        bif decide ((q38 s (i + 1)) < 32) then
         some (-1)
        else
         bif inR (i + 1) s.length then
         bif decide ((q38 s (i + 1)) > 126) then
          some (-1)
         else
          bif q27 ((i + 1) + 1) then
          K0 ((i + 1) + 1)
          else none
         else none
        else none
       else
        bif q27 ((i + 1) + 1) then
        K0 ((i + 1) + 1)
        else none
       else none
      else
       bif q27 (i + 1) then
       K0 (i + 1)
       else none
      else none
     else none
    else none
   else none
  else
   some (-1)
theorem k12 (N:Nat)(s:List UInt8)(n_:Nat)(e:Int):q58 (xo6 N ) n_ ((ju8 s) e) ((y71 s) e)=q87 (zs3 N s ) n_ e :=
 q41 (ju8 s) (y71 s) (by intro K e; kernel_rfl) n_ e
def jb9 (N:Nat)(s:List UInt8)(at_:Int)(l1:(List UInt8)→Int→Option Int):Option Int :=
 bif q27 (at_ + 1) then
 l1 s (at_ + 1)
 else none
def wb5 (N:Nat)(s:List UInt8)(at_:Int):Option Int:=jb9 N s at_ (fun s e=>q87 (zs3 N s) N e)
noncomputable def vo3 (N:Nat)(s:List UInt8)(at_:Int):Option (RT [(.int .i64)]):=q24 DR Tryz.prog N (yp7 N) jc7 Tryz.f139 (q13 Tryz.f139) (RT [(.int .i64)]) (qd4 [.str,(.int .i64)] (s,at_,())) [] (q42 [(.int .i64)])
theorem u85 (N:Nat)(s:List UInt8)(at_:Int):vo3 N s at_=wb5 N s at_:=by
 have h:vo3 N s at_=jb9 N s at_ (fun s e=>q58 (xo6 N ) N (ju8 s e) (y71 s e)):=by kernel_rfl
 rw [h]
 simp only [wb5,k12] <;> rfl
def vq8 (m:(List UInt8)→Int→Option Int):Ent:=q37 [.str,(.int .i64)] [(.int .i64)] fun (x:Els [.str,(.int .i64)])=>m x.1 x.2.1
def x07 (N:Nat):Ent:=vq8 (wb5 N)
theorem vp3 (N:Nat):q17 Tryz.prog 139 (x07 N):=q16 (ur7 N) Tryz.func139 rfl (by kernel_rfl) fun (x:Els [.str,(.int .i64)])=>u85 N x.1 x.2.1
def jg2 :FH:=⟨[],[],[],[],false,[],[(8,⟨[(0,.str),(1,.int .i64)],[],[]⟩)]⟩
noncomputable def yt0 (N:Nat):q49:=tab []
theorem uw0 (N:Nat):q14 Tryz.prog (yt0 N):=q28 _
noncomputable def y08 :Sc:=wm4 Tryz.prog jg2
noncomputable def jx9 (N:Nat):Cfg:=⟨N,yt0 N,0⟩
noncomputable def u68 (N:Nat):Exit→List TV→List TOb→Option Int:=fin Tryz.prog 0 Tryz.f140.results.toList (q42 [(.int .i64)])
def xn4 (s:List UInt8)(at_:Int)(e:Unit):List TV:=frm 41 [(0,.str s),(1,.int .i64 at_)]
def xq1 (s:List UInt8)(at_:Int)(e:Unit):List TOb:=[]
noncomputable def xp9 (N:Nat):List TV→List TOb→Option Int:=x83 DR y08 (jx9 N) (q88 (q88 (q08 (q08 (q13 Tryz.f140))))) (qc5 DR y08 (jx9 N) (q08 (q88 (q08 (q08 (q13 Tryz.f140))))) (jg2.loops.drop 0) (qc5 DR y08 (jx9 N) (q08 (q08 (q08 (q13 Tryz.f140)))) (jg2.loops.drop 0) (u68 N)))
def wg6 (N:Nat)(s:List UInt8)(at_:Int)(e:Unit):Option Int :=
 bif inR at_ s.length then
 bif ((q38 s at_) == 40) then
  bif q27 (at_ + 1) then
  some (at_ + 1)
  else none
 else
  bif ((q38 s at_) == 41) then
   bif q27 (at_ + 1) then
   some (at_ + 1)
   else none
  else
   bif ((q38 s at_) == 91) then
    bif q27 (at_ + 1) then
    some (at_ + 1)
    else none
   else
    bif ((q38 s at_) == 93) then
     bif q27 (at_ + 1) then
     some (at_ + 1)
     else none
    else
     bif ((q38 s at_) == 44) then
      bif q27 (at_ + 1) then
      some (at_ + 1)
      else none
     else
      bif ((q38 s at_) == 58) then
       bif q27 (at_ + 1) then
       some (at_ + 1)
       else none
      else
       bif ((q38 s at_) == 61) then
        bif q27 (at_ + 1) then
        some (at_ + 1)
        else none
       else
        bif ((q38 s at_) == 60) then
         bif q27 (at_ + 1) then
         some (at_ + 1)
         else none
        else
         bif ((q38 s at_) == 62) then
          bif q27 (at_ + 1) then
          some (at_ + 1)
          else none
         else
          bif ((q38 s at_) == 43) then
           bif q27 (at_ + 1) then
           some (at_ + 1)
           else none
          else
           bif ((q38 s at_) == 45) then
            bif q27 (at_ + 1) then
            some (at_ + 1)
            else none
           else
            bif ((q38 s at_) == 42) then
             bif q27 (at_ + 1) then
             some (at_ + 1)
             else none
            else
             bif ((q38 s at_) == 47) then
              bif q27 (at_ + 1) then
              some (at_ + 1)
              else none
             else
              some (-1)
 else none
theorem uo3 (N:Nat)(s:List UInt8)(at_:Int)(e:Unit):jmp N (xp9 N ) ((xn4 s at_) e) ((xq1 s at_) e)=at1 N (wg6 N s at_ e):=qn7 (by kernel_rfl) N
def j76 (N:Nat)(s:List UInt8)(at_:Int)(l1:(List UInt8)→Int→Unit→Option Int):Option Int :=
 bif q27 (at_ + 1) then
 bif decide ((at_ + 1) < (s.length:Int)) then
  bif q27 (at_ + 2) then
  bif inB at_ (at_ + 2) s.length then
  bif (((s.take (at_ + 2).toNat).drop at_.toNat) == ([60,61]:List UInt8)) then
   bif q27 (at_ + 2) then
   some (at_ + 2)
   else none
  else
   bif (((s.take (at_ + 2).toNat).drop at_.toNat) == ([62,61]:List UInt8)) then
    bif q27 (at_ + 2) then
    some (at_ + 2)
    else none
   else
    bif (((s.take (at_ + 2).toNat).drop at_.toNat) == ([60,62]:List UInt8)) then
     bif q27 (at_ + 2) then
     some (at_ + 2)
     else none
    else
     bif (((s.take (at_ + 2).toNat).drop at_.toNat) == ([46,46]:List UInt8)) then
      bif q27 (at_ + 2) then
      some (at_ + 2)
      else none
     else
      l1 s at_ ()
  else none
  else none
 else
  l1 s at_ ()
 else none
def wz3 (N:Nat)(s:List UInt8)(at_:Int):Option Int:=j76 N s at_ (fun s at_ e=>at1 N (wg6 N s at_ e))
noncomputable def vn7 (N:Nat)(s:List UInt8)(at_:Int):Option (RT [(.int .i64)]):=q24 DR Tryz.prog N (yt0 N) jg2 Tryz.f140 (q13 Tryz.f140) (RT [(.int .i64)]) (qd4 [.str,(.int .i64)] (s,at_,())) [] (q42 [(.int .i64)])
theorem uc6 (N:Nat)(s:List UInt8)(at_:Int):vn7 N s at_=wz3 N s at_:=by
 have h:vn7 N s at_=j76 N s at_ (fun s at_ e=>jmp N (xp9 N ) (xn4 s at_ e) (xq1 s at_ e)):=by kernel_rfl
 rw [h]
 simp only [wz3,uo3] <;> rfl
def vt8 (m:(List UInt8)→Int→Option Int):Ent:=q37 [.str,(.int .i64)] [(.int .i64)] fun (x:Els [.str,(.int .i64)])=>m x.1 x.2.1
def x35 (N:Nat):Ent:=vt8 (wz3 N)
theorem v65 (N:Nat):q17 Tryz.prog 140 (x35 N):=q16 (uw0 N) Tryz.func140 rfl (by kernel_rfl) fun (x:Els [.str,(.int .i64)])=>uc6 N x.1 x.2.1
def zm4 :FH:=⟨[],[],[(25,⟨8,147,0,[(7,.store true 0)],[]⟩),(33,⟨10,147,0,[(9,.store true 0)],[]⟩)],[],false,[],[(9,⟨[(0,.str),(1,.int .i64),(4,.asis),(7,.asis),(8,.int .u8)],[],[.cells [.int .u8,.str,.int .u8,.int .i64,.str,.int .i64,.int .i64],.cells [.int .u8,.str,.int .u8,.int .i64,.str,.int .i64,.int .i64]]⟩),(13,⟨[(4,.asis),(8,.int .u8),(9,.int .i64),(10,.str)],[],[.cells [.int .u8,.str,.int .u8,.int .i64,.str,.int .i64,.int .i64],.cells [.int .u8,.str,.int .u8,.int .i64,.str,.int .i64,.int .i64]]⟩)]⟩
noncomputable def v37 (N:Nat):q49:=tab [(135,vy8 N),(136,zs8 N),(137,yx1 N),(138,xq5 N),(139,x07 N),(140,x35 N)]
theorem kt2 (N:Nat):q14 Tryz.prog (v37 N):=q06 (k16 N) <| q06 (zu8 N) <| q06 (v81 N) <| q06 (vx1 N) <| q06 (vp3 N) <| q06 (v65 N) <| q28 _
noncomputable def ws3 :Sc:=wm4 Tryz.prog zm4
noncomputable def wp6 (N:Nat):Cfg:=⟨N,v37 N,0⟩
noncomputable def vp0 (N:Nat):Exit→List TV→List TOb→Option (q33×Int×Int×Unit):=fin Tryz.prog 0 Tryz.f64.results.toList (q42 [qd2,(.int .i64),(.int .i64)])
def xm0 (s:List UInt8)(at_ c:Int)(e:Unit):List TV:=frm 147 [(0,.str s),(1,.int .i64 at_),(4,.ref 0 0),(7,.ref 1 0),(8,.int .u8 c)]
def xf2 (s:List UInt8)(at_ c:Int)(e:Unit):List TOb:=[.cells [.int .u8 0,.str [],.int .u8 0,.int .i64 0,.str [],.int .i64 0,.int .i64 0] 105 true,.cells [.int .u8 0,.str [],.int .u8 0,.int .i64 0,.str [],.int .i64 0,.int .i64 0] 105 true]
def u19 (c r7:Int)(name:List UInt8)(e:Unit):List TV:=frm 147 [(4,.ref 0 0),(8,.int .u8 c),(9,.int .i64 r7),(10,.str name)]
def u30 (c r7:Int)(name:List UInt8)(e:Unit):List TOb:=[.cells [.int .u8 0,.str [],.int .u8 0,.int .i64 0,.str [],.int .i64 0,.int .i64 0] 105 true,.cells [.int .u8 0,.str [],.int .u8 0,.int .i64 0,.str [],.int .i64 0,.int .i64 0] 105 true]
noncomputable def u41 (N:Nat):List TV→List TOb→Option (q33×Int×Int×Unit):=x83 DR ws3 (wp6 N) (q88 (zh9 (q08 (qc6 (q88 (q08 (q08 (yu6 (q08 (q88 (q08 (q08 (q08 (q08 (q08 (q13 Tryz.f64)))))))))))))))) (qc5 DR ws3 (wp6 N) (q08 (zh9 (q08 (qc6 (q88 (q08 (q08 (yu6 (q08 (q88 (q08 (q08 (q08 (q08 (q08 (q13 Tryz.f64)))))))))))))))) (zm4.loops.drop 0) (qj9 0 (qc5 DR ws3 (wp6 N) (q08 (q08 (q08 (yu6 (q08 (q88 (q08 (q08 (q08 (q08 (q08 (q13 Tryz.f64)))))))))))) (zm4.loops.drop 0) (qc5 DR ws3 (wp6 N) (q08 (q08 (q08 (q08 (q08 (q08 (q13 Tryz.f64))))))) (zm4.loops.drop 0) (vp0 N)))))
def zy9 (N:Nat)(c r7:Int)(name:List UInt8)(e:Unit):Option (q33×Int×Int×Unit) :=
 bif (c == 35) then
  some ((6,name,(5,0,name,()),(0,0,()),()),r7,0,())
 else
  bif (name == ([]:List UInt8)) then
   some ((3,[],(0,0,[],()),(0,0,()),()),r7,0,())
  else
   some ((2,name,(0,0,[],()),(0,0,()),()),r7,0,())
theorem kv2 (N:Nat)(c r7:Int)(name:List UInt8)(e:Unit):jmp N (u41 N ) ((u19 c r7 name) e) ((u30 c r7 name) e)=at1 N (zy9 N c r7 name e):=qn7 (by kernel_rfl) N
noncomputable def xj0 (N:Nat):List TV→List TOb→Option (q33×Int×Int×Unit):=x83 DR ws3 (wp6 N) (q88 (yu6 (q08 (q88 (q08 (q08 (q08 (q08 (q08 (q13 Tryz.f64)))))))))) (qc5 DR ws3 (wp6 N) (q08 (yu6 (q08 (q88 (q08 (q08 (q08 (q08 (q08 (q13 Tryz.f64)))))))))) (zm4.loops.drop 0) (qc5 DR ws3 (wp6 N) (q08 (q08 (q08 (q08 (q08 (q08 (q13 Tryz.f64))))))) (zm4.loops.drop 0) (vp0 N)))
def je9 (N:Nat)(s:List UInt8)(at_ c:Int)(l2:Int→Int→(List UInt8)→Unit→Option (q33×Int×Int×Unit))(e:Unit):Option (q33×Int×Int×Unit) :=
 bif q27 (at_ + 1) then
 (x27 N s (at_ + 1)).bind fun r7 =>
 bif q27 (at_ + 1) then
 bif inB (at_ + 1) r7 s.length then
 bif decide ((((s.take r7.toNat).drop (at_ + 1).toNat).length:Int) > 12) then
  some ((0,[],(0,0,[],()),(0,0,()),()),0,4,())
 else
  bif (c == 35) then
   bif (((s.take r7.toNat).drop (at_ + 1).toNat) == ([]:List UInt8)) then
    some ((0,[],(0,0,[],()),(0,0,()),()),0,4,())
   else
    l2 c r7 ((s.take r7.toNat).drop (at_ + 1).toNat) ()
  else
   l2 c r7 ((s.take r7.toNat).drop (at_ + 1).toNat) ()
 else none
 else none
 else none
def wq3 (N:Nat)(s:List UInt8)(at_ c:Int)(e:Unit):Option (q33×Int×Int×Unit):=je9 N s at_ c (fun c r7 name e=>at1 N (zy9 N c r7 name e)) e
theorem ku2 (N:Nat)(s:List UInt8)(at_ c:Int)(e:Unit):jmp N (xj0 N ) ((xm0 s at_ c) e) ((xf2 s at_ c) e)=at1 N (wq3 N s at_ c e):=qn7 (by
 have h:(xj0 N ) ((xm0 s at_ c) e) ((xf2 s at_ c) e)=je9 N s at_ c (fun c r7 name e=>jmp N (u41 N ) (u19 c r7 name e) (u30 c r7 name e)) e:=by kernel_rfl
 rw [h]
 simp only [wq3,kv2] <;> rfl) N
def yw0 (N:Nat)(s:List UInt8)(at_:Int)(l1:(List UInt8)→Int→Int→Unit→Option (q33×Int×Int×Unit)):Option (q33×Int×Int×Unit) :=
 bif inR at_ s.length then
 (x27 N s at_).bind fun r =>
 bif decide (r > at_) then
  bif q27 (r - at_) then
  bif decide ((r - at_) > 12) then
   some ((0,[],(0,0,[],()),(0,0,()),()),0,4,())
  else
   bif inB at_ r s.length then
   some ((1,((s.take r.toNat).drop at_.toNat),(0,0,[],()),(0,0,()),()),r,0,())
   else none
  else none
 else
  bif ((q38 s at_) == 63) then
   l1 s at_ (q38 s at_) ()
  else
   bif ((q38 s at_) == 35) then
    l1 s at_ (q38 s at_) ()
   else
    (wc2 N (q38 s at_)).bind fun r1 =>
    bif r1 then
     (wx6 N s at_).bind fun r2 =>
     bif inB at_ r2 s.length then
     (wu5 N ((s.take r2.toNat).drop at_.toNat)).bind fun r3 =>
     bif (r3.2.1 == 9) then
      some ((0,[],(0,0,[],()),(0,0,()),()),0,r3.2.1,())
     else
      bif (r3.2.1 != 0) then
       some ((0,[],(0,0,[],()),(0,0,()),()),0,4,())
      else
       bif inB at_ r2 s.length then
       some ((4,((s.take r2.toNat).drop at_.toNat),r3.1,(0,0,()),()),r2,0,())
       else none
     else none
    else
     bif ((q38 s at_) == 34) then
      (wb5 N s at_).bind fun r4 =>
      bif decide (r4 < 0) then
       some ((0,[],(0,0,[],()),(0,0,()),()),0,4,())
      else
       bif inB at_ r4 s.length then
       (wu5 N ((s.take r4.toNat).drop at_.toNat)).bind fun r5 =>
       bif (r5.2.1 != 0) then
        some ((0,[],(0,0,[],()),(0,0,()),()),0,4,())
       else
        bif q27 (at_ + 1) then
        bif q27 (r4 - 1) then
        bif inB (at_ + 1) (r4 - 1) s.length then
        some ((5,((s.take (r4 - 1).toNat).drop (at_ + 1).toNat),r5.1,(0,0,()),()),r4,0,())
        else none
        else none
        else none
       else none
     else
      (wz3 N s at_).bind fun r6 =>
      bif decide (r6 < 0) then
       some ((0,[],(0,0,[],()),(0,0,()),()),0,4,())
      else
       bif inB at_ r6 s.length then
       some ((7,((s.take r6.toNat).drop at_.toNat),(0,0,[],()),(0,0,()),()),r6,0,())
       else none
 else none
def j82 (N:Nat)(s:List UInt8)(at_:Int):Option (q33×Int×Int×Unit):=yw0 N s at_ (fun s at_ c e=>at1 N (wq3 N s at_ c e))
noncomputable def ux6 (N:Nat)(s:List UInt8)(at_:Int):Option (RT [qd2,(.int .i64),(.int .i64)]):=q24 DR Tryz.prog N (v37 N) zm4 Tryz.f64 (q13 Tryz.f64) (RT [qd2,(.int .i64),(.int .i64)]) (qd4 [.str,(.int .i64)] (s,at_,())) [] (q42 [qd2,(.int .i64),(.int .i64)])
theorem kd4 (N:Nat)(s:List UInt8)(at_:Int):ux6 N s at_=j82 N s at_:=by
 have h:ux6 N s at_=yw0 N s at_ (fun s at_ c e=>jmp N (xj0 N ) (xm0 s at_ c e) (xf2 s at_ c e)):=by kernel_rfl
 rw [h]
 simp only [j82,ku2] <;> rfl
def uv2 (m:(List UInt8)→Int→Option (q33×Int×Int×Unit)):Ent:=q37 [.str,(.int .i64)] [qd2,(.int .i64),(.int .i64)] fun (x:Els [.str,(.int .i64)])=>m x.1 x.2.1
def vm5 (N:Nat):Ent:=uv2 (j82 N)
theorem uj7 (N:Nat):q17 Tryz.prog 64 (vm5 N):=q16 (kt2 N) Tryz.func64 rfl (by kernel_rfl) fun (x:Els [.str,(.int .i64)])=>kd4 N x.1 x.2.1
def vl4 :LH:=⟨[(0,.str),(3,.asis),(5,.own qd2 505 105 7),(6,.asis),(7,.int .i64),(8,.int .i64),(9,.int .i64)],[],[.cells [.int .i64,.int .i64],.cells [.int .i64,.int .i64]]⟩
def up6 :LH:=⟨[(0,.str),(3,.asis),(5,.own qd2 505 105 7),(6,.asis),(7,.int .i64),(8,.int .i64),(9,.int .i64)],[],[.cells [.int .i64,.int .i64],.cells [.int .i64,.int .i64]]⟩
def zr7 :FH:=⟨[vl4,up6],[],[(4,⟨2,77,0,[],[]⟩),(21,⟨4,77,0,[(3,.store true 0)],[]⟩),(25,⟨3,77,0,[],[]⟩)],[],false,[],[]⟩
noncomputable def ud3 (N:Nat):q49:=tab [(64,vm5 N)]
theorem r6_Lex_Ts (N:Nat):q14 Tryz.prog (ud3 N):=q06 (uj7 N) <| q28 _
noncomputable def j58 :Sc:=wm4 Tryz.prog zr7
noncomputable def zk1 (N:Nat):Cfg:=⟨N,ud3 N,0⟩
noncomputable def u50 (N:Nat):Exit→List TV→List TOb→Option OX6:=fin Tryz.prog 0 Tryz.f29.results.toList (q42 [(.list qd2),w78,(.int .i64)])
def j40 (s:List UInt8)(qa4 qd7 q69 q80:Int)(e:List q33×Int×Int×Int):List TV:=match e with
 | (out,line,begin,at_)=>frm 77 [(0,.str s),(3,.ref 0 0),(5,.tl qd2 out (.own 505 105 7)),(6,.ref 1 0),(7,.int .i64 line),(8,.int .i64 begin),(9,.int .i64 at_)]
def j03 (s:List UInt8)(qa4 qd7 q69 q80:Int)(e:List q33×Int×Int×Int):List TOb:=match e with
 | (out,line,begin,at_)=>[.cells [.int .i64 qa4,.int .i64 qd7] 31 true,.cells [.int .i64 q69,.int .i64 q80] 31 true]
def vi5 (s:List UInt8)(out:List q33)(line begin qa4 qd7 q69 q80 e:Int):List TV:=match e with
 | at_1=>frm 77 [(0,.str s),(3,.ref 0 0),(5,.tl qd2 out (.own 505 105 7)),(6,.ref 1 0),(7,.int .i64 line),(8,.int .i64 begin),(9,.int .i64 at_1)]
def ve0 (s:List UInt8)(out:List q33)(line begin qa4 qd7 q69 q80 e:Int):List TOb:=match e with
 | at_1=>[.cells [.int .i64 qa4,.int .i64 qd7] 31 true,.cells [.int .i64 q69,.int .i64 q80] 31 true]
noncomputable def up2 (N:Nat)(K0r:List TV→List TOb→Option OX6):(List TV→List TOb→Option OX6)→List TV→List TOb→Option OX6:=w66 DR j58 (zk1 N) (qm3 (qc6 (q88 (yu6 (q08 (zh9 (q08 (zh9 (q08 (qc6 (q08 (q88 (qc6 (q08 (qm3 (qc6 (q88 (q08 (q08 (q08 (q08 (q08 (q08 (q13 Tryz.f29)))))))))))))))))))))))) up6 (zr7.loops.drop 2) (qj9 3 (qc5 DR j58 (zk1 N) (q08 (yu6 (q08 (zh9 (q08 (zh9 (q08 (qc6 (q08 (q88 (qc6 (q08 (qm3 (qc6 (q88 (q08 (q08 (q08 (q08 (q08 (q08 (q13 Tryz.f29)))))))))))))))))))))) (zr7.loops.drop 2) (qj9 2 (qc5 DR j58 (zk1 N) (q08 (qc6 (q08 (qm3 (qc6 (q88 (q08 (q08 (q08 (q08 (q08 (q08 (q13 Tryz.f29))))))))))))) (zr7.loops.drop 2) (qj9 1 (ug3 (zk1 N) vl4 (qj9 0 (qc5 DR j58 (zk1 N) (q08 (q08 (q08 (q08 (q08 (q08 (q08 (q13 Tryz.f29)))))))) (zr7.loops.drop 2) (u50 N))) K0r))))))
def zz9 (N:Nat)(s:List UInt8)(out:List q33)(line begin qa4 qd7 q69 q80:Int)(K0:(List q33×Int×Int×Int)→Option OX6)(K1:Int→Option OX6)(e:Int):Option OX6 :=
 match e with
 | at_1 =>
  bif decide (at_1 < (s.length:Int)) then
   bif inR at_1 s.length then
   bif ((q38 s at_1) != 10) then
    bif q27 (at_1 + 1) then
    K1 (at_1 + 1)
    else none
   else
    K0 (out,line,begin,at_1)
   else none
  else
   K0 (out,line,begin,at_1)
theorem r6_Lex_l2 (N:Nat)(s:List UInt8)(out:List q33)(line begin qa4 qd7 q69 q80:Int)(K0r:List TV→List TOb→Option OX6)(n_:Nat)(e:Int):q58 (up2 N K0r) n_ ((vi5 s out line begin qa4 qd7 q69 q80) e) ((ve0 s out line begin qa4 qd7 q69 q80) e)=q87 (zz9 N s out line begin qa4 qd7 q69 q80 (fun a=>K0r (j40 s qa4 qd7 q69 q80 a) (j03 s qa4 qd7 q69 q80 a))) n_ e :=
 q41 (vi5 s out line begin qa4 qd7 q69 q80) (ve0 s out line begin qa4 qd7 q69 q80) (by intro K e; kernel_rfl) n_ e
noncomputable def v72 (N:Nat):(List TV→List TOb→Option OX6)→List TV→List TOb→Option OX6:=w66 DR j58 (zk1 N) (qm3 (qc6 (q88 (q08 (q08 (q08 (q08 (q08 (q08 (q13 Tryz.f29)))))))))) vl4 (zr7.loops.drop 1) (qj9 0 (qc5 DR j58 (zk1 N) (q08 (q08 (q08 (q08 (q08 (q08 (q08 (q13 Tryz.f29)))))))) (zr7.loops.drop 2) (u50 N)))
def y96 (N:Nat)(s:List UInt8)(qa4 qd7 q69 q80:Int)(l2:(List UInt8)→(List q33)→Int→Int→Int→Int→Int→Int→Int→Option OX6)(K0:(List q33×Int×Int×Int)→Option OX6)(e:List q33×Int×Int×Int):Option OX6 :=
 match e with
 | (out,line,begin,at_) =>
  bif decide (at_ < (s.length:Int)) then
   bif inR at_ s.length then
   bif ((q38 s at_) == 32) then
    bif q27 (at_ + 1) then
    K0 (out,line,begin,at_ + 1)
    else none
   else
    bif ((q38 s at_) == 10) then
     bif q27 (at_ + 1) then
     bif q27 (line + 1) then
     K0 (out,line + 1,at_ + 1,at_ + 1)
     else none
     else none
    else
     bif ((q38 s at_) == 59) then
      l2 s out line begin qa4 qd7 q69 q80 at_
     else
      bif q27 (at_ - begin) then
      bif q27 ((at_ - begin) + 1) then
      (j82 N s at_).bind fun r =>
      bif (r.2.2.1 != 0) then
       some ([],(line,(at_ - begin) + 1,()),r.2.2.1,())
      else
       bif w33 (out.length + ([(r.1.1,r.1.2.1,r.1.2.2.1,(line,(at_ - begin) + 1,()),())]:List q33).length) 1954687338268 then
       K0 ((out ++ ([(r.1.1,r.1.2.1,r.1.2.2.1,(line,(at_ - begin) + 1,()),())]:List q33)),line,begin,r.2.1)
       else none
      else none
      else none
   else none
  else
   some (out,(q69,q80,()),0,())
def zn1 (N:Nat)(s:List UInt8)(qa4 qd7 q69 q80:Int)(K0:(List q33×Int×Int×Int)→Option OX6)(e:List q33×Int×Int×Int):Option OX6:=y96 N s qa4 qd7 q69 q80 (fun s out line begin qa4 qd7 q69 q80 e=>q87 (zz9 N s out line begin qa4 qd7 q69 q80 K0) N e) K0 e
theorem r6_Lex_l1 (N:Nat)(s:List UInt8)(qa4 qd7 q69 q80:Int)(n_:Nat)(e:List q33×Int×Int×Int):q58 (v72 N ) n_ ((j40 s qa4 qd7 q69 q80) e) ((j03 s qa4 qd7 q69 q80) e)=q87 (zn1 N s qa4 qd7 q69 q80 ) n_ e :=
 q41 (j40 s qa4 qd7 q69 q80) (j03 s qa4 qd7 q69 q80) (by
  intro K e
  have h:(v72 N ) K ((j40 s qa4 qd7 q69 q80) e) ((j03 s qa4 qd7 q69 q80) e)=y96 N s qa4 qd7 q69 q80 (fun s out line begin qa4 qd7 q69 q80 e=>q58 (up2 N K) N (vi5 s out line begin qa4 qd7 q69 q80 e) (ve0 s out line begin qa4 qd7 q69 q80 e)) (fun e=>K ((j40 s qa4 qd7 q69 q80) e) ((j03 s qa4 qd7 q69 q80) e)) e:=by obtain ⟨out,line,begin,at_⟩:=e; kernel_rfl
  rw [h]
  simp only [zn1,r6_Lex_l2] <;> rfl) n_ e
def v17 (N:Nat)(s:List UInt8)(l1:(List UInt8)→Int→Int→Int→Int→(List q33×Int×Int×Int)→Option OX6):Option OX6 :=
 bif decide ((s.length:Int) > 65536) then
  some ([],(0,0,()),3,())
 else
  l1 s 0 0 0 0 ([],1,0,0)
def jk4 (N:Nat)(s:List UInt8):Option OX6:=v17 N s (fun s qa4 qd7 q69 q80 e=>q87 (zn1 N s qa4 qd7 q69 q80) N e)
noncomputable def km2 (N:Nat)(s:List UInt8):Option (RT [(.list qd2),w78,(.int .i64)]):=q24 DR Tryz.prog N (ud3 N) zr7 Tryz.f29 (q13 Tryz.f29) (RT [(.list qd2),w78,(.int .i64)]) (qd4 [.str] (s,())) [] (q42 [(.list qd2),w78,(.int .i64)])
theorem ks5 (N:Nat)(s:List UInt8):km2 N s=jk4 N s:=by
 have h:km2 N s=v17 N s (fun s qa4 qd7 q69 q80 e=>q58 (v72 N ) N (j40 s qa4 qd7 q69 q80 e) (j03 s qa4 qd7 q69 q80 e)):=by kernel_rfl
 rw [h]
 simp only [jk4,r6_Lex_l1] <;> rfl
def kg6 (m:(List UInt8)→Option OX6):Ent:=q37 [.str] [(.list qd2),w78,(.int .i64)] fun (x:Els [.str])=>m x.1
def vz4 (N:Nat):Ent:=kg6 (jk4 N)
theorem uw4 (N:Nat):q17 Tryz.prog 29 (vz4 N):=q16 (r6_Lex_Ts N) Tryz.func29 rfl (by kernel_rfl) fun (x:Els [.str])=>ks5 N x.1
def vb7 :FH:=⟨[],[],[(1,⟨8,21,0,[(7,.app 2003)],[]⟩)],[],false,[],[]⟩
noncomputable def jv0 (N:Nat):q49:=tab []
theorem xy0 (N:Nat):q14 Tryz.prog (jv0 N):=q28 _
def qp4 (N:Nat)(q43:List q33)(q23 q19:Int)(q65:List q20)(q79 q29:Int)(n:q20):Option OX0 :=
 bif w33 (q65.length + ([n]:List q20).length) 1466015503701 then
 bif q27 (((q65 ++ ([n]:List q20)).length:Int) - 1) then
 some (((q43,q23,q19,(q65 ++ ([n]:List q20)),q79,q29,()),()),(((q65 ++ ([n]:List q20)).length:Int) - 1,()))
 else none
 else none
abbrev qn3 :yq3:=⟨[.ref 0,.val q81],[.cells [.val (.list qd2),.val (.int .i64),.val (.int .i64),.own q81 2003 54 8,.val (.int .i64),.val (.int .i64)] 161],[.arg 0 []],[.val (.int .i64)],true⟩
noncomputable def vl8 (N:Nat)(q43:List q33)(q23 q19:Int)(q65:List q20)(q79 q29:Int)(n:q20):Option (ObR qn3):=q24 DR Tryz.prog N (jv0 N) vb7 Tryz.f145 (q13 Tryz.f145) (ObR qn3) (encX qn3 ((q43,q23,q19,q65,q79,q29,()),()) (n,())) (encY qn3 ((q43,q23,q19,q65,q79,q29,()),())) (kObj qn3)
theorem xe7 (N:Nat)(q43:List q33)(q23 q19:Int)(q65:List q20)(q79 q29:Int)(n:q20):vl8 N q43 q23 q19 q65 q79 q29 n=qp4 N q43 q23 q19 q65 q79 q29 n:=by kernel_rfl
def x47 (m:(List q33)→Int→Int→(List q20)→Int→Int→q20→Option OX0):Ent:=x73 qn3 fun (y:OX2×Unit) (x:Els [q81])=>m y.1.1 y.1.2.1 y.1.2.2.1 y.1.2.2.2.1 y.1.2.2.2.2.1 y.1.2.2.2.2.2.1 x.1
def w55 (N:Nat):Ent:=x47 (qp4 N)
theorem wf2 (N:Nat):q17 Tryz.prog 145 (w55 N):=z28 (xy0 N) Tryz.func145 rfl (by kernel_rfl) (by kernel_rfl) fun (y:OX2×Unit) (x:Els [q81])=>xe7 N y.1.1 y.1.2.1 y.1.2.2.1 y.1.2.2.2.1 y.1.2.2.2.2.1 y.1.2.2.2.2.2.1 x.1
def r7_Call_H :FH:=⟨[],[],[],[],false,[],[]⟩
noncomputable def uq4 (N:Nat):q49:=tab []
theorem kz2 (N:Nat):q14 Tryz.prog (uq4 N):=q28 _
def ja1 (N:Nat)(s:List UInt8):Option (Int×Int×Int×Unit) :=
 bif (s == ([97,98,115]:List UInt8)) then
  some (18,1,1,())
 else
  bif (s == ([109,105,110]:List UInt8)) then
   some (19,1,8,())
  else
   bif (s == ([109,97,120]:List UInt8)) then
    some (20,1,8,())
   else
    bif (s == ([109,111,100]:List UInt8)) then
     some (21,2,2,())
    else
     bif (s == ([108,101,110,103,116,104]:List UInt8)) then
      some (22,1,1,())
     else
      bif (s == ([117,112,112,101,114]:List UInt8)) then
       some (23,1,1,())
      else
       bif (s == ([99,111,110,116,97,105,110,115]:List UInt8)) then
        some (24,2,2,())
       else
        bif (s == ([115,116,97,114,116,115]:List UInt8)) then
         some (25,2,2,())
        else
         bif (s == ([105,102]:List UInt8)) then
          some (26,3,3,())
         else
          some (0,0,0,())
noncomputable def r7_Call_C (N:Nat)(s:List UInt8):Option (RT [(.int .u8),(.int .i64),(.int .i64)]):=q24 DR Tryz.prog N (uq4 N) r7_Call_H Tryz.f206 (q13 Tryz.f206) (RT [(.int .u8),(.int .i64),(.int .i64)]) (qd4 [.str] (s,())) [] (q42 [(.int .u8),(.int .i64),(.int .i64)])
theorem k67 (N:Nat)(s:List UInt8):r7_Call_C N s=ja1 N s:=by kernel_rfl
def un8 (m:(List UInt8)→Option (Int×Int×Int×Unit)):Ent:=q37 [.str] [(.int .u8),(.int .i64),(.int .i64)] fun (x:Els [.str])=>m x.1
def vk2 (N:Nat):Ent:=un8 (ja1 N)
theorem ul1 (N:Nat):q17 Tryz.prog 206 (vk2 N):=q16 (kz2 N) Tryz.func206 rfl (by kernel_rfl) fun (x:Els [.str])=>k67 N x.1
def xz4 :FH:=⟨[],[],[(1,⟨32,52,0,[],[]⟩),(2,⟨8,52,0,[],[]⟩)],[],false,[],[]⟩
noncomputable def jk1 (N:Nat):q49:=tab []
theorem xi3 (N:Nat):q14 Tryz.prog (jk1 N):=q28 _
def qa0 (N:Nat)(r_L:List q33)(wd5 qj3:Int)(r_T:List q20)(r_E zg3:Int):Option (List UInt8) :=
 bif decide (wd5 < (r_L.length:Int)) then
  bif inR wd5 r_L.length then
  bif (((q25 r_L wd5 q31).1) == 1) then
   bif inR wd5 r_L.length then
   some ((q25 r_L wd5 q31).2.1)
   else none
  else
   bif inR wd5 r_L.length then
   bif (((q25 r_L wd5 q31).1) == 7) then
    bif inR wd5 r_L.length then
    some ((q25 r_L wd5 q31).2.1)
    else none
   else
    some []
   else none
  else none
 else
  some []
abbrev j18 :List PK:=[.ep 6,.val (.list qd2),.val (.int .i64),.val (.int .i64),.val (.list q81),.val (.int .i64),.val (.int .i64)]
noncomputable def v01 (N:Nat)(r_L:List q33)(wd5 qj3:Int)(r_T:List q20)(r_E zg3:Int):Option (RT [.str]):=q24 DR Tryz.prog N (jk1 N) xz4 Tryz.f143 (q13 Tryz.f143) (RT [.str]) (qy6 j18 (r_L,wd5,qj3,r_T,r_E,zg3,())) [] (q42 [.str])
theorem x51 (N:Nat)(r_L:List q33)(wd5 qj3:Int)(r_T:List q20)(r_E zg3:Int):v01 N r_L wd5 qj3 r_T r_E zg3=qa0 N r_L wd5 qj3 r_T r_E zg3:=by kernel_rfl
def yr2 (m:(List q33)→Int→Int→(List q20)→Int→Int→Option (List UInt8)):Ent:=qf3 j18 [.str] fun (x:Els [(.list qd2),(.int .i64),(.int .i64),(.list q81),(.int .i64),(.int .i64)])=>m x.1 x.2.1 x.2.2.1 x.2.2.2.1 x.2.2.2.2.1 x.2.2.2.2.2.1
def qn5 (N:Nat):Ent:=yr2 (qa0 N)
theorem qq3 (N:Nat):q17 Tryz.prog 143 (qn5 N):=q52 (xi3 N) Tryz.func143 rfl (by kernel_rfl) (by kernel_rfl) fun (x:Els [(.list qd2),(.int .i64),(.int .i64),(.list q81),(.int .i64),(.int .i64)])=>x51 N x.1 x.2.1 x.2.2.1 x.2.2.2.1 x.2.2.2.2.1 x.2.2.2.2.2.1
noncomputable def zs5 (N:Nat):q49:=tab []
theorem yq5 (N:Nat):q14 Tryz.prog (zs5 N):=q28 _
noncomputable def qi6 (N:Nat):Ent:=z63 Tryz.prog N (zs5 N) ⟨[],[],[],[],false,[],[]⟩ Tryz.f205 (q13 Tryz.f205)
theorem ql8 (N:Nat):q17 Tryz.prog 205 (qi6 N):=qb4 (yq5 N) Tryz.func205 rfl (by kernel_rfl)
def xw8 :FH:=⟨[],[],[],[],false,[143],[]⟩
noncomputable def jj9 (N:Nat):q49:=tab [(143,qn5 N),(205,qi6 N)]
theorem xc6 (N:Nat):q14 Tryz.prog (jj9 N):=q06 (qq3 N) <| q06 (ql8 N) <| q28 _
def qj4 (N:Nat)(q43:List q33)(q23 q19:Int)(q65:List q20)(q79 q29:Int)(s:List UInt8):Option (OX1×(Unit)) :=
 bif (q79 == 0) then
  (qa0 N q43 q23 q19 q65 q79 q29).bind fun r =>
  bif (!(r == s)) then
   bif (q79 == 0) then
    some (((q43,q23,q19,q65,4,q23,()),()),())
   else
    bif (q79 == 0) then
     bif q27 (q23 + 1) then
     some (((q43,q23 + 1,q19,q65,q79,q29,()),()),())
     else none
    else
     some (((q43,q23,q19,q65,q79,q29,()),()),())
  else
   bif (q79 == 0) then
    bif q27 (q23 + 1) then
    some (((q43,q23 + 1,q19,q65,q79,q29,()),()),())
    else none
   else
    some (((q43,q23,q19,q65,q79,q29,()),()),())
 else
  bif (q79 == 0) then
   bif q27 (q23 + 1) then
   some (((q43,q23 + 1,q19,q65,q79,q29,()),()),())
   else none
  else
   some (((q43,q23,q19,q65,q79,q29,()),()),())
abbrev qk5 :yq3:=⟨[.ref 0,.val .str],[.cells [.val (.list qd2),.val (.int .i64),.val (.int .i64),.own q81 2003 54 8,.val (.int .i64),.val (.int .i64)] 161],[.arg 0 []],[],false⟩
noncomputable def v06 (N:Nat)(q43:List q33)(q23 q19:Int)(q65:List q20)(q79 q29:Int)(s:List UInt8):Option (ObR qk5):=q24 DR Tryz.prog N (jj9 N) xw8 Tryz.f208 (q13 Tryz.f208) (ObR qk5) (encX qk5 ((q43,q23,q19,q65,q79,q29,()),()) (s,())) (encY qk5 ((q43,q23,q19,q65,q79,q29,()),())) (kObj qk5)
theorem x82 (N:Nat)(q43:List q33)(q23 q19:Int)(q65:List q20)(q79 q29:Int)(s:List UInt8):v06 N q43 q23 q19 q65 q79 q29 s=qj4 N q43 q23 q19 q65 q79 q29 s:=by kernel_rfl
def yt5 (m:(List q33)→Int→Int→(List q20)→Int→Int→(List UInt8)→Option (OX1×(Unit))):Ent:=x73 qk5 fun (y:OX2×Unit) (x:Els [.str])=>m y.1.1 y.1.2.1 y.1.2.2.1 y.1.2.2.2.1 y.1.2.2.2.2.1 y.1.2.2.2.2.2.1 x.1
def wk6 (N:Nat):Ent:=yt5 (qj4 N)
theorem z77 (N:Nat):q17 Tryz.prog 208 (wk6 N):=z28 (xc6 N) Tryz.func208 rfl (by kernel_rfl) (by kernel_rfl) fun (y:OX2×Unit) (x:Els [.str])=>x82 N y.1.1 y.1.2.1 y.1.2.2.1 y.1.2.2.2.1 y.1.2.2.2.2.1 y.1.2.2.2.2.2.1 x.1
noncomputable def zj5 (N:Nat):q49:=tab []
theorem ye2 (N:Nat):q14 Tryz.prog (zj5 N):=q28 _
noncomputable def w18 (N:Nat):Ent:=z63 Tryz.prog N (zj5 N) ⟨[],[],[(1,⟨9,25,0,[],[]⟩),(2,⟨8,25,0,[],[]⟩)],[],false,[],[]⟩ Tryz.f142 (q13 Tryz.f142)
theorem wi1 (N:Nat):q17 Tryz.prog 142 (w18 N):=qb4 (ye2 N) Tryz.func142 rfl (by kernel_rfl)
noncomputable def zd8 (N:Nat):q49:=tab [(205,qi6 N)]
theorem jr0 (N:Nat):q14 Tryz.prog (zd8 N):=q06 (ql8 N) <| q28 _
noncomputable def ql9 (N:Nat):Ent:=z63 Tryz.prog N (zd8 N) ⟨[],[],[],[],false,[],[]⟩ Tryz.f144 (q13 Tryz.f144)
theorem qr0 (N:Nat):q17 Tryz.prog 144 (ql9 N):=qb4 (jr0 N) Tryz.func144 rfl (by kernel_rfl)
def vp8 :LH:=⟨[(0,.int .i64),(1,.str),(5,.lst (.list .str)),(6,.lst (.int .u8)),(7,.int .i64)],[],[]⟩
def y78 :FH:=⟨[vp8],[],[],[],false,[],[]⟩
noncomputable def xb6 (N:Nat):q49:=tab []
theorem ka4 (N:Nat):q14 Tryz.prog (xb6 N):=q28 _
noncomputable def v50 :Sc:=wm4 Tryz.prog y78
noncomputable def ve3 (N:Nat):Cfg:=⟨N,xb6 N,0⟩
noncomputable def uu6 (N:Nat):Exit→List TV→List TOb→Option Int:=fin Tryz.prog 0 Tryz.f146.results.toList (q42 [(.int .u8)])
def yn4 (level:Int)(s:List UInt8)(words:List (List (List UInt8)))(first:List Int)(e:Int):List TV:=match e with
 | i=>frm 40 [(0,.int .i64 level),(1,.str s),(5,.tl (.list .str) words .unk),(6,.tl (.int .u8) first .unk),(7,.int .i64 i)]
def yq0 (level:Int)(s:List UInt8)(words:List (List (List UInt8)))(first:List Int)(e:Int):List TOb:=match e with
 | i=>[]
noncomputable def vk5 (N:Nat):(List TV→List TOb→Option Int)→List TV→List TOb→Option Int:=w66 DR v50 (ve3 N) (qm3 (qc6 (q08 (q88 (q08 (q08 (q08 (q13 Tryz.f146)))))))) vp8 (y78.loops.drop 1) (qj9 0 (qc5 DR v50 (ve3 N) (q08 (q08 (q08 (q08 (q13 Tryz.f146))))) (y78.loops.drop 1) (uu6 N)))
def yn6 (N:Nat)(level:Int)(s:List UInt8)(words:List (List (List UInt8)))(first:List Int)(K0:Int→Option Int)(e:Int):Option Int :=
 match e with
 | i =>
  bif inR level words.length then
  bif decide (i < ((q25 words level []).length:Int)) then
   bif inR level words.length then
   bif inR i (q25 words level []).length then
   bif ((q25 (q25 words level []) i []) == s) then
    bif inR level first.length then
    some (IntKind.u8.wrap ((q25 first level 0) + (IntKind.u8.wrap i)))
    else none
   else
    bif q27 (i + 1) then
    K0 (i + 1)
    else none
   else none
   else none
  else
   some 0
  else none
theorem kd9 (N:Nat)(level:Int)(s:List UInt8)(words:List (List (List UInt8)))(first:List Int)(n_:Nat)(e:Int):q58 (vk5 N ) n_ ((yn4 level s words first) e) ((yq0 level s words first) e)=q87 (yn6 N level s words first ) n_ e :=
 q41 (yn4 level s words first) (yq0 level s words first) (by intro K e; kernel_rfl) n_ e
def xk5 (N:Nat)(level:Int)(s:List UInt8)(l1:Int→(List UInt8)→(List (List (List UInt8)))→(List Int)→Int→Option Int):Option Int :=
 l1 level s ([[[111,114]],[[97,110,100]],[],[[61],[60,62],[60],[60,61],[62],[62,61]],[[43],[45]],[[42],[47]],[]]) [4,5,0,7,13,15,0] 0
def j99 (N:Nat)(level:Int)(s:List UInt8):Option Int:=xk5 N level s (fun level s words first e=>q87 (yn6 N level s words first) N e)
noncomputable def u24 (N:Nat)(level:Int)(s:List UInt8):Option (RT [(.int .u8)]):=q24 DR Tryz.prog N (xb6 N) y78 Tryz.f146 (q13 Tryz.f146) (RT [(.int .u8)]) (qd4 [(.int .i64),.str] (level,s,())) [] (q42 [(.int .u8)])
theorem uz0 (N:Nat)(level:Int)(s:List UInt8):u24 N level s=j99 N level s:=by
 have h:u24 N level s=xk5 N level s (fun level s words first e=>q58 (vk5 N ) N (yn4 level s words first e) (yq0 level s words first e)):=by kernel_rfl
 rw [h]
 simp only [j99,kd9] <;> rfl
def ue7 (m:Int→(List UInt8)→Option Int):Ent:=q37 [(.int .i64),.str] [(.int .u8)] fun (x:Els [(.int .i64),.str])=>m x.1 x.2.1
def xr8 (N:Nat):Ent:=ue7 (j99 N)
theorem vt6 (N:Nat):q17 Tryz.prog 146 (xr8 N):=q16 (ka4 N) Tryz.func146 rfl (by kernel_rfl) fun (x:Els [(.int .i64),.str])=>uz0 N x.1 x.2.1
end Go.Proofs.YtgicljncknbgcaaGreat.Abs
