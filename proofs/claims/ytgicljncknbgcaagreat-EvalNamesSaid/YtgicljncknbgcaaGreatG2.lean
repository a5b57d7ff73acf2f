/- The functions of the program, told on typed values, printed by a program: each tells what the reckoning of its body tells. -/
import Derived.Test.YtgicljncknbgcaaGreatL7
import Derived.Test.YtgicljncknbgcaaGreatG0
import Derived.Test.YtgicljncknbgcaaGreatLA
import Derived.Test.YtgicljncknbgcaaGreatProg
set_option linter.unusedVariables false
set_option linter.unusedSimpArgs false
set_option linter.unusedSectionVars false
namespace Go.Proofs.YtgicljncknbgcaaGreat.Abs
set_option maxRecDepth 100000
open Go Go.Proofs
def xp3 : LH := ⟨[(1, .int .i64), (5, .str), (6, .asis)], [], [.cells [.bool, .lst (.int .i64)], .cells [.bool, .lst (.int .i64)]]⟩
def jb8 : FH := ⟨[xp3], [], [(4, ⟨9, 46, 2, [(6, .alloc 0), (7, .alloc 1), (8, .store true 2)], []⟩)], [], false, [], []⟩
noncomputable def yl7 (N : Nat) : q52 := tab [(209, zv9 N), (239, vw4 N)]
theorem ux1 (N : Nat) : q14 Tryz.prog (yl7 N) := q06 (zm2 N) <| q06 (ux7 N) <| q26 _
noncomputable def xl4 : Sc := wl4 Tryz.prog jb8
noncomputable def xl3 (N : Nat) : Cfg := ⟨N, yl7 N, 0⟩
noncomputable def u10 (N : Nat) : Exit → List TV → List TOb → Option (List UInt8) := fin Tryz.prog 0 Tryz.f210.results.toList (q42 [.str])
def jy6 (least : Int) (zp7 : Bool) (kj9 : List Int) (e : List UInt8 × Bool × List Int) : List TV := match e with
 | (s, left_Neg, left_D) => frm 46 [(1, .int .i64 least), (5, .str s), (6, .ref 1 0)]
def jq1 (least : Int) (zp7 : Bool) (kj9 : List Int) (e : List UInt8 × Bool × List Int) : List TOb := match e with
 | (s, left_Neg, left_D) => [.cells [.bool zp7, .tl (.int .i64) kj9 .unk] 265 true, .cells [.bool left_Neg, .tl (.int .i64) left_D .unk] 265 true]
noncomputable def xi1 (N : Nat) : (List TV → List TOb → Option (List UInt8)) → List TV → List TOb → Option (List UInt8) := w57 DR xl4 (xl3 N) (ql8 (qc7 (q92 (q07 (q07 (q07 (q10 Tryz.f210))))))) xp3 (jb8.loops.drop 1) (qj4 0 (qc5 DR xl4 (xl3 N) (q07 (q07 (q07 (q07 (q10 Tryz.f210))))) (jb8.loops.drop 1) (u10 N)))
def jn7 (N : Nat) (least : Int) (zp7 : Bool) (kj9 : List Int) (K0 : (List UInt8 × Bool × List Int) → Option (List UInt8)) (e : List UInt8 × Bool × List Int) : Option (List UInt8) :=
 match e with
 | (s, left_Neg, left_D) =>
  bif decide ((left_D.length : Int) > 0) then
   (qy9 N 10).bind fun r =>
   (xj6 N (left_Neg, left_D, ()) r).bind fun r1 =>
   bif decide ((r1.2.1.2.1.length : Int) > 0) then
    bif inR 0 r1.2.1.2.1.length then
    bif q27 (48 + (q25 r1.2.1.2.1 0 0)) then
    bif wg4 (qy4 [(IntKind.u8.wrap (48 + (q25 r1.2.1.2.1 0 0)))]) s then
    K0 (((qy4 [(IntKind.u8.wrap (48 + (q25 r1.2.1.2.1 0 0)))]) ++ s), r1.1.1, r1.1.2.1)
    else none
    else none
    else none
   else
    bif wg4 (qy4 [(IntKind.u8.wrap 48)]) s then
    K0 (((qy4 [(IntKind.u8.wrap 48)]) ++ s), r1.1.1, r1.1.2.1)
    else none
  else
   bif decide ((s.length : Int) < least) then
    (qy9 N 10).bind fun r2 =>
    (xj6 N (left_Neg, left_D, ()) r2).bind fun r3 =>
    bif decide ((r3.2.1.2.1.length : Int) > 0) then
     bif inR 0 r3.2.1.2.1.length then
     bif q27 (48 + (q25 r3.2.1.2.1 0 0)) then
     bif wg4 (qy4 [(IntKind.u8.wrap (48 + (q25 r3.2.1.2.1 0 0)))]) s then
     K0 (((qy4 [(IntKind.u8.wrap (48 + (q25 r3.2.1.2.1 0 0)))]) ++ s), r3.1.1, r3.1.2.1)
     else none
     else none
     else none
    else
     bif wg4 (qy4 [(IntKind.u8.wrap 48)]) s then
     K0 (((qy4 [(IntKind.u8.wrap 48)]) ++ s), r3.1.1, r3.1.2.1)
     else none
   else
    some s
theorem ur6 (N : Nat) (least : Int) (zp7 : Bool) (kj9 : List Int) (n_ : Nat) (e : List UInt8 × Bool × List Int) : q61 (xi1 N ) n_ ((jy6 least zp7 kj9) e) ((jq1 least zp7 kj9) e) = q95 (jn7 N least zp7 kj9 ) n_ e :=
 q40 (jy6 least zp7 kj9) (jq1 least zp7 kj9) (by intro K e; obtain ⟨s, left_Neg, left_D⟩ := e; kernel_rfl) n_ e
def yq5 (N : Nat) (x : qa6) (least : Int) (l1 : Int → Bool → (List Int) → (List UInt8 × Bool × List Int) → Option (List UInt8)) : Option (List UInt8) :=
 l1 least x.1 x.2.1 ([], false, x.2.1)
def wt6 (N : Nat) (x : qa6) (least : Int) : Option (List UInt8) := yq5 N x least (fun least zp7 kj9 e => q95 (jn7 N least zp7 kj9) N e)
noncomputable def v82 (N : Nat) (x : qa6) (least : Int) : Option (RT [.str]) := q22 DR Tryz.prog N (yl7 N) jb8 Tryz.f210 (q10 Tryz.f210) (RT [.str]) (qd6 [ql6, (.int .i64)] (x, least, ())) [] (q42 [.str])
theorem u96 (N : Nat) (x : qa6) (least : Int) : v82 N x least = wt6 N x least := by
 have h : v82 N x least = yq5 N x least (fun least zp7 kj9 e => q61 (xi1 N ) N (jy6 least zp7 kj9 e) (jq1 least zp7 kj9 e)) := by kernel_rfl
 rw [h]
 simp only [wt6, ur6] <;> rfl
def vq5 (m : qa6 → Int → Option (List UInt8)) : Ent := q37 [ql6, (.int .i64)] [.str] fun (x : Els [ql6, (.int .i64)]) => m x.1 x.2.1
def yu9 (N : Nat) : Ent := vq5 (wt6 N)
theorem vd2 (N : Nat) : q16 Tryz.prog 210 (yu9 N) := q15 (ux1 N) Tryz.func210 rfl (by kernel_rfl) fun (x : Els [ql6, (.int .i64)]) => u96 N x.1 x.2.1
def vz1 : LH := ⟨[(4, .str), (5, .str), (6, .int .i64)], [], [.cells [.int .u8, .int .i64, .str], .cells [.bool, .lst (.int .i64)]]⟩
def y69 : LH := ⟨[(1, .asis), (7, .str), (8, .int .i64)], [], [.cells [.int .u8, .int .i64, .str], .cells [.bool, .lst (.int .i64)]]⟩
def qn5 : FH := ⟨[vz1, y69], [], [(17, ⟨14, 103, 0, [], []⟩)], [], false, [], [(7, ⟨[(1, .asis), (3, .asis), (4, .str)], [], [.cells [.int .u8, .int .i64, .str], .cells [.bool, .lst (.int .i64)]]⟩), (29, ⟨[(1, .asis), (7, .str), (8, .int .i64)], [], [.cells [.int .u8, .int .i64, .str], .cells [.bool, .lst (.int .i64)]]⟩), (30, ⟨[(1, .asis), (7, .str), (8, .int .i64)], [], [.cells [.int .u8, .int .i64, .str], .cells [.bool, .lst (.int .i64)]]⟩)]⟩
noncomputable def ve6 (N : Nat) : q52 := tab [(14, xb3 N), (209, zv9 N), (210, yu9 N)]
theorem kt5 (N : Nat) : q14 Tryz.prog (ve6 N) := q06 (xq3 N) <| q06 (zm2 N) <| q06 (vd2 N) <| q26 _
noncomputable def qg2 : Sc := wl4 Tryz.prog qn5
noncomputable def qd5 (N : Nat) : Cfg := ⟨N, ve6 N, 0⟩
noncomputable def zg4 (N : Nat) : Exit → List TV → List TOb → Option (List UInt8) := fin Tryz.prog 0 Tryz.f148.results.toList (q42 [.str])
def xa9 (q44 v_N : Int) (v_S : List UInt8) (q33 : Bool) (x_D : List Int) (e : List UInt8) : List TV := match e with
 | sign => frm 103 [(1, .ref 0 0), (3, .ref 1 0), (4, .str sign)]
def xh8 (q44 v_N : Int) (v_S : List UInt8) (q33 : Bool) (x_D : List Int) (e : List UInt8) : List TOb := match e with
 | sign => [.cells [.int .u8 q44, .int .i64 v_N, .str v_S] 26 true, .cells [.bool q33, .tl (.int .i64) x_D .unk] 265 true]
def wg2 (q44 v_N : Int) (v_S : List UInt8) (q33 : Bool) (x_D : List Int) (e : List UInt8 × Int) : List TV := match e with
 | (s, i) => frm 103 [(1, .ref 0 0), (7, .str s), (8, .int .i64 i)]
def wg0 (q44 v_N : Int) (v_S : List UInt8) (q33 : Bool) (x_D : List Int) (e : List UInt8 × Int) : List TOb := match e with
 | (s, i) => [.cells [.int .u8 q44, .int .i64 v_N, .str v_S] 26 true, .cells [.bool q33, .tl (.int .i64) x_D .unk] 265 true]
def xe6 (s : List UInt8) (i q44 v_N : Int) (v_S : List UInt8) (q33 : Bool) (x_D : List Int) (e : Unit) : List TV := frm 103 [(1, .ref 0 0), (7, .str s), (8, .int .i64 i)]
def xg7 (s : List UInt8) (i q44 v_N : Int) (v_S : List UInt8) (q33 : Bool) (x_D : List Int) (e : Unit) : List TOb := [.cells [.int .u8 q44, .int .i64 v_N, .str v_S] 26 true, .cells [.bool q33, .tl (.int .i64) x_D .unk] 265 true]
def xg8 (i q44 v_N : Int) (v_S : List UInt8) (q33 : Bool) (x_D : List Int) (e : List UInt8) : List TV := match e with
 | s1 => frm 103 [(1, .ref 0 0), (7, .str s1), (8, .int .i64 i)]
def xf2 (i q44 v_N : Int) (v_S : List UInt8) (q33 : Bool) (x_D : List Int) (e : List UInt8) : List TOb := match e with
 | s1 => [.cells [.int .u8 q44, .int .i64 v_N, .str v_S] 26 true, .cells [.bool q33, .tl (.int .i64) x_D .unk] 265 true]
def x56 (sign r3 : List UInt8) (q44 v_N : Int) (v_S : List UInt8) (q33 : Bool) (x_D : List Int) (e : Int) : List TV := match e with
 | end_ => frm 103 [(4, .str sign), (5, .str r3), (6, .int .i64 end_)]
def xd7 (sign r3 : List UInt8) (q44 v_N : Int) (v_S : List UInt8) (q33 : Bool) (x_D : List Int) (e : Int) : List TOb := match e with
 | end_ => [.cells [.int .u8 q44, .int .i64 v_N, .str v_S] 26 true, .cells [.bool q33, .tl (.int .i64) x_D .unk] 265 true]
noncomputable def vx3 (N : Nat) : (List TV → List TOb → Option (List UInt8)) → List TV → List TOb → Option (List UInt8) := w57 DR qg2 (qd5 N) (ql8 (qc7 (q92 (q07 (q07 (yq9 (q07 (zf4 (q07 (zf4 (q07 (qc7 (q07 (q92 (q07 (q07 (q07 (q07 (q07 (q10 Tryz.f148)))))))))))))))))))) vz1 (qn5.loops.drop 1) (qj4 1 (qc5 DR qg2 (qd5 N) (q07 (q07 (q07 (yq9 (q07 (zf4 (q07 (zf4 (q07 (qc7 (q07 (q92 (q07 (q07 (q07 (q07 (q07 (q10 Tryz.f148)))))))))))))))))) (qn5.loops.drop 1) (qj4 0 (qc5 DR qg2 (qd5 N) (q07 (q07 (q07 (q07 (q07 (q07 (q10 Tryz.f148))))))) (qn5.loops.drop 1) (zg4 N)))))
def xe8 (N : Nat) (sign r3 : List UInt8) (q44 v_N : Int) (v_S : List UInt8) (q33 : Bool) (x_D : List Int) (K0 : Int → Option (List UInt8)) (e : Int) : Option (List UInt8) :=
 match e with
 | end_ =>
  bif q27 ((r3.length : Int) - 3) then
  bif decide (end_ > ((r3.length : Int) - 3)) then
   bif q27 (end_ - 1) then
   bif inR (end_ - 1) r3.length then
   bif ((q38 r3 (end_ - 1)) == 48) then
    bif q27 (end_ - 1) then
    K0 (end_ - 1)
    else none
   else
    bif q27 ((r3.length : Int) - 4) then
    bif upTo ((r3.length : Int) - 4) r3.length then
    bif wg4 sign (r3.take ((r3.length : Int) - 4).toNat) then
    bif wg4 (sign ++ (r3.take ((r3.length : Int) - 4).toNat)) ([46] : List UInt8) then
    bif q27 ((r3.length : Int) - 4) then
    bif inB ((r3.length : Int) - 4) end_ r3.length then
    bif wg4 ((sign ++ (r3.take ((r3.length : Int) - 4).toNat)) ++ ([46] : List UInt8)) ((r3.take end_.toNat).drop ((r3.length : Int) - 4).toNat) then
    some (((sign ++ (r3.take ((r3.length : Int) - 4).toNat)) ++ ([46] : List UInt8)) ++ ((r3.take end_.toNat).drop ((r3.length : Int) - 4).toNat))
    else none
    else none
    else none
    else none
    else none
    else none
    else none
   else none
   else none
  else
   bif q27 ((r3.length : Int) - 4) then
   bif upTo ((r3.length : Int) - 4) r3.length then
   bif wg4 sign (r3.take ((r3.length : Int) - 4).toNat) then
   bif wg4 (sign ++ (r3.take ((r3.length : Int) - 4).toNat)) ([46] : List UInt8) then
   bif q27 ((r3.length : Int) - 4) then
   bif inB ((r3.length : Int) - 4) end_ r3.length then
   bif wg4 ((sign ++ (r3.take ((r3.length : Int) - 4).toNat)) ++ ([46] : List UInt8)) ((r3.take end_.toNat).drop ((r3.length : Int) - 4).toNat) then
   some (((sign ++ (r3.take ((r3.length : Int) - 4).toNat)) ++ ([46] : List UInt8)) ++ ((r3.take end_.toNat).drop ((r3.length : Int) - 4).toNat))
   else none
   else none
   else none
   else none
   else none
   else none
   else none
  else none
theorem kp7 (N : Nat) (sign r3 : List UInt8) (q44 v_N : Int) (v_S : List UInt8) (q33 : Bool) (x_D : List Int) (n_ : Nat) (e : Int) : q61 (vx3 N ) n_ ((x56 sign r3 q44 v_N v_S q33 x_D) e) ((xd7 sign r3 q44 v_N v_S q33 x_D) e) = q95 (xe8 N sign r3 q44 v_N v_S q33 x_D ) n_ e :=
 q40 (x56 sign r3 q44 v_N v_S q33 x_D) (xd7 sign r3 q44 v_N v_S q33 x_D) (by intro K e; kernel_rfl) n_ e
noncomputable def xe3 (N : Nat) (K0r : List TV → List TOb → Option (List UInt8)) : List TV → List TOb → Option (List UInt8) := yz2 DR qg2 (qd5 N) (q07 (qc7 (q92 (q07 (ql8 (qc7 (q07 (q92 (q07 (q07 (q07 (q07 (q07 (q07 (q07 (q10 Tryz.f148)))))))))))))))) (qj4 4 (qc5 DR qg2 (qd5 N) (q07 (q07 (ql8 (qc7 (q07 (q92 (q07 (q07 (q07 (q07 (q07 (q07 (q07 (q10 Tryz.f148)))))))))))))) (qn5.loops.drop 2) (u83 (qd5 N) y69 (qj4 3 (qc5 DR qg2 (qd5 N) (q07 (q07 (q07 (q07 (q07 (q07 (q07 (q07 (q10 Tryz.f148))))))))) (qn5.loops.drop 2) (zg4 N))) K0r)))
def zx3 (N : Nat) (i q44 v_N : Int) (v_S : List UInt8) (q33 : Bool) (x_D : List Int) (K0 : (List UInt8 × Int) → Option (List UInt8)) (e : List UInt8) : Option (List UInt8) :=
 match e with
 | s1 =>
  bif q27 (i + 1) then
  bif inB i (i + 1) v_S.length then
  bif wg4 s1 ((v_S.take (i + 1).toNat).drop i.toNat) then
  bif q27 (i + 1) then
  K0 ((s1 ++ ((v_S.take (i + 1).toNat).drop i.toNat)), i + 1)
  else none
  else none
  else none
  else none
theorem vs7 (N : Nat) (i q44 v_N : Int) (v_S : List UInt8) (q33 : Bool) (x_D : List Int) (K0r : List TV → List TOb → Option (List UInt8)) (e : List UInt8) : jmp N (xe3 N K0r) ((xg8 i q44 v_N v_S q33 x_D) e) ((xf2 i q44 v_N v_S q33 x_D) e) = at1 N (zx3 N i q44 v_N v_S q33 x_D (fun a => K0r (wg2 q44 v_N v_S q33 x_D a) (wg0 q44 v_N v_S q33 x_D a)) e) := qo8 (by kernel_rfl) N
noncomputable def xg0 (N : Nat) (K0r : List TV → List TOb → Option (List UInt8)) : List TV → List TOb → Option (List UInt8) := yz2 DR qg2 (qd5 N) (yq9 (q07 (q92 (qc7 (q92 (q07 (ql8 (qc7 (q07 (q92 (q07 (q07 (q07 (q07 (q07 (q07 (q07 (q10 Tryz.f148)))))))))))))))))) (qc5 DR qg2 (qd5 N) (q07 (qc7 (q92 (q07 (ql8 (qc7 (q07 (q92 (q07 (q07 (q07 (q07 (q07 (q07 (q07 (q10 Tryz.f148)))))))))))))))) (qn5.loops.drop 2) (qj4 4 (qc5 DR qg2 (qd5 N) (q07 (q07 (ql8 (qc7 (q07 (q92 (q07 (q07 (q07 (q07 (q07 (q07 (q07 (q10 Tryz.f148)))))))))))))) (qn5.loops.drop 2) (u83 (qd5 N) y69 (qj4 3 (qc5 DR qg2 (qd5 N) (q07 (q07 (q07 (q07 (q07 (q07 (q07 (q07 (q10 Tryz.f148))))))))) (qn5.loops.drop 2) (zg4 N))) K0r))))
def ym7 (N : Nat) (s : List UInt8) (i q44 v_N : Int) (v_S : List UInt8) (q33 : Bool) (x_D : List Int) (K0 : (List UInt8 × Int) → Option (List UInt8)) (l5 : Int → Int → Int → (List UInt8) → Bool → (List Int) → (List UInt8) → Option (List UInt8)) (e : Unit) : Option (List UInt8) :=
 bif wg4 s ([92] : List UInt8) then
 l5 i q44 v_N v_S q33 x_D (s ++ ([92] : List UInt8))
 else none
def j29 (N : Nat) (s : List UInt8) (i q44 v_N : Int) (v_S : List UInt8) (q33 : Bool) (x_D : List Int) (K0 : (List UInt8 × Int) → Option (List UInt8)) (e : Unit) : Option (List UInt8) := ym7 N s i q44 v_N v_S q33 x_D K0 (fun i q44 v_N v_S q33 x_D e => at1 N (zx3 N i q44 v_N v_S q33 x_D K0 e)) e
theorem km7 (N : Nat) (s : List UInt8) (i q44 v_N : Int) (v_S : List UInt8) (q33 : Bool) (x_D : List Int) (K0r : List TV → List TOb → Option (List UInt8)) (e : Unit) : jmp N (xg0 N K0r) ((xe6 s i q44 v_N v_S q33 x_D) e) ((xg7 s i q44 v_N v_S q33 x_D) e) = at1 N (j29 N s i q44 v_N v_S q33 x_D (fun a => K0r (wg2 q44 v_N v_S q33 x_D a) (wg0 q44 v_N v_S q33 x_D a)) e) := qo8 (by
 have h : (xg0 N K0r) ((xe6 s i q44 v_N v_S q33 x_D) e) ((xg7 s i q44 v_N v_S q33 x_D) e) = ym7 N s i q44 v_N v_S q33 x_D (fun a => K0r (wg2 q44 v_N v_S q33 x_D a) (wg0 q44 v_N v_S q33 x_D a)) (fun i q44 v_N v_S q33 x_D e => jmp N (xe3 N K0r) (xg8 i q44 v_N v_S q33 x_D e) (xf2 i q44 v_N v_S q33 x_D e)) e := by kernel_rfl
 rw [h]
 simp only [j29, vs7] <;> rfl) N
noncomputable def xe4 (N : Nat) : (List TV → List TOb → Option (List UInt8)) → List TV → List TOb → Option (List UInt8) := w57 DR qg2 (qd5 N) (ql8 (qc7 (q07 (q92 (q07 (q07 (q07 (q07 (q07 (q07 (q07 (q10 Tryz.f148)))))))))))) y69 (qn5.loops.drop 2) (qj4 3 (qc5 DR qg2 (qd5 N) (q07 (q07 (q07 (q07 (q07 (q07 (q07 (q07 (q10 Tryz.f148))))))))) (qn5.loops.drop 2) (zg4 N)))
def yk3 (N : Nat) (q44 v_N : Int) (v_S : List UInt8) (q33 : Bool) (x_D : List Int) (l4 : (List UInt8) → Int → Int → Int → (List UInt8) → Bool → (List Int) → Unit → Option (List UInt8)) (l5 : Int → Int → Int → (List UInt8) → Bool → (List Int) → (List UInt8) → Option (List UInt8)) (K0 : (List UInt8 × Int) → Option (List UInt8)) (e : List UInt8 × Int) : Option (List UInt8) :=
 match e with
 | (s, i) =>
  bif decide (i < (v_S.length : Int)) then
   bif inR i v_S.length then
   bif ((q38 v_S i) == 34) then
    l4 s i q44 v_N v_S q33 x_D ()
   else
    bif inR i v_S.length then
    bif ((q38 v_S i) == 92) then
     l4 s i q44 v_N v_S q33 x_D ()
    else
     l5 i q44 v_N v_S q33 x_D s
    else none
   else none
  else
   bif wg4 s ([34] : List UInt8) then
   some (s ++ ([34] : List UInt8))
   else none
def y66 (N : Nat) (q44 v_N : Int) (v_S : List UInt8) (q33 : Bool) (x_D : List Int) (K0 : (List UInt8 × Int) → Option (List UInt8)) (e : List UInt8 × Int) : Option (List UInt8) := yk3 N q44 v_N v_S q33 x_D (fun s i q44 v_N v_S q33 x_D e => at1 N (j29 N s i q44 v_N v_S q33 x_D K0 e)) (fun i q44 v_N v_S q33 x_D e => at1 N (zx3 N i q44 v_N v_S q33 x_D K0 e)) K0 e
theorem kt0 (N : Nat) (q44 v_N : Int) (v_S : List UInt8) (q33 : Bool) (x_D : List Int) (n_ : Nat) (e : List UInt8 × Int) : q61 (xe4 N ) n_ ((wg2 q44 v_N v_S q33 x_D) e) ((wg0 q44 v_N v_S q33 x_D) e) = q95 (y66 N q44 v_N v_S q33 x_D ) n_ e :=
 q40 (wg2 q44 v_N v_S q33 x_D) (wg0 q44 v_N v_S q33 x_D) (by
  intro K e
  have h : (xe4 N ) K ((wg2 q44 v_N v_S q33 x_D) e) ((wg0 q44 v_N v_S q33 x_D) e) = yk3 N q44 v_N v_S q33 x_D (fun s i q44 v_N v_S q33 x_D e => jmp N (xg0 N K) (xe6 s i q44 v_N v_S q33 x_D e) (xg7 s i q44 v_N v_S q33 x_D e)) (fun i q44 v_N v_S q33 x_D e => jmp N (xe3 N K) (xg8 i q44 v_N v_S q33 x_D e) (xf2 i q44 v_N v_S q33 x_D e)) (fun e => K ((wg2 q44 v_N v_S q33 x_D) e) ((wg0 q44 v_N v_S q33 x_D) e)) e := by obtain ⟨s, i⟩ := e; kernel_rfl
  rw [h]
  simp only [y66, km7, vs7] <;> rfl) n_ e
noncomputable def xb0 (N : Nat) : List TV → List TOb → Option (List UInt8) := yz2 DR qg2 (qd5 N) (q92 (q92 (q07 (q07 (q07 (q07 (q07 (q10 Tryz.f148)))))))) (qc5 DR qg2 (qd5 N) (q07 (q92 (q07 (q07 (q07 (q07 (q07 (q10 Tryz.f148)))))))) (qn5.loops.drop 0) (qc5 DR qg2 (qd5 N) (q07 (q07 (q07 (q07 (q07 (q07 (q10 Tryz.f148))))))) (qn5.loops.drop 1) (zg4 N)))
def yo8 (N : Nat) (q44 v_N : Int) (v_S : List UInt8) (q33 : Bool) (x_D : List Int) (l2 : (List UInt8) → (List UInt8) → Int → Int → (List UInt8) → Bool → (List Int) → Int → Option (List UInt8)) (l3 : Int → Int → (List UInt8) → Bool → (List Int) → (List UInt8 × Int) → Option (List UInt8)) (e : List UInt8) : Option (List UInt8) :=
 match e with
 | sign =>
  bif (q44 == 0) then
   some [110, 117, 108, 108]
  else
   bif (q44 == 1) then
    (wt6 N (q33, x_D, ()) 1).bind fun r2 =>
    bif wg4 sign r2 then
    some (sign ++ r2)
    else none
   else
    bif (q44 == 2) then
     (wt6 N (q33, x_D, ()) 5).bind fun r3 =>
     l2 sign r3 q44 v_N v_S q33 x_D (r3.length : Int)
    else
     bif (q44 == 4) then
      bif (v_N == 1) then
       some [116, 114, 117, 101]
      else
       some [102, 97, 108, 115, 101]
     else
      bif (q44 == 5) then
       bif wg4 ([35] : List UInt8) v_S then
       some (([35] : List UInt8) ++ v_S)
       else none
      else
       l3 q44 v_N v_S q33 x_D ([34], 0)
def j47 (N : Nat) (q44 v_N : Int) (v_S : List UInt8) (q33 : Bool) (x_D : List Int) (e : List UInt8) : Option (List UInt8) := yo8 N q44 v_N v_S q33 x_D (fun sign r3 q44 v_N v_S q33 x_D e => q95 (xe8 N sign r3 q44 v_N v_S q33 x_D) N e) (fun q44 v_N v_S q33 x_D e => q95 (y66 N q44 v_N v_S q33 x_D) N e) e
theorem kl4 (N : Nat) (q44 v_N : Int) (v_S : List UInt8) (q33 : Bool) (x_D : List Int) (e : List UInt8) : jmp N (xb0 N ) ((xa9 q44 v_N v_S q33 x_D) e) ((xh8 q44 v_N v_S q33 x_D) e) = at1 N (j47 N q44 v_N v_S q33 x_D e) := qo8 (by
 have h : (xb0 N ) ((xa9 q44 v_N v_S q33 x_D) e) ((xh8 q44 v_N v_S q33 x_D) e) = yo8 N q44 v_N v_S q33 x_D (fun sign r3 q44 v_N v_S q33 x_D e => q61 (vx3 N ) N (x56 sign r3 q44 v_N v_S q33 x_D e) (xd7 sign r3 q44 v_N v_S q33 x_D e)) (fun q44 v_N v_S q33 x_D e => q61 (xe4 N ) N (wg2 q44 v_N v_S q33 x_D e) (wg0 q44 v_N v_S q33 x_D e)) e := by kernel_rfl
 rw [h]
 simp only [j47, kp7, kt0] <;> rfl) N
def v03 (N : Nat) (v : q00) (l1 : Int → Int → (List UInt8) → Bool → (List Int) → (List UInt8) → Option (List UInt8)) : Option (List UInt8) :=
 (xp6 N v).bind fun r =>
 bif (!r) then
  some []
 else
  (qy9 N v.2.1).bind fun r1 =>
  bif r1.1 then
   l1 v.1 v.2.1 v.2.2.1 r1.1 r1.2.1 [45]
  else
   l1 v.1 v.2.1 v.2.2.1 r1.1 r1.2.1 []
def xb5 (N : Nat) (v : q00) : Option (List UInt8) := v03 N v (fun q44 v_N v_S q33 x_D e => at1 N (j47 N q44 v_N v_S q33 x_D e))
noncomputable def uj4 (N : Nat) (v : q00) : Option (RT [.str]) := q22 DR Tryz.prog N (ve6 N) qn5 Tryz.f148 (q10 Tryz.f148) (RT [.str]) (qd6 [q05] (v, ())) [] (q42 [.str])
theorem k86 (N : Nat) (v : q00) : uj4 N v = xb5 N v := by
 have h : uj4 N v = v03 N v (fun q44 v_N v_S q33 x_D e => jmp N (xb0 N ) (xa9 q44 v_N v_S q33 x_D e) (xh8 q44 v_N v_S q33 x_D e)) := by kernel_rfl
 rw [h]
 simp only [xb5, kl4] <;> rfl
def uj7 (m : q00 → Option (List UInt8)) : Ent := q37 [q05] [.str] fun (x : Els [q05]) => m x.1
def va6 (N : Nat) : Ent := uj7 (xb5 N)
theorem ue5 (N : Nat) : q16 Tryz.prog 148 (va6 N) := q15 (kt5 N) Tryz.func148 rfl (by kernel_rfl) fun (x : Els [q05]) => k86 N x.1
def v39 : LH := ⟨[(0, .str), (3, .str), (4, .int .i64)], [], []⟩
def y60 : FH := ⟨[v39], [], [], [], false, [], []⟩
noncomputable def xa0 (N : Nat) : q52 := tab []
theorem k66 (N : Nat) : q14 Tryz.prog (xa0 N) := q26 _
noncomputable def va4 : Sc := wl4 Tryz.prog y60
noncomputable def vj6 (N : Nat) : Cfg := ⟨N, xa0 N, 0⟩
noncomputable def ul9 (N : Nat) : Exit → List TV → List TOb → Option (List UInt8) := fin Tryz.prog 0 Tryz.f203.results.toList (q42 [.str])
def yq6 (s : List UInt8) (e : List UInt8 × Int) : List TV := match e with
 | (out, i) => frm 26 [(0, .str s), (3, .str out), (4, .int .i64 i)]
def yh6 (s : List UInt8) (e : List UInt8 × Int) : List TOb := match e with
 | (out, i) => []
noncomputable def vd0 (N : Nat) : (List TV → List TOb → Option (List UInt8)) → List TV → List TOb → Option (List UInt8) := w57 DR va4 (vj6 N) (ql8 (qc7 (q07 (q92 (q07 (q07 (q10 Tryz.f203))))))) v39 (y60.loops.drop 1) (qj4 0 (qc5 DR va4 (vj6 N) (q07 (q07 (q07 (q10 Tryz.f203)))) (y60.loops.drop 1) (ul9 N)))
def yl4 (N : Nat) (s : List UInt8) (K0 : (List UInt8 × Int) → Option (List UInt8)) (e : List UInt8 × Int) : Option (List UInt8) :=
 match e with
 | (out, i) =>
  bif q27 (i + 1) then
  bif decide ((i + 1) < (s.length : Int)) then
   bif inR i s.length then
   bif ((q38 s i) == 92) then
    bif q27 (i + 1) then
    bif q27 ((i + 1) + 1) then
    bif inB (i + 1) ((i + 1) + 1) s.length then
    bif wg4 out ((s.take ((i + 1) + 1).toNat).drop (i + 1).toNat) then
    bif q27 ((i + 1) + 1) then
    K0 ((out ++ ((s.take ((i + 1) + 1).toNat).drop (i + 1).toNat)), (i + 1) + 1)
    else none
    else none
    else none
    else none
    else none
   else
    bif q27 (i + 1) then
    bif inB i (i + 1) s.length then
    bif wg4 out ((s.take (i + 1).toNat).drop i.toNat) then
    bif q27 (i + 1) then
    K0 ((out ++ ((s.take (i + 1).toNat).drop i.toNat)), i + 1)
    else none
    else none
    else none
    else none
   else none
  else
   some out
  else none
theorem k90 (N : Nat) (s : List UInt8) (n_ : Nat) (e : List UInt8 × Int) : q61 (vd0 N ) n_ ((yq6 s) e) ((yh6 s) e) = q95 (yl4 N s ) n_ e :=
 q40 (yq6 s) (yh6 s) (by intro K e; obtain ⟨out, i⟩ := e; kernel_rfl) n_ e
def xd3 (N : Nat) (s : List UInt8) (l1 : (List UInt8) → (List UInt8 × Int) → Option (List UInt8)) : Option (List UInt8) :=
 l1 s ([], 1)
def y68 (N : Nat) (s : List UInt8) : Option (List UInt8) := xd3 N s (fun s e => q95 (yl4 N s) N e)
noncomputable def vw8 (N : Nat) (s : List UInt8) : Option (RT [.str]) := q22 DR Tryz.prog N (xa0 N) y60 Tryz.f203 (q10 Tryz.f203) (RT [.str]) (qd6 [.str] (s, ())) [] (q42 [.str])
theorem uh1 (N : Nat) (s : List UInt8) : vw8 N s = y68 N s := by
 have h : vw8 N s = xd3 N s (fun s e => q61 (vd0 N ) N (yq6 s e) (yh6 s e)) := by kernel_rfl
 rw [h]
 simp only [y68, k90] <;> rfl
def ue8 (m : (List UInt8) → Option (List UInt8)) : Ent := q37 [.str] [.str] fun (x : Els [.str]) => m x.1
def xl8 (N : Nat) : Ent := ue8 (y68 N)
theorem vo1 (N : Nat) : q16 Tryz.prog 203 (xl8 N) := q15 (k66 N) Tryz.func203 rfl (by kernel_rfl) fun (x : Els [.str]) => uh1 N x.1
def vf3 : LH := ⟨[(1, .asis), (6, .int .i64), (7, .int .i64)], [], [.cells [.bool, .lst (.int .i64)], .cells [.bool, .lst (.int .i64)], .cells [.bool, .lst (.int .i64)]]⟩
def y65 : FH := ⟨[vf3], [], [], [], false, [], []⟩
noncomputable def x86 (N : Nat) : q52 := tab [(209, zv9 N), (249, xg5 N)]
theorem k63 (N : Nat) : q14 Tryz.prog (x86 N) := q06 (zm2 N) <| q06 (xi8 N) <| q26 _
noncomputable def v85 : Sc := wl4 Tryz.prog y65
noncomputable def v93 (N : Nat) : Cfg := ⟨N, x86 N, 0⟩
noncomputable def ur8 (N : Nat) : Exit → List TV → List TOb → Option (Int × Int × Unit) := fin Tryz.prog 0 Tryz.f204.results.toList (q42 [(.int .i64), (.int .i64)])
def yh3 (q33 : Bool) (x_D : List Int) (zo2 : Bool) (ke5 : List Int) (qi2 : Bool) (y91 : List Int) (e : Int × Int) : List TV := match e with
 | (n, i) => frm 47 [(1, .ref 0 0), (6, .int .i64 n), (7, .int .i64 i)]
def yp0 (q33 : Bool) (x_D : List Int) (zo2 : Bool) (ke5 : List Int) (qi2 : Bool) (y91 : List Int) (e : Int × Int) : List TOb := match e with
 | (n, i) => [.cells [.bool q33, .tl (.int .i64) x_D .unk] 265 true, .cells [.bool zo2, .tl (.int .i64) ke5 .unk] 265 true, .cells [.bool qi2, .tl (.int .i64) y91 .unk] 265 true]
noncomputable def xy2 (N : Nat) : (List TV → List TOb → Option (Int × Int × Unit)) → List TV → List TOb → Option (Int × Int × Unit) := w57 DR v85 (v93 N) (ql8 (qc7 (q07 (q92 (q07 (q07 (q07 (q07 (q10 Tryz.f204))))))))) vf3 (y65.loops.drop 1) (qj4 0 (qc5 DR v85 (v93 N) (q07 (q07 (q07 (q07 (q07 (q10 Tryz.f204)))))) (y65.loops.drop 1) (ur8 N)))
def yi8 (N : Nat) (q33 : Bool) (x_D : List Int) (zo2 : Bool) (ke5 : List Int) (qi2 : Bool) (y91 : List Int) (K0 : (Int × Int) → Option (Int × Int × Unit)) (e : Int × Int) : Option (Int × Int × Unit) :=
 match e with
 | (n, i) =>
  bif decide (i ≥ 0) then
   bif q33 then
    bif q27 (n * 10000) then
    bif inR i x_D.length then
    bif q27 ((n * 10000) - (q25 x_D i 0)) then
    bif q27 (i - 1) then
    K0 ((n * 10000) - (q25 x_D i 0), i - 1)
    else none
    else none
    else none
    else none
   else
    bif q27 (n * 10000) then
    bif inR i x_D.length then
    bif q27 ((n * 10000) + (q25 x_D i 0)) then
    bif q27 (i - 1) then
    K0 ((n * 10000) + (q25 x_D i 0), i - 1)
    else none
    else none
    else none
    else none
  else
   some (n, 0, ())
theorem k93 (N : Nat) (q33 : Bool) (x_D : List Int) (zo2 : Bool) (ke5 : List Int) (qi2 : Bool) (y91 : List Int) (n_ : Nat) (e : Int × Int) : q61 (xy2 N ) n_ ((yh3 q33 x_D zo2 ke5 qi2 y91) e) ((yp0 q33 x_D zo2 ke5 qi2 y91) e) = q95 (yi8 N q33 x_D zo2 ke5 qi2 y91 ) n_ e :=
 q40 (yh3 q33 x_D zo2 ke5 qi2 y91) (yp0 q33 x_D zo2 ke5 qi2 y91) (by intro K e; obtain ⟨n, i⟩ := e; kernel_rfl) n_ e
def xb4 (N : Nat) (x : qa6) (l1 : Bool → (List Int) → Bool → (List Int) → Bool → (List Int) → (Int × Int) → Option (Int × Int × Unit)) : Option (Int × Int × Unit) :=
 (qy9 N (-9223372036854775808)).bind fun r =>
 (qy9 N 9223372036854775807).bind fun r1 =>
 (v13 N x r).bind fun r2 =>
 bif decide (r2 < 0) then
  some (0, 9, ())
 else
  (v13 N x r1).bind fun r3 =>
  bif decide (r3 > 0) then
   some (0, 9, ())
  else
   bif q27 ((x.2.1.length : Int) - 1) then
   l1 x.1 x.2.1 r.1 r.2.1 r1.1 r1.2.1 (0, (x.2.1.length : Int) - 1)
   else none
def y64 (N : Nat) (x : qa6) : Option (Int × Int × Unit) := xb4 N x (fun q33 x_D zo2 ke5 qi2 y91 e => q95 (yi8 N q33 x_D zo2 ke5 qi2 y91) N e)
noncomputable def vs9 (N : Nat) (x : qa6) : Option (RT [(.int .i64), (.int .i64)]) := q22 DR Tryz.prog N (x86 N) y65 Tryz.f204 (q10 Tryz.f204) (RT [(.int .i64), (.int .i64)]) (qd6 [ql6] (x, ())) [] (q42 [(.int .i64), (.int .i64)])
theorem ul6 (N : Nat) (x : qa6) : vs9 N x = y64 N x := by
 have h : vs9 N x = xb4 N x (fun q33 x_D zo2 ke5 qi2 y91 e => q61 (xy2 N ) N (yh3 q33 x_D zo2 ke5 qi2 y91 e) (yp0 q33 x_D zo2 ke5 qi2 y91 e)) := by kernel_rfl
 rw [h]
 simp only [y64, k93] <;> rfl
def u95 (m : qa6 → Option (Int × Int × Unit)) : Ent := q37 [ql6] [(.int .i64), (.int .i64)] fun (x : Els [ql6]) => m x.1
def xj4 (N : Nat) : Ent := u95 (y64 N)
theorem vm8 (N : Nat) : q16 Tryz.prog 204 (xj4 N) := q15 (k63 N) Tryz.func204 rfl (by kernel_rfl) fun (x : Els [ql6]) => ul6 N x.1
def w53 : FH := ⟨[], [], [], [], false, [], [(7, ⟨[(0, .str), (2, .asis), (4, .asis)], [], [.cells [.int .u8, .int .i64, .str], .cells [.int .u8, .int .i64, .str], .cells [.bool, .lst (.int .i64)]]⟩), (11, ⟨[(0, .str), (2, .asis), (4, .asis), (5, .asis), (6, .bool), (7, .bool)], [], [.cells [.int .u8, .int .i64, .str], .cells [.int .u8, .int .i64, .str], .cells [.bool, .lst (.int .i64)]]⟩), (13, ⟨[(0, .str), (2, .asis), (4, .asis), (5, .asis), (6, .bool), (7, .bool)], [], [.cells [.int .u8, .int .i64, .str], .cells [.int .u8, .int .i64, .str], .cells [.bool, .lst (.int .i64)]]⟩), (20, ⟨[(0, .str), (2, .asis), (4, .asis)], [], [.cells [.int .u8, .int .i64, .str], .cells [.int .u8, .int .i64, .str], .cells [.bool, .lst (.int .i64)]]⟩)]⟩
noncomputable def xg9 (N : Nat) : q52 := tab [(201, yy7 N), (202, xi7 N), (203, xl8 N), (204, xj4 N), (14, xb3 N), (148, va6 N)]
theorem k85 (N : Nat) : q14 Tryz.prog (xg9 N) := q06 (vi5 N) <| q06 (vl2 N) <| q06 (vo1 N) <| q06 (vm8 N) <| q06 (xq3 N) <| q06 (ue5 N) <| q26 _
noncomputable def qk8 : Sc := wl4 Tryz.prog w53
noncomputable def qk9 (N : Nat) : Cfg := ⟨N, xg9 N, 0⟩
noncomputable def zq9 (N : Nat) : Exit → List TV → List TOb → Option OX3 := fin Tryz.prog 0 Tryz.f138.results.toList (q42 [q05, (.int .i64)])
def yl0 (s : List UInt8) (point ok q33 : Bool) (x_D : List Int) (e : Unit) : List TV := frm 85 [(0, .str s), (2, .ref 0 0), (4, .ref 1 0), (5, .ref 2 0), (6, .bool point), (7, .bool ok)]
def yi6 (s : List UInt8) (point ok q33 : Bool) (x_D : List Int) (e : Unit) : List TOb := [.cells [.int .u8 0, .int .i64 0, .str []] 26 true, .cells [.int .u8 0, .int .i64 0, .str []] 26 true, .cells [.bool q33, .tl (.int .i64) x_D .unk] 265 true]
def yl3 (s : List UInt8) (point ok q33 : Bool) (x_D : List Int) (e : Unit) : List TV := frm 85 [(0, .str s), (2, .ref 0 0), (4, .ref 1 0), (5, .ref 2 0), (6, .bool point), (7, .bool ok)]
def ym9 (s : List UInt8) (point ok q33 : Bool) (x_D : List Int) (e : Unit) : List TOb := [.cells [.int .u8 0, .int .i64 0, .str []] 26 true, .cells [.int .u8 0, .int .i64 0, .str []] 26 true, .cells [.bool q33, .tl (.int .i64) x_D .unk] 265 true]
def yl8 (s : List UInt8) (qi2 : Bool) (y91 : List Int) (e : Unit) : List TV := frm 85 [(0, .str s), (2, .ref 0 0), (4, .ref 1 0)]
def yh7 (s : List UInt8) (qi2 : Bool) (y91 : List Int) (e : Unit) : List TOb := [.cells [.int .u8 0, .int .i64 0, .str []] 26 true, .cells [.int .u8 0, .int .i64 0, .str []] 26 true, .cells [.bool qi2, .tl (.int .i64) y91 .unk] 265 true]
def zm9 (s : List UInt8) (e : Int × Int × List UInt8 × Bool × List Int) : List TV := match e with
 | (q44, v_N, v_S, o2_Neg1, o2_D1) => frm 85 [(0, .str s), (2, .ref 0 0), (4, .ref 1 0)]
def zh5 (s : List UInt8) (e : Int × Int × List UInt8 × Bool × List Int) : List TOb := match e with
 | (q44, v_N, v_S, o2_Neg1, o2_D1) => [.cells [.int .u8 0, .int .i64 0, .str []] 26 true, .cells [.int .u8 q44, .int .i64 v_N, .str v_S] 26 true, .cells [.bool o2_Neg1, .tl (.int .i64) o2_D1 .unk] 265 true]
noncomputable def zl4 (N : Nat) : List TV → List TOb → Option OX3 := yz2 DR qk8 (qk9 N) (q92 (q92 (q07 (q07 (q07 (q07 (q07 (q10 Tryz.f138)))))))) (qc5 DR qk8 (qk9 N) (q07 (q92 (q07 (q07 (q07 (q07 (q07 (q10 Tryz.f138)))))))) (w53.loops.drop 0) (qc5 DR qk8 (qk9 N) (q07 (q07 (q07 (q07 (q07 (q07 (q10 Tryz.f138))))))) (w53.loops.drop 0) (zq9 N)))
def wc6 (N : Nat) (s : List UInt8) (e : Int × Int × List UInt8 × Bool × List Int) : Option OX3 :=
 match e with
 | (q44, v_N, v_S, o2_Neg1, o2_D1) =>
  (xp6 N (q44, v_N, v_S, ())).bind fun r4 =>
  bif (!r4) then
   some ((0, 0, [], ()), 4, ())
  else
   (xb5 N (q44, v_N, v_S, ())).bind fun r5 =>
   bif (!(r5 == s)) then
    some ((0, 0, [], ()), 4, ())
   else
    some ((q44, v_N, v_S, ()), 0, ())
theorem jb3 (N : Nat) (s : List UInt8) (e : Int × Int × List UInt8 × Bool × List Int) : jmp N (zl4 N ) ((zm9 s) e) ((zh5 s) e) = at1 N (wc6 N s e) := qo8 (by obtain ⟨q44, v_N, v_S, o2_Neg1, o2_D1⟩ := e; kernel_rfl) N
noncomputable def yg6 (N : Nat) : List TV → List TOb → Option OX3 := yz2 DR qk8 (qk9 N) (yq9 (q07 (qc7 (q92 (q07 (q07 (q07 (q07 (q10 Tryz.f138))))))))) (qj4 0 (qc5 DR qk8 (qk9 N) (q07 (q07 (q07 (q07 (q07 (q10 Tryz.f138)))))) (w53.loops.drop 0) (zq9 N)))
def jo2 (N : Nat) (s : List UInt8) (qi2 : Bool) (y91 : List Int) (l2 : (List UInt8) → (Int × Int × List UInt8 × Bool × List Int) → Option OX3) (e : Unit) : Option OX3 :=
 (xx5 N (s == ([116, 114, 117, 101] : List UInt8))).bind fun r1 =>
 l2 s (r1.1, r1.2.1, r1.2.2.1, qi2, y91)
def zn0 (N : Nat) (s : List UInt8) (qi2 : Bool) (y91 : List Int) (e : Unit) : Option OX3 := jo2 N s qi2 y91 (fun s e => at1 N (wc6 N s e)) e
theorem k03 (N : Nat) (s : List UInt8) (qi2 : Bool) (y91 : List Int) (e : Unit) : jmp N (yg6 N ) ((yl8 s qi2 y91) e) ((yh7 s qi2 y91) e) = at1 N (zn0 N s qi2 y91 e) := qo8 (by
 have h : (yg6 N ) ((yl8 s qi2 y91) e) ((yh7 s qi2 y91) e) = jo2 N s qi2 y91 (fun s e => jmp N (zl4 N ) (zm9 s e) (zh5 s e)) e := by kernel_rfl
 rw [h]
 simp only [zn0, jb3] <;> rfl) N
noncomputable def yl6 (N : Nat) : List TV → List TOb → Option OX3 := yz2 DR qk8 (qk9 N) (q92 (zf4 (q07 (zf4 (q07 (zf4 (q07 (zf4 (q07 (qc7 (q92 (q07 (q07 (q07 (q07 (q10 Tryz.f138)))))))))))))))) (qc5 DR qk8 (qk9 N) (q07 (zf4 (q07 (zf4 (q07 (zf4 (q07 (zf4 (q07 (qc7 (q92 (q07 (q07 (q07 (q07 (q10 Tryz.f138)))))))))))))))) (w53.loops.drop 0) (qj4 0 (qc5 DR qk8 (qk9 N) (q07 (q07 (q07 (q07 (q07 (q10 Tryz.f138)))))) (w53.loops.drop 0) (zq9 N))))
def y28 (N : Nat) (s : List UInt8) (point ok q33 : Bool) (x_D : List Int) (l2 : (List UInt8) → (Int × Int × List UInt8 × Bool × List Int) → Option OX3) (e : Unit) : Option OX3 :=
 bif ok then
  (y64 N (q33, x_D, ())).bind fun r3 =>
  bif (r3.2.1 != 0) then
   some ((0, 0, [], ()), r3.2.1, ())
  else
   bif point then
    l2 s (2, r3.1, [], q33, x_D)
   else
    l2 s (1, r3.1, [], q33, x_D)
 else
  some ((0, 0, [], ()), 4, ())
def zj4 (N : Nat) (s : List UInt8) (point ok q33 : Bool) (x_D : List Int) (e : Unit) : Option OX3 := y28 N s point ok q33 x_D (fun s e => at1 N (wc6 N s e)) e
theorem k98 (N : Nat) (s : List UInt8) (point ok q33 : Bool) (x_D : List Int) (e : Unit) : jmp N (yl6 N ) ((yl3 s point ok q33 x_D) e) ((ym9 s point ok q33 x_D) e) = at1 N (zj4 N s point ok q33 x_D e) := qo8 (by
 have h : (yl6 N ) ((yl3 s point ok q33 x_D) e) ((ym9 s point ok q33 x_D) e) = y28 N s point ok q33 x_D (fun s e => jmp N (zl4 N ) (zm9 s e) (zh5 s e)) e := by kernel_rfl
 rw [h]
 simp only [zj4, jb3] <;> rfl) N
noncomputable def yh8 (N : Nat) : List TV → List TOb → Option OX3 := yz2 DR qk8 (qk9 N) (q92 (zf4 (q07 (zf4 (q07 (zf4 (q07 (qc7 (q92 (q07 (q07 (q07 (q07 (q10 Tryz.f138)))))))))))))) (qc5 DR qk8 (qk9 N) (q07 (zf4 (q07 (zf4 (q07 (zf4 (q07 (qc7 (q92 (q07 (q07 (q07 (q07 (q10 Tryz.f138)))))))))))))) (w53.loops.drop 0) (qj4 0 (qc5 DR qk8 (qk9 N) (q07 (q07 (q07 (q07 (q07 (q10 Tryz.f138)))))) (w53.loops.drop 0) (zq9 N))))
def y40 (N : Nat) (s : List UInt8) (point ok q33 : Bool) (x_D : List Int) (l2 : (List UInt8) → (Int × Int × List UInt8 × Bool × List Int) → Option OX3) (l4 : (List UInt8) → Bool → Bool → Bool → (List Int) → Unit → Option OX3) (e : Unit) : Option OX3 :=
 bif decide ((s.length : Int) > 0) then
  bif inR 0 s.length then
  bif ((q38 s 0) == 34) then
   (y68 N s).bind fun r2 =>
   l2 s (3, 0, r2, q33, x_D)
  else
   l4 s point ok q33 x_D ()
  else none
 else
  l4 s point ok q33 x_D ()
def zh9 (N : Nat) (s : List UInt8) (point ok q33 : Bool) (x_D : List Int) (e : Unit) : Option OX3 := y40 N s point ok q33 x_D (fun s e => at1 N (wc6 N s e)) (fun s point ok q33 x_D e => at1 N (zj4 N s point ok q33 x_D e)) e
theorem k01 (N : Nat) (s : List UInt8) (point ok q33 : Bool) (x_D : List Int) (e : Unit) : jmp N (yh8 N ) ((yl0 s point ok q33 x_D) e) ((yi6 s point ok q33 x_D) e) = at1 N (zh9 N s point ok q33 x_D e) := qo8 (by
 have h : (yh8 N ) ((yl0 s point ok q33 x_D) e) ((yi6 s point ok q33 x_D) e) = y40 N s point ok q33 x_D (fun s e => jmp N (zl4 N ) (zm9 s e) (zh5 s e)) (fun s point ok q33 x_D e => jmp N (yl6 N ) (yl3 s point ok q33 x_D e) (ym9 s point ok q33 x_D e)) e := by kernel_rfl
 rw [h]
 simp only [zh9, jb3, k98] <;> rfl) N
def xg2 (N : Nat) (s : List UInt8) (l1 : (List UInt8) → Bool → (List Int) → Unit → Option OX3) (l2 : (List UInt8) → (Int × Int × List UInt8 × Bool × List Int) → Option OX3) (l3 : (List UInt8) → Bool → Bool → Bool → (List Int) → Unit → Option OX3) : Option OX3 :=
 bif decide ((s.length : Int) > 402) then
  some ((0, 0, [], ()), 3, ())
 else
  (zz7 N s).bind fun r =>
  bif (s == ([116, 114, 117, 101] : List UInt8)) then
   l1 s r.1.1 r.1.2.1 ()
  else
   bif (s == ([102, 97, 108, 115, 101] : List UInt8)) then
    l1 s r.1.1 r.1.2.1 ()
   else
    bif (s == ([110, 117, 108, 108] : List UInt8)) then
     l2 s (0, 0, [], r.1.1, r.1.2.1)
    else
     bif decide ((s.length : Int) > 0) then
      bif inR 0 s.length then
      bif ((q38 s 0) == 35) then
       bif upTo 1 s.length then
       l2 s (5, 0, (s.drop (1 : Int).toNat), r.1.1, r.1.2.1)
       else none
      else
       l3 s r.2.1 r.2.2.1 r.1.1 r.1.2.1 ()
      else none
     else
      l3 s r.2.1 r.2.2.1 r.1.1 r.1.2.1 ()
def jc7 (N : Nat) (s : List UInt8) : Option OX3 := xg2 N s (fun s qi2 y91 e => at1 N (zn0 N s qi2 y91 e)) (fun s e => at1 N (wc6 N s e)) (fun s point ok q33 x_D e => at1 N (zh9 N s point ok q33 x_D e))
noncomputable def vx5 (N : Nat) (s : List UInt8) : Option (RT [q05, (.int .i64)]) := q22 DR Tryz.prog N (xg9 N) w53 Tryz.f138 (q10 Tryz.f138) (RT [q05, (.int .i64)]) (qd6 [.str] (s, ())) [] (q42 [q05, (.int .i64)])
theorem ut6 (N : Nat) (s : List UInt8) : vx5 N s = jc7 N s := by
 have h : vx5 N s = xg2 N s (fun s qi2 y91 e => jmp N (yg6 N ) (yl8 s qi2 y91 e) (yh7 s qi2 y91 e)) (fun s e => jmp N (zl4 N ) (zm9 s e) (zh5 s e)) (fun s point ok q33 x_D e => jmp N (yh8 N ) (yl0 s point ok q33 x_D e) (yi6 s point ok q33 x_D e)) := by kernel_rfl
 rw [h]
 simp only [jc7, k03, jb3, k01] <;> rfl
def u16 (m : (List UInt8) → Option OX3) : Ent := q37 [.str] [q05, (.int .i64)] fun (x : Els [.str]) => m x.1
def xn6 (N : Nat) : Ent := u16 (jc7 N)
theorem vo6 (N : Nat) : q16 Tryz.prog 138 (xn6 N) := q15 (k85 N) Tryz.func138 rfl (by kernel_rfl) fun (x : Els [.str]) => ut6 N x.1
def xn1 : LH := ⟨[(0, .str), (5, .int .i64)], [], []⟩
def j92 : FH := ⟨[xn1], [], [], [], false, [], []⟩
noncomputable def yn4 (N : Nat) : q52 := tab []
theorem ug8 (N : Nat) : q14 Tryz.prog (yn4 N) := q26 _
noncomputable def xn2 : Sc := wl4 Tryz.prog j92
noncomputable def xj5 (N : Nat) : Cfg := ⟨N, yn4 N, 0⟩
noncomputable def ud3 (N : Nat) : Exit → List TV → List TOb → Option Int := fin Tryz.prog 0 Tryz.f139.results.toList (q42 [(.int .i64)])
def jp0 (s : List UInt8) (e : Int) : List TV := match e with
 | i => frm 52 [(0, .str s), (5, .int .i64 i)]
def y02 (s : List UInt8) (e : Int) : List TOb := match e with
 | i => []
noncomputable def xi5 (N : Nat) : (List TV → List TOb → Option Int) → List TV → List TOb → Option Int := w57 DR xn2 (xj5 N) (ql8 (qc7 (q07 (q92 (q07 (q10 Tryz.f139)))))) xn1 (j92.loops.drop 1) (qj4 0 (qc5 DR xn2 (xj5 N) (q07 (q07 (q10 Tryz.f139))) (j92.loops.drop 1) (ud3 N)))
def jw7 (N : Nat) (s : List UInt8) (K0 : Int → Option Int) (e : Int) : Option Int :=
 match e with
 | i =>
  bif decide (i < (s.length : Int)) then
   bif inR i s.length then
   bif decide ((q38 s i) < 32) then
    some (-1)
   else
    bif inR i s.length then
    bif decide ((q38 s i) > 126) then
     some (-1)
    else
     bif inR i s.length then
     bif ((q38 s i) == 34) then
      bif q27 (i + 1) then
      some (i + 1)
      else none
     else
      bif inR i s.length then
      bif ((q38 s i) == 92) then
       bif q27 (i + 1) then
       bif decide ((i + 1) < (s.length : Int)) then
        bif inR (i + 1) s.length then
        bif decide ((q38 s (i + 1)) < 32) then
         some (-1)
        else
         bif inR (i + 1) s.length then
         bif decide ((q38 s (i + 1)) > 126) then
          some (-1)
         else
          bif q27 ((i + 1) + 1) then
          K0 ((i + 1) + 1)
          else none
         else none
        else none
       else
        bif q27 ((i + 1) + 1) then
        K0 ((i + 1) + 1)
        else none
       else none
      else
       bif q27 (i + 1) then
       K0 (i + 1)
       else none
      else none
     else none
    else none
   else none
  else
   some (-1)
theorem um1 (N : Nat) (s : List UInt8) (n_ : Nat) (e : Int) : q61 (xi5 N ) n_ ((jp0 s) e) ((y02 s) e) = q95 (jw7 N s ) n_ e :=
 q40 (jp0 s) (y02 s) (by intro K e; kernel_rfl) n_ e
def yl9 (N : Nat) (s : List UInt8) (at_ : Int) (l1 : (List UInt8) → Int → Option Int) : Option Int :=
 bif q27 (at_ + 1) then
 l1 s (at_ + 1)
 else none
def zz2 (N : Nat) (s : List UInt8) (at_ : Int) : Option Int := yl9 N s at_ (fun s e => q95 (jw7 N s) N e)
noncomputable def v65 (N : Nat) (s : List UInt8) (at_ : Int) : Option (RT [(.int .i64)]) := q22 DR Tryz.prog N (yn4 N) j92 Tryz.f139 (q10 Tryz.f139) (RT [(.int .i64)]) (qd6 [.str, (.int .i64)] (s, at_, ())) [] (q42 [(.int .i64)])
theorem u25 (N : Nat) (s : List UInt8) (at_ : Int) : v65 N s at_ = zz2 N s at_ := by
 have h : v65 N s at_ = yl9 N s at_ (fun s e => q61 (xi5 N ) N (jp0 s e) (y02 s e)) := by kernel_rfl
 rw [h]
 simp only [zz2, um1] <;> rfl
def vm1 (m : (List UInt8) → Int → Option Int) : Ent := q37 [.str, (.int .i64)] [(.int .i64)] fun (x : Els [.str, (.int .i64)]) => m x.1 x.2.1
def x21 (N : Nat) : Ent := vm1 (zz2 N)
theorem v45 (N : Nat) : q16 Tryz.prog 139 (x21 N) := q15 (ug8 N) Tryz.func139 rfl (by kernel_rfl) fun (x : Els [.str, (.int .i64)]) => u25 N x.1 x.2.1
def j76 : FH := ⟨[], [], [], [], false, [], [(8, ⟨[(0, .str), (1, .int .i64)], [], []⟩)]⟩
noncomputable def yi1 (N : Nat) : q52 := tab []
theorem ur2 (N : Nat) : q14 Tryz.prog (yi1 N) := q26 _
noncomputable def y30 : Sc := wl4 Tryz.prog j76
noncomputable def jy7 (N : Nat) : Cfg := ⟨N, yi1 N, 0⟩
noncomputable def uf6 (N : Nat) : Exit → List TV → List TOb → Option Int := fin Tryz.prog 0 Tryz.f140.results.toList (q42 [(.int .i64)])
def xk1 (s : List UInt8) (at_ : Int) (e : Unit) : List TV := frm 41 [(0, .str s), (1, .int .i64 at_)]
def xm6 (s : List UInt8) (at_ : Int) (e : Unit) : List TOb := []
noncomputable def xp7 (N : Nat) : List TV → List TOb → Option Int := yz2 DR y30 (jy7 N) (q92 (q92 (q07 (q07 (q10 Tryz.f140))))) (qc5 DR y30 (jy7 N) (q07 (q92 (q07 (q07 (q10 Tryz.f140))))) (j76.loops.drop 0) (qc5 DR y30 (jy7 N) (q07 (q07 (q07 (q10 Tryz.f140)))) (j76.loops.drop 0) (uf6 N)))
def zq8 (N : Nat) (s : List UInt8) (at_ : Int) (e : Unit) : Option Int :=
 bif inR at_ s.length then
 bif ((q38 s at_) == 40) then
  bif q27 (at_ + 1) then
  some (at_ + 1)
  else none
 else
  bif ((q38 s at_) == 41) then
   bif q27 (at_ + 1) then
   some (at_ + 1)
   else none
  else
   bif ((q38 s at_) == 91) then
    bif q27 (at_ + 1) then
    some (at_ + 1)
    else none
   else
    bif ((q38 s at_) == 93) then
     bif q27 (at_ + 1) then
     some (at_ + 1)
     else none
    else
     bif ((q38 s at_) == 44) then
      bif q27 (at_ + 1) then
      some (at_ + 1)
      else none
     else
      bif ((q38 s at_) == 58) then
       bif q27 (at_ + 1) then
       some (at_ + 1)
       else none
      else
       bif ((q38 s at_) == 61) then
        bif q27 (at_ + 1) then
        some (at_ + 1)
        else none
       else
        bif ((q38 s at_) == 60) then
         bif q27 (at_ + 1) then
         some (at_ + 1)
         else none
        else
         bif ((q38 s at_) == 62) then
          bif q27 (at_ + 1) then
          some (at_ + 1)
          else none
         else
          bif ((q38 s at_) == 43) then
           bif q27 (at_ + 1) then
           some (at_ + 1)
           else none
          else
           bif ((q38 s at_) == 45) then
            bif q27 (at_ + 1) then
            some (at_ + 1)
            else none
           else
            bif ((q38 s at_) == 42) then
             bif q27 (at_ + 1) then
             some (at_ + 1)
             else none
            else
             bif ((q38 s at_) == 47) then
              bif q27 (at_ + 1) then
              some (at_ + 1)
              else none
             else
              some (-1)
 else none
theorem um6 (N : Nat) (s : List UInt8) (at_ : Int) (e : Unit) : jmp N (xp7 N ) ((xk1 s at_) e) ((xm6 s at_) e) = at1 N (zq8 N s at_ e) := qo8 (by kernel_rfl) N
def yj2 (N : Nat) (s : List UInt8) (at_ : Int) (l1 : (List UInt8) → Int → Unit → Option Int) : Option Int :=
 bif q27 (at_ + 1) then
 bif decide ((at_ + 1) < (s.length : Int)) then
  bif q27 (at_ + 2) then
  bif inB at_ (at_ + 2) s.length then
  bif (((s.take (at_ + 2).toNat).drop at_.toNat) == ([60, 61] : List UInt8)) then
   bif q27 (at_ + 2) then
   some (at_ + 2)
   else none
  else
   bif (((s.take (at_ + 2).toNat).drop at_.toNat) == ([62, 61] : List UInt8)) then
    bif q27 (at_ + 2) then
    some (at_ + 2)
    else none
   else
    bif (((s.take (at_ + 2).toNat).drop at_.toNat) == ([60, 62] : List UInt8)) then
     bif q27 (at_ + 2) then
     some (at_ + 2)
     else none
    else
     bif (((s.take (at_ + 2).toNat).drop at_.toNat) == ([46, 46] : List UInt8)) then
      bif q27 (at_ + 2) then
      some (at_ + 2)
      else none
     else
      l1 s at_ ()
  else none
  else none
 else
  l1 s at_ ()
 else none
def j24 (N : Nat) (s : List UInt8) (at_ : Int) : Option Int := yj2 N s at_ (fun s at_ e => at1 N (zq8 N s at_ e))
noncomputable def ve7 (N : Nat) (s : List UInt8) (at_ : Int) : Option (RT [(.int .i64)]) := q22 DR Tryz.prog N (yi1 N) j76 Tryz.f140 (q10 Tryz.f140) (RT [(.int .i64)]) (qd6 [.str, (.int .i64)] (s, at_, ())) [] (q42 [(.int .i64)])
theorem ud6 (N : Nat) (s : List UInt8) (at_ : Int) : ve7 N s at_ = j24 N s at_ := by
 have h : ve7 N s at_ = yj2 N s at_ (fun s at_ e => jmp N (xp7 N ) (xk1 s at_ e) (xm6 s at_ e)) := by kernel_rfl
 rw [h]
 simp only [j24, um6] <;> rfl
def vl0 (m : (List UInt8) → Int → Option Int) : Ent := q37 [.str, (.int .i64)] [(.int .i64)] fun (x : Els [.str, (.int .i64)]) => m x.1 x.2.1
def yr0 (N : Nat) : Ent := vl0 (j24 N)
theorem v31 (N : Nat) : q16 Tryz.prog 140 (yr0 N) := q15 (ur2 N) Tryz.func140 rfl (by kernel_rfl) fun (x : Els [.str, (.int .i64)]) => ud6 N x.1 x.2.1
def zi2 : FH := ⟨[], [], [(25, ⟨8, 147, 0, [(7, .store true 0)], []⟩), (33, ⟨10, 147, 0, [(9, .store true 0)], []⟩)], [], false, [], [(9, ⟨[(0, .str), (1, .int .i64), (4, .asis), (7, .asis), (8, .int .u8)], [], [.cells [.int .u8, .str, .int .u8, .int .i64, .str, .int .i64, .int .i64], .cells [.int .u8, .str, .int .u8, .int .i64, .str, .int .i64, .int .i64]]⟩), (13, ⟨[(4, .asis), (8, .int .u8), (9, .int .i64), (10, .str)], [], [.cells [.int .u8, .str, .int .u8, .int .i64, .str, .int .i64, .int .i64], .cells [.int .u8, .str, .int .u8, .int .i64, .str, .int .i64, .int .i64]]⟩)]⟩
noncomputable def v42 (N : Nat) : q52 := tab [(135, vv7 N), (136, zr2 N), (137, x16 N), (138, xn6 N), (139, x21 N), (140, yr0 N)]
theorem ko7 (N : Nat) : q14 Tryz.prog (v42 N) := q06 (uk5 N) <| q06 (zt7 N) <| q06 (vh7 N) <| q06 (vo6 N) <| q06 (v45 N) <| q06 (v31 N) <| q26 _
noncomputable def wo4 : Sc := wl4 Tryz.prog zi2
noncomputable def wp1 (N : Nat) : Cfg := ⟨N, v42 N, 0⟩
noncomputable def v21 (N : Nat) : Exit → List TV → List TOb → Option (q45 × Int × Int × Unit) := fin Tryz.prog 0 Tryz.f64.results.toList (q42 [qd3, (.int .i64), (.int .i64)])
def x57 (s : List UInt8) (at_ c : Int) (e : Unit) : List TV := frm 147 [(0, .str s), (1, .int .i64 at_), (4, .ref 0 0), (7, .ref 1 0), (8, .int .u8 c)]
def xb7 (s : List UInt8) (at_ c : Int) (e : Unit) : List TOb := [.cells [.int .u8 0, .str [], .int .u8 0, .int .i64 0, .str [], .int .i64 0, .int .i64 0] 105 true, .cells [.int .u8 0, .str [], .int .u8 0, .int .i64 0, .str [], .int .i64 0, .int .i64 0] 105 true]
def vx0 (c r7 : Int) (name : List UInt8) (e : Unit) : List TV := frm 147 [(4, .ref 0 0), (8, .int .u8 c), (9, .int .i64 r7), (10, .str name)]
def vz8 (c r7 : Int) (name : List UInt8) (e : Unit) : List TOb := [.cells [.int .u8 0, .str [], .int .u8 0, .int .i64 0, .str [], .int .i64 0, .int .i64 0] 105 true, .cells [.int .u8 0, .str [], .int .u8 0, .int .i64 0, .str [], .int .i64 0, .int .i64 0] 105 true]
noncomputable def vt7 (N : Nat) : List TV → List TOb → Option (q45 × Int × Int × Unit) := yz2 DR wo4 (wp1 N) (q92 (zf4 (q07 (qc7 (q92 (q07 (q07 (yq9 (q07 (q92 (q07 (q07 (q07 (q07 (q07 (q10 Tryz.f64)))))))))))))))) (qc5 DR wo4 (wp1 N) (q07 (zf4 (q07 (qc7 (q92 (q07 (q07 (yq9 (q07 (q92 (q07 (q07 (q07 (q07 (q07 (q10 Tryz.f64)))))))))))))))) (zi2.loops.drop 0) (qj4 0 (qc5 DR wo4 (wp1 N) (q07 (q07 (q07 (yq9 (q07 (q92 (q07 (q07 (q07 (q07 (q07 (q10 Tryz.f64)))))))))))) (zi2.loops.drop 0) (qc5 DR wo4 (wp1 N) (q07 (q07 (q07 (q07 (q07 (q07 (q10 Tryz.f64))))))) (zi2.loops.drop 0) (v21 N)))))
def y55 (N : Nat) (c r7 : Int) (name : List UInt8) (e : Unit) : Option (q45 × Int × Int × Unit) :=
 bif (c == 35) then
  some ((6, name, (5, 0, name, ()), (0, 0, ()), ()), r7, 0, ())
 else
  bif (name == ([] : List UInt8)) then
   some ((3, [], (0, 0, [], ()), (0, 0, ()), ()), r7, 0, ())
  else
   some ((2, name, (0, 0, [], ()), (0, 0, ()), ()), r7, 0, ())
theorem km8 (N : Nat) (c r7 : Int) (name : List UInt8) (e : Unit) : jmp N (vt7 N ) ((vx0 c r7 name) e) ((vz8 c r7 name) e) = at1 N (y55 N c r7 name e) := qo8 (by kernel_rfl) N
noncomputable def x87 (N : Nat) : List TV → List TOb → Option (q45 × Int × Int × Unit) := yz2 DR wo4 (wp1 N) (q92 (yq9 (q07 (q92 (q07 (q07 (q07 (q07 (q07 (q10 Tryz.f64)))))))))) (qc5 DR wo4 (wp1 N) (q07 (yq9 (q07 (q92 (q07 (q07 (q07 (q07 (q07 (q10 Tryz.f64)))))))))) (zi2.loops.drop 0) (qc5 DR wo4 (wp1 N) (q07 (q07 (q07 (q07 (q07 (q07 (q10 Tryz.f64))))))) (zi2.loops.drop 0) (v21 N)))
def yk0 (N : Nat) (s : List UInt8) (at_ c : Int) (l2 : Int → Int → (List UInt8) → Unit → Option (q45 × Int × Int × Unit)) (e : Unit) : Option (q45 × Int × Int × Unit) :=
 bif q27 (at_ + 1) then
 (va5 N s (at_ + 1)).bind fun r7 =>
 bif q27 (at_ + 1) then
 bif inB (at_ + 1) r7 s.length then
 bif decide ((((s.take r7.toNat).drop (at_ + 1).toNat).length : Int) > 12) then
  some ((0, [], (0, 0, [], ()), (0, 0, ()), ()), 0, 4, ())
 else
  bif (c == 35) then
   bif (((s.take r7.toNat).drop (at_ + 1).toNat) == ([] : List UInt8)) then
    some ((0, [], (0, 0, [], ()), (0, 0, ()), ()), 0, 4, ())
   else
    l2 c r7 ((s.take r7.toNat).drop (at_ + 1).toNat) ()
  else
   l2 c r7 ((s.take r7.toNat).drop (at_ + 1).toNat) ()
 else none
 else none
 else none
def j18 (N : Nat) (s : List UInt8) (at_ c : Int) (e : Unit) : Option (q45 × Int × Int × Unit) := yk0 N s at_ c (fun c r7 name e => at1 N (y55 N c r7 name e)) e
theorem km5 (N : Nat) (s : List UInt8) (at_ c : Int) (e : Unit) : jmp N (x87 N ) ((x57 s at_ c) e) ((xb7 s at_ c) e) = at1 N (j18 N s at_ c e) := qo8 (by
 have h : (x87 N ) ((x57 s at_ c) e) ((xb7 s at_ c) e) = yk0 N s at_ c (fun c r7 name e => jmp N (vt7 N ) (vx0 c r7 name e) (vz8 c r7 name e)) e := by kernel_rfl
 rw [h]
 simp only [j18, km8] <;> rfl) N
def xz1 (N : Nat) (s : List UInt8) (at_ : Int) (l1 : (List UInt8) → Int → Int → Unit → Option (q45 × Int × Int × Unit)) : Option (q45 × Int × Int × Unit) :=
 bif inR at_ s.length then
 (va5 N s at_).bind fun r =>
 bif decide (r > at_) then
  bif q27 (r - at_) then
  bif decide ((r - at_) > 12) then
   some ((0, [], (0, 0, [], ()), (0, 0, ()), ()), 0, 4, ())
  else
   bif inB at_ r s.length then
   some ((1, ((s.take r.toNat).drop at_.toNat), (0, 0, [], ()), (0, 0, ()), ()), r, 0, ())
   else none
  else none
 else
  bif ((q38 s at_) == 63) then
   l1 s at_ (q38 s at_) ()
  else
   bif ((q38 s at_) == 35) then
    l1 s at_ (q38 s at_) ()
   else
    (wk0 N (q38 s at_)).bind fun r1 =>
    bif r1 then
     (zy4 N s at_).bind fun r2 =>
     bif inB at_ r2 s.length then
     (jc7 N ((s.take r2.toNat).drop at_.toNat)).bind fun r3 =>
     bif (r3.2.1 == 9) then
      some ((0, [], (0, 0, [], ()), (0, 0, ()), ()), 0, r3.2.1, ())
     else
      bif (r3.2.1 != 0) then
       some ((0, [], (0, 0, [], ()), (0, 0, ()), ()), 0, 4, ())
      else
       bif inB at_ r2 s.length then
       some ((4, ((s.take r2.toNat).drop at_.toNat), r3.1, (0, 0, ()), ()), r2, 0, ())
       else none
     else none
    else
     bif ((q38 s at_) == 34) then
      (zz2 N s at_).bind fun r4 =>
      bif decide (r4 < 0) then
       some ((0, [], (0, 0, [], ()), (0, 0, ()), ()), 0, 4, ())
      else
       bif inB at_ r4 s.length then
       (jc7 N ((s.take r4.toNat).drop at_.toNat)).bind fun r5 =>
       bif (r5.2.1 != 0) then
        some ((0, [], (0, 0, [], ()), (0, 0, ()), ()), 0, 4, ())
       else
        bif q27 (at_ + 1) then
        bif q27 (r4 - 1) then
        bif inB (at_ + 1) (r4 - 1) s.length then
        some ((5, ((s.take (r4 - 1).toNat).drop (at_ + 1).toNat), r5.1, (0, 0, ()), ()), r4, 0, ())
        else none
        else none
        else none
       else none
     else
      (j24 N s at_).bind fun r6 =>
      bif decide (r6 < 0) then
       some ((0, [], (0, 0, [], ()), (0, 0, ()), ()), 0, 4, ())
      else
       bif inB at_ r6 s.length then
       some ((7, ((s.take r6.toNat).drop at_.toNat), (0, 0, [], ()), (0, 0, ()), ()), r6, 0, ())
       else none
 else none
def x65 (N : Nat) (s : List UInt8) (at_ : Int) : Option (q45 × Int × Int × Unit) := xz1 N s at_ (fun s at_ c e => at1 N (j18 N s at_ c e))
noncomputable def uj3 (N : Nat) (s : List UInt8) (at_ : Int) : Option (RT [qd3, (.int .i64), (.int .i64)]) := q22 DR Tryz.prog N (v42 N) zi2 Tryz.f64 (q10 Tryz.f64) (RT [qd3, (.int .i64), (.int .i64)]) (qd6 [.str, (.int .i64)] (s, at_, ())) [] (q42 [qd3, (.int .i64), (.int .i64)])
theorem kb3 (N : Nat) (s : List UInt8) (at_ : Int) : uj3 N s at_ = x65 N s at_ := by
 have h : uj3 N s at_ = xz1 N s at_ (fun s at_ c e => jmp N (x87 N ) (x57 s at_ c e) (xb7 s at_ c e)) := by kernel_rfl
 rw [h]
 simp only [x65, km5] <;> rfl
def um4 (m : (List UInt8) → Int → Option (q45 × Int × Int × Unit)) : Ent := q37 [.str, (.int .i64)] [qd3, (.int .i64), (.int .i64)] fun (x : Els [.str, (.int .i64)]) => m x.1 x.2.1
def vh1 (N : Nat) : Ent := um4 (x65 N)
theorem u21 (N : Nat) : q16 Tryz.prog 64 (vh1 N) := q15 (ko7 N) Tryz.func64 rfl (by kernel_rfl) fun (x : Els [.str, (.int .i64)]) => kb3 N x.1 x.2.1
def vd4 : LH := ⟨[(0, .str), (3, .asis), (5, .own qd3 505 105 7), (6, .asis), (7, .int .i64), (8, .int .i64), (9, .int .i64)], [], [.cells [.int .i64, .int .i64], .cells [.int .i64, .int .i64]]⟩
def uv9 : LH := ⟨[(0, .str), (3, .asis), (5, .own qd3 505 105 7), (6, .asis), (7, .int .i64), (8, .int .i64), (9, .int .i64)], [], [.cells [.int .i64, .int .i64], .cells [.int .i64, .int .i64]]⟩
def zr5 : FH := ⟨[vd4, uv9], [], [(4, ⟨2, 77, 0, [], []⟩), (21, ⟨4, 77, 0, [(3, .store true 0)], []⟩), (25, ⟨3, 77, 0, [], []⟩)], [], false, [], []⟩
noncomputable def ub0 (N : Nat) : q52 := tab [(64, vh1 N)]
theorem r6_Lex_Ts (N : Nat) : q14 Tryz.prog (ub0 N) := q06 (u21 N) <| q26 _
noncomputable def zx2 : Sc := wl4 Tryz.prog zr5
noncomputable def zj3 (N : Nat) : Cfg := ⟨N, ub0 N, 0⟩
noncomputable def vv9 (N : Nat) : Exit → List TV → List TOb → Option OX6 := fin Tryz.prog 0 Tryz.f29.results.toList (q42 [(.list qd3), w86, (.int .i64)])
def zw7 (s : List UInt8) (qa8 qe2 q75 q85 : Int) (e : List q45 × Int × Int × Int) : List TV := match e with
 | (out, line, begin, at_) => frm 77 [(0, .str s), (3, .ref 0 0), (5, .tl qd3 out (.own 505 105 7)), (6, .ref 1 0), (7, .int .i64 line), (8, .int .i64 begin), (9, .int .i64 at_)]
def j49 (s : List UInt8) (qa8 qe2 q75 q85 : Int) (e : List q45 × Int × Int × Int) : List TOb := match e with
 | (out, line, begin, at_) => [.cells [.int .i64 qa8, .int .i64 qe2] 31 true, .cells [.int .i64 q75, .int .i64 q85] 31 true]
def vj0 (s : List UInt8) (out : List q45) (line begin qa8 qe2 q75 q85 e : Int) : List TV := match e with
 | at_1 => frm 77 [(0, .str s), (3, .ref 0 0), (5, .tl qd3 out (.own 505 105 7)), (6, .ref 1 0), (7, .int .i64 line), (8, .int .i64 begin), (9, .int .i64 at_1)]
def vh9 (s : List UInt8) (out : List q45) (line begin qa8 qe2 q75 q85 e : Int) : List TOb := match e with
 | at_1 => [.cells [.int .i64 qa8, .int .i64 qe2] 31 true, .cells [.int .i64 q75, .int .i64 q85] 31 true]
noncomputable def uw6 (N : Nat) (K0r : List TV → List TOb → Option OX6) : (List TV → List TOb → Option OX6) → List TV → List TOb → Option OX6 := w57 DR zx2 (zj3 N) (ql8 (qc7 (q92 (yq9 (q07 (zf4 (q07 (zf4 (q07 (qc7 (q07 (q92 (qc7 (q07 (ql8 (qc7 (q92 (q07 (q07 (q07 (q07 (q07 (q07 (q10 Tryz.f29)))))))))))))))))))))))) uv9 (zr5.loops.drop 2) (qj4 3 (qc5 DR zx2 (zj3 N) (q07 (yq9 (q07 (zf4 (q07 (zf4 (q07 (qc7 (q07 (q92 (qc7 (q07 (ql8 (qc7 (q92 (q07 (q07 (q07 (q07 (q07 (q07 (q10 Tryz.f29)))))))))))))))))))))) (zr5.loops.drop 2) (qj4 2 (qc5 DR zx2 (zj3 N) (q07 (qc7 (q07 (ql8 (qc7 (q92 (q07 (q07 (q07 (q07 (q07 (q07 (q10 Tryz.f29))))))))))))) (zr5.loops.drop 2) (qj4 1 (u83 (zj3 N) vd4 (qj4 0 (qc5 DR zx2 (zj3 N) (q07 (q07 (q07 (q07 (q07 (q07 (q07 (q10 Tryz.f29)))))))) (zr5.loops.drop 2) (vv9 N))) K0r))))))
def vc6 (N : Nat) (s : List UInt8) (out : List q45) (line begin qa8 qe2 q75 q85 : Int) (K0 : (List q45 × Int × Int × Int) → Option OX6) (K1 : Int → Option OX6) (e : Int) : Option OX6 :=
 match e with
 | at_1 =>
  bif decide (at_1 < (s.length : Int)) then
   bif inR at_1 s.length then
   bif ((q38 s at_1) != 10) then
    bif q27 (at_1 + 1) then
    K1 (at_1 + 1)
    else none
   else
    K0 (out, line, begin, at_1)
   else none
  else
   K0 (out, line, begin, at_1)
theorem r6_Lex_l2 (N : Nat) (s : List UInt8) (out : List q45) (line begin qa8 qe2 q75 q85 : Int) (K0r : List TV → List TOb → Option OX6) (n_ : Nat) (e : Int) : q61 (uw6 N K0r) n_ ((vj0 s out line begin qa8 qe2 q75 q85) e) ((vh9 s out line begin qa8 qe2 q75 q85) e) = q95 (vc6 N s out line begin qa8 qe2 q75 q85 (fun a => K0r (zw7 s qa8 qe2 q75 q85 a) (j49 s qa8 qe2 q75 q85 a))) n_ e :=
 q40 (vj0 s out line begin qa8 qe2 q75 q85) (vh9 s out line begin qa8 qe2 q75 q85) (by intro K e; kernel_rfl) n_ e
noncomputable def v16 (N : Nat) : (List TV → List TOb → Option OX6) → List TV → List TOb → Option OX6 := w57 DR zx2 (zj3 N) (ql8 (qc7 (q92 (q07 (q07 (q07 (q07 (q07 (q07 (q10 Tryz.f29)))))))))) vd4 (zr5.loops.drop 1) (qj4 0 (qc5 DR zx2 (zj3 N) (q07 (q07 (q07 (q07 (q07 (q07 (q07 (q10 Tryz.f29)))))))) (zr5.loops.drop 2) (vv9 N)))
def xa7 (N : Nat) (s : List UInt8) (qa8 qe2 q75 q85 : Int) (l2 : (List UInt8) → (List q45) → Int → Int → Int → Int → Int → Int → Int → Option OX6) (K0 : (List q45 × Int × Int × Int) → Option OX6) (e : List q45 × Int × Int × Int) : Option OX6 :=
 match e with
 | (out, line, begin, at_) =>
  bif decide (at_ < (s.length : Int)) then
   bif inR at_ s.length then
   bif ((q38 s at_) == 32) then
    bif q27 (at_ + 1) then
    K0 (out, line, begin, at_ + 1)
    else none
   else
    bif ((q38 s at_) == 10) then
     bif q27 (at_ + 1) then
     bif q27 (line + 1) then
     K0 (out, line + 1, at_ + 1, at_ + 1)
     else none
     else none
    else
     bif ((q38 s at_) == 59) then
      l2 s out line begin qa8 qe2 q75 q85 at_
     else
      bif q27 (at_ - begin) then
      bif q27 ((at_ - begin) + 1) then
      (x65 N s at_).bind fun r =>
      bif (r.2.2.1 != 0) then
       some ([], (line, (at_ - begin) + 1, ()), r.2.2.1, ())
      else
       bif qz1 (out.length + ([(r.1.1, r.1.2.1, r.1.2.2.1, (line, (at_ - begin) + 1, ()), ())] : List q45).length) 1954687338268 then
       K0 ((out ++ ([(r.1.1, r.1.2.1, r.1.2.2.1, (line, (at_ - begin) + 1, ()), ())] : List q45)), line, begin, r.2.1)
       else none
      else none
      else none
   else none
  else
   some (out, (q75, q85, ()), 0, ())
def x20 (N : Nat) (s : List UInt8) (qa8 qe2 q75 q85 : Int) (K0 : (List q45 × Int × Int × Int) → Option OX6) (e : List q45 × Int × Int × Int) : Option OX6 := xa7 N s qa8 qe2 q75 q85 (fun s out line begin qa8 qe2 q75 q85 e => q95 (vc6 N s out line begin qa8 qe2 q75 q85 K0) N e) K0 e
theorem r6_Lex_l1 (N : Nat) (s : List UInt8) (qa8 qe2 q75 q85 : Int) (n_ : Nat) (e : List q45 × Int × Int × Int) : q61 (v16 N ) n_ ((zw7 s qa8 qe2 q75 q85) e) ((j49 s qa8 qe2 q75 q85) e) = q95 (x20 N s qa8 qe2 q75 q85 ) n_ e :=
 q40 (zw7 s qa8 qe2 q75 q85) (j49 s qa8 qe2 q75 q85) (by
  intro K e
  have h : (v16 N ) K ((zw7 s qa8 qe2 q75 q85) e) ((j49 s qa8 qe2 q75 q85) e) = xa7 N s qa8 qe2 q75 q85 (fun s out line begin qa8 qe2 q75 q85 e => q61 (uw6 N K) N (vj0 s out line begin qa8 qe2 q75 q85 e) (vh9 s out line begin qa8 qe2 q75 q85 e)) (fun e => K ((zw7 s qa8 qe2 q75 q85) e) ((j49 s qa8 qe2 q75 q85) e)) e := by obtain ⟨out, line, begin, at_⟩ := e; kernel_rfl
  rw [h]
  simp only [x20, r6_Lex_l2] <;> rfl) n_ e
def uf4 (N : Nat) (s : List UInt8) (l1 : (List UInt8) → Int → Int → Int → Int → (List q45 × Int × Int × Int) → Option OX6) : Option OX6 :=
 bif decide ((s.length : Int) > 65536) then
  some ([], (0, 0, ()), 3, ())
 else
  l1 s 0 0 0 0 ([], 1, 0, 0)
def yv5 (N : Nat) (s : List UInt8) : Option OX6 := uf4 N s (fun s qa8 qe2 q75 q85 e => q95 (x20 N s qa8 qe2 q75 q85) N e)
noncomputable def ke8 (N : Nat) (s : List UInt8) : Option (RT [(.list qd3), w86, (.int .i64)]) := q22 DR Tryz.prog N (ub0 N) zr5 Tryz.f29 (q10 Tryz.f29) (RT [(.list qd3), w86, (.int .i64)]) (qd6 [.str] (s, ())) [] (q42 [(.list qd3), w86, (.int .i64)])
theorem ko2 (N : Nat) (s : List UInt8) : ke8 N s = yv5 N s := by
 have h : ke8 N s = uf4 N s (fun s qa8 qe2 q75 q85 e => q61 (v16 N ) N (zw7 s qa8 qe2 q75 q85 e) (j49 s qa8 qe2 q75 q85 e)) := by kernel_rfl
 rw [h]
 simp only [yv5, r6_Lex_l1] <;> rfl
def k19 (m : (List UInt8) → Option OX6) : Ent := q37 [.str] [(.list qd3), w86, (.int .i64)] fun (x : Els [.str]) => m x.1
def vw2 (N : Nat) : Ent := k19 (yv5 N)
theorem uk1 (N : Nat) : q16 Tryz.prog 29 (vw2 N) := q15 (r6_Lex_Ts N) Tryz.func29 rfl (by kernel_rfl) fun (x : Els [.str]) => ko2 N x.1
def v12 : FH := ⟨[], [], [(1, ⟨8, 21, 0, [(7, .app 2003)], []⟩)], [], false, [], []⟩
noncomputable def jq5 (N : Nat) : q52 := tab []
theorem xu4 (N : Nat) : q14 Tryz.prog (jq5 N) := q26 _
def qo0 (N : Nat) (q43 : List q45) (q21 q18 : Int) (q71 : List q24) (q84 q29 : Int) (n : q24) : Option OX0 :=
 bif qz1 (q71.length + ([n] : List q24).length) 1466015503701 then
 bif q27 (((q71 ++ ([n] : List q24)).length : Int) - 1) then
 some (((q43, q21, q18, (q71 ++ ([n] : List q24)), q84, q29, ()), ()), (((q71 ++ ([n] : List q24)).length : Int) - 1, ()))
 else none
 else none
abbrev qm6 : yk5 := ⟨[.ref 0, .val q82], [.cells [.val (.list qd3), .val (.int .i64), .val (.int .i64), .own q82 2003 54 8, .val (.int .i64), .val (.int .i64)] 161], [.arg 0 []], [.val (.int .i64)], true⟩
noncomputable def vi2 (N : Nat) (q43 : List q45) (q21 q18 : Int) (q71 : List q24) (q84 q29 : Int) (n : q24) : Option (ObR qm6) := q22 DR Tryz.prog N (jq5 N) v12 Tryz.f145 (q10 Tryz.f145) (ObR qm6) (encX qm6 ((q43, q21, q18, q71, q84, q29, ()), ()) (n, ())) (encY qm6 ((q43, q21, q18, q71, q84, q29, ()), ())) (kObj qm6)
theorem x50 (N : Nat) (q43 : List q45) (q21 q18 : Int) (q71 : List q24) (q84 q29 : Int) (n : q24) : vi2 N q43 q21 q18 q71 q84 q29 n = qo0 N q43 q21 q18 q71 q84 q29 n := by kernel_rfl
def yt0 (m : (List q45) → Int → Int → (List q24) → Int → Int → q24 → Option OX0) : Ent := yr5 qm6 fun (y : OX2 × Unit) (x : Els [q82]) => m y.1.1 y.1.2.1 y.1.2.2.1 y.1.2.2.2.1 y.1.2.2.2.2.1 y.1.2.2.2.2.2.1 x.1
def w49 (N : Nat) : Ent := yt0 (qo0 N)
theorem we6 (N : Nat) : q16 Tryz.prog 145 (w49 N) := ww2 (xu4 N) Tryz.func145 rfl (by kernel_rfl) (by kernel_rfl) fun (y : OX2 × Unit) (x : Els [q82]) => x50 N y.1.1 y.1.2.1 y.1.2.2.1 y.1.2.2.2.1 y.1.2.2.2.2.1 y.1.2.2.2.2.2.1 x.1
def r7_Call_H : FH := ⟨[], [], [], [], false, [], []⟩
noncomputable def uy9 (N : Nat) : q52 := tab []
theorem kk9 (N : Nat) : q14 Tryz.prog (uy9 N) := q26 _
def j71 (N : Nat) (s : List UInt8) : Option (Int × Int × Int × Unit) :=
 bif (s == ([97, 98, 115] : List UInt8)) then
  some (18, 1, 1, ())
 else
  bif (s == ([109, 105, 110] : List UInt8)) then
   some (19, 1, 8, ())
  else
   bif (s == ([109, 97, 120] : List UInt8)) then
    some (20, 1, 8, ())
   else
    bif (s == ([109, 111, 100] : List UInt8)) then
     some (21, 2, 2, ())
    else
     bif (s == ([108, 101, 110, 103, 116, 104] : List UInt8)) then
      some (22, 1, 1, ())
     else
      bif (s == ([117, 112, 112, 101, 114] : List UInt8)) then
       some (23, 1, 1, ())
      else
       bif (s == ([99, 111, 110, 116, 97, 105, 110, 115] : List UInt8)) then
        some (24, 2, 2, ())
       else
        bif (s == ([115, 116, 97, 114, 116, 115] : List UInt8)) then
         some (25, 2, 2, ())
        else
         bif (s == ([105, 102] : List UInt8)) then
          some (26, 3, 3, ())
         else
          some (0, 0, 0, ())
noncomputable def r7_Call_C (N : Nat) (s : List UInt8) : Option (RT [(.int .u8), (.int .i64), (.int .i64)]) := q22 DR Tryz.prog N (uy9 N) r7_Call_H Tryz.f206 (q10 Tryz.f206) (RT [(.int .u8), (.int .i64), (.int .i64)]) (qd6 [.str] (s, ())) [] (q42 [(.int .u8), (.int .i64), (.int .i64)])
theorem k45 (N : Nat) (s : List UInt8) : r7_Call_C N s = j71 N s := by kernel_rfl
def uy2 (m : (List UInt8) → Option (Int × Int × Int × Unit)) : Ent := q37 [.str] [(.int .u8), (.int .i64), (.int .i64)] fun (x : Els [.str]) => m x.1
def xz0 (N : Nat) : Ent := uy2 (j71 N)
theorem ud8 (N : Nat) : q16 Tryz.prog 206 (xz0 N) := q15 (kk9 N) Tryz.func206 rfl (by kernel_rfl) fun (x : Els [.str]) => k45 N x.1
def xv1 : FH := ⟨[], [], [(1, ⟨32, 52, 0, [], []⟩), (2, ⟨8, 52, 0, [], []⟩)], [], false, [], []⟩
noncomputable def jh0 (N : Nat) : q52 := tab []
theorem xh5 (N : Nat) : q14 Tryz.prog (jh0 N) := q26 _
def qa3 (N : Nat) (r_L : List q45) (wd6 qj3 : Int) (r_T : List q24) (r_E ze3 : Int) : Option (List UInt8) :=
 bif decide (wd6 < (r_L.length : Int)) then
  bif inR wd6 r_L.length then
  bif (((q25 r_L wd6 q34).1) == 1) then
   bif inR wd6 r_L.length then
   some ((q25 r_L wd6 q34).2.1)
   else none
  else
   bif inR wd6 r_L.length then
   bif (((q25 r_L wd6 q34).1) == 7) then
    bif inR wd6 r_L.length then
    some ((q25 r_L wd6 q34).2.1)
    else none
   else
    some []
   else none
  else none
 else
  some []
abbrev j15 : List PK := [.ep 6, .val (.list qd3), .val (.int .i64), .val (.int .i64), .val (.list q82), .val (.int .i64), .val (.int .i64)]
noncomputable def xs5 (N : Nat) (r_L : List q45) (wd6 qj3 : Int) (r_T : List q24) (r_E ze3 : Int) : Option (RT [.str]) := q22 DR Tryz.prog N (jh0 N) xv1 Tryz.f143 (q10 Tryz.f143) (RT [.str]) (qy2 j15 (r_L, wd6, qj3, r_T, r_E, ze3, ())) [] (q42 [.str])
theorem yu5 (N : Nat) (r_L : List q45) (wd6 qj3 : Int) (r_T : List q24) (r_E ze3 : Int) : xs5 N r_L wd6 qj3 r_T r_E ze3 = qa3 N r_L wd6 qj3 r_T r_E ze3 := by kernel_rfl
def yk2 (m : (List q45) → Int → Int → (List q24) → Int → Int → Option (List UInt8)) : Ent := qf5 j15 [.str] fun (x : Els [(.list qd3), (.int .i64), (.int .i64), (.list q82), (.int .i64), (.int .i64)]) => m x.1 x.2.1 x.2.2.1 x.2.2.2.1 x.2.2.2.2.1 x.2.2.2.2.2.1
def qo5 (N : Nat) : Ent := yk2 (qa3 N)
theorem qq7 (N : Nat) : q16 Tryz.prog 143 (qo5 N) := q55 (xh5 N) Tryz.func143 rfl (by kernel_rfl) (by kernel_rfl) fun (x : Els [(.list qd3), (.int .i64), (.int .i64), (.list q82), (.int .i64), (.int .i64)]) => yu5 N x.1 x.2.1 x.2.2.1 x.2.2.2.1 x.2.2.2.2.1 x.2.2.2.2.2.1
noncomputable def zr4 (N : Nat) : q52 := tab []
theorem yh0 (N : Nat) : q14 Tryz.prog (zr4 N) := q26 _
noncomputable def qi3 (N : Nat) : Ent := zm5 Tryz.prog N (zr4 N) ⟨[], [], [], [], false, [], []⟩ Tryz.f205 (q10 Tryz.f205)
theorem ql5 (N : Nat) : q16 Tryz.prog 205 (qi3 N) := qc6 (yh0 N) Tryz.func205 rfl (by kernel_rfl)
def xt1 : FH := ⟨[], [], [], [], false, [143], []⟩
noncomputable def jh9 (N : Nat) : q52 := tab [(143, qo5 N), (205, qi3 N)]
theorem xf1 (N : Nat) : q14 Tryz.prog (jh9 N) := q06 (qq7 N) <| q06 (ql5 N) <| q26 _
def qj7 (N : Nat) (q43 : List q45) (q21 q18 : Int) (q71 : List q24) (q84 q29 : Int) (s : List UInt8) : Option (OX1 × (Unit)) :=
 bif (q84 == 0) then
  (qa3 N q43 q21 q18 q71 q84 q29).bind fun r =>
  bif (!(r == s)) then
   bif (q84 == 0) then
    some (((q43, q21, q18, q71, 4, q21, ()), ()), ())
   else
    bif (q84 == 0) then
     bif q27 (q21 + 1) then
     some (((q43, q21 + 1, q18, q71, q84, q29, ()), ()), ())
     else none
    else
     some (((q43, q21, q18, q71, q84, q29, ()), ()), ())
  else
   bif (q84 == 0) then
    bif q27 (q21 + 1) then
    some (((q43, q21 + 1, q18, q71, q84, q29, ()), ()), ())
    else none
   else
    some (((q43, q21, q18, q71, q84, q29, ()), ()), ())
 else
  bif (q84 == 0) then
   bif q27 (q21 + 1) then
   some (((q43, q21 + 1, q18, q71, q84, q29, ()), ()), ())
   else none
  else
   some (((q43, q21, q18, q71, q84, q29, ()), ()), ())
abbrev qk2 : yk5 := ⟨[.ref 0, .val .str], [.cells [.val (.list qd3), .val (.int .i64), .val (.int .i64), .own q82 2003 54 8, .val (.int .i64), .val (.int .i64)] 161], [.arg 0 []], [], false⟩
noncomputable def xv5 (N : Nat) (q43 : List q45) (q21 q18 : Int) (q71 : List q24) (q84 q29 : Int) (s : List UInt8) : Option (ObR qk2) := q22 DR Tryz.prog N (jh9 N) xt1 Tryz.f208 (q10 Tryz.f208) (ObR qk2) (encX qk2 ((q43, q21, q18, q71, q84, q29, ()), ()) (s, ())) (encY qk2 ((q43, q21, q18, q71, q84, q29, ()), ())) (kObj qk2)
theorem x11 (N : Nat) (q43 : List q45) (q21 q18 : Int) (q71 : List q24) (q84 q29 : Int) (s : List UInt8) : xv5 N q43 q21 q18 q71 q84 q29 s = qj7 N q43 q21 q18 q71 q84 q29 s := by kernel_rfl
def yk4 (m : (List q45) → Int → Int → (List q24) → Int → Int → (List UInt8) → Option (OX1 × (Unit))) : Ent := yr5 qk2 fun (y : OX2 × Unit) (x : Els [.str]) => m y.1.1 y.1.2.1 y.1.2.2.1 y.1.2.2.2.1 y.1.2.2.2.2.1 y.1.2.2.2.2.2.1 x.1
def wh9 (N : Nat) : Ent := yk4 (qj7 N)
theorem z99 (N : Nat) : q16 Tryz.prog 208 (wh9 N) := ww2 (xf1 N) Tryz.func208 rfl (by kernel_rfl) (by kernel_rfl) fun (y : OX2 × Unit) (x : Els [.str]) => x11 N y.1.1 y.1.2.1 y.1.2.2.1 y.1.2.2.2.1 y.1.2.2.2.2.1 y.1.2.2.2.2.2.1 x.1
noncomputable def zm1 (N : Nat) : q52 := tab []
theorem y70 (N : Nat) : q14 Tryz.prog (zm1 N) := q26 _
noncomputable def qz2 (N : Nat) : Ent := zm5 Tryz.prog N (zm1 N) ⟨[], [], [(1, ⟨9, 25, 0, [], []⟩), (2, ⟨8, 25, 0, [], []⟩)], [], false, [], []⟩ Tryz.f142 (q10 Tryz.f142)
theorem wh1 (N : Nat) : q16 Tryz.prog 142 (qz2 N) := qc6 (y70 N) Tryz.func142 rfl (by kernel_rfl)
noncomputable def z86 (N : Nat) : q52 := tab [(205, qi3 N)]
theorem jp8 (N : Nat) : q14 Tryz.prog (z86 N) := q06 (ql5 N) <| q26 _
noncomputable def ql4 (N : Nat) : Ent := zm5 Tryz.prog N (z86 N) ⟨[], [], [], [], false, [], []⟩ Tryz.f144 (q10 Tryz.f144)
theorem qt2 (N : Nat) : q16 Tryz.prog 144 (ql4 N) := qc6 (jp8 N) Tryz.func144 rfl (by kernel_rfl)
def vi0 : LH := ⟨[(0, .int .i64), (1, .str), (5, .lst (.list .str)), (6, .lst (.int .u8)), (7, .int .i64)], [], []⟩
def y50 : FH := ⟨[vi0], [], [], [], false, [], []⟩
noncomputable def xa6 (N : Nat) : q52 := tab []
theorem k48 (N : Nat) : q14 Tryz.prog (xa6 N) := q26 _
noncomputable def vg9 : Sc := wl4 Tryz.prog y50
noncomputable def vh8 (N : Nat) : Cfg := ⟨N, xa6 N, 0⟩
noncomputable def uo5 (N : Nat) : Exit → List TV → List TOb → Option Int := fin Tryz.prog 0 Tryz.f146.results.toList (q42 [(.int .u8)])
def yi4 (level : Int) (s : List UInt8) (words : List (List (List UInt8))) (first : List Int) (e : Int) : List TV := match e with
 | i => frm 40 [(0, .int .i64 level), (1, .str s), (5, .tl (.list .str) words .unk), (6, .tl (.int .u8) first .unk), (7, .int .i64 i)]
def yi2 (level : Int) (s : List UInt8) (words : List (List (List UInt8))) (first : List Int) (e : Int) : List TOb := match e with
 | i => []
noncomputable def v25 (N : Nat) : (List TV → List TOb → Option Int) → List TV → List TOb → Option Int := w57 DR vg9 (vh8 N) (ql8 (qc7 (q07 (q92 (q07 (q07 (q07 (q10 Tryz.f146)))))))) vi0 (y50.loops.drop 1) (qj4 0 (qc5 DR vg9 (vh8 N) (q07 (q07 (q07 (q07 (q10 Tryz.f146))))) (y50.loops.drop 1) (uo5 N)))
def yp2 (N : Nat) (level : Int) (s : List UInt8) (words : List (List (List UInt8))) (first : List Int) (K0 : Int → Option Int) (e : Int) : Option Int :=
 match e with
 | i =>
  bif inR level words.length then
  bif decide (i < ((q25 words level []).length : Int)) then
   bif inR level words.length then
   bif inR i (q25 words level []).length then
   bif ((q25 (q25 words level []) i []) == s) then
    bif inR level first.length then
    some (IntKind.u8.wrap ((q25 first level 0) + (IntKind.u8.wrap i)))
    else none
   else
    bif q27 (i + 1) then
    K0 (i + 1)
    else none
   else none
   else none
  else
   some 0
  else none
theorem k92 (N : Nat) (level : Int) (s : List UInt8) (words : List (List (List UInt8))) (first : List Int) (n_ : Nat) (e : Int) : q61 (v25 N ) n_ ((yi4 level s words first) e) ((yi2 level s words first) e) = q95 (yp2 N level s words first ) n_ e :=
 q40 (yi4 level s words first) (yi2 level s words first) (by intro K e; kernel_rfl) n_ e
def xd9 (N : Nat) (level : Int) (s : List UInt8) (l1 : Int → (List UInt8) → (List (List (List UInt8))) → (List Int) → Int → Option Int) : Option Int :=
 l1 level s ([[[111, 114]], [[97, 110, 100]], [], [[61], [60, 62], [60], [60, 61], [62], [62, 61]], [[43], [45]], [[42], [47]], []]) [4, 5, 0, 7, 13, 15, 0] 0
def j73 (N : Nat) (level : Int) (s : List UInt8) : Option Int := xd9 N level s (fun level s words first e => q95 (yp2 N level s words first) N e)
noncomputable def vz7 (N : Nat) (level : Int) (s : List UInt8) : Option (RT [(.int .u8)]) := q22 DR Tryz.prog N (xa6 N) y50 Tryz.f146 (q10 Tryz.f146) (RT [(.int .u8)]) (qd6 [(.int .i64), .str] (level, s, ())) [] (q42 [(.int .u8)])
theorem ux3 (N : Nat) (level : Int) (s : List UInt8) : vz7 N level s = j73 N level s := by
 have h : vz7 N level s = xd9 N level s (fun level s words first e => q61 (v25 N ) N (yi4 level s words first e) (yi2 level s words first e)) := by kernel_rfl
 rw [h]
 simp only [j73, k92] <;> rfl
def u93 (m : Int → (List UInt8) → Option Int) : Ent := q37 [(.int .i64), .str] [(.int .u8)] fun (x : Els [(.int .i64), .str]) => m x.1 x.2.1
def xk3 (N : Nat) : Ent := u93 (j73 N)
theorem vl7 (N : Nat) : q16 Tryz.prog 146 (xk3 N) := q15 (k48 N) Tryz.func146 rfl (by kernel_rfl) fun (x : Els [(.int .i64), .str]) => ux3 N x.1 x.2.1
end Go.Proofs.YtgicljncknbgcaaGreat.Abs
