/- The functions of the program, told on typed values, printed by a program: each tells what the reckoning of its body tells. -/
import Derived.Test.YtgicljncknbgcaaGreatL7
import Derived.Test.YtgicljncknbgcaaGreatG2
import Derived.Test.YtgicljncknbgcaaGreatLA
import Derived.Test.YtgicljncknbgcaaGreatProg
set_option linter.unusedVariables false
set_option linter.unusedSimpArgs false
set_option linter.unusedSectionVars false
namespace Go.Proofs.YtgicljncknbgcaaGreat.Abs
set_option maxRecDepth 100000
open Go Go.Proofs
abbrev qg4 : yk5 := ⟨[.ref 0, .val (.int .i64)], [.cells [.val (.list qd3), .val (.int .i64), .val (.int .i64), .own q82 2003 54 8, .val (.int .i64), .val (.int .i64)] 161], [.arg 0 []], [.val (.int .i64)], true⟩
def qh0 (m : (List q45) → Int → Int → (List q24) → Int → Int → Int → Option OX0) : Ent := yr5 qg4 fun (y : OX2 × Unit) (x : Els [(.int .i64)]) => m y.1.1 y.1.2.1 y.1.2.2.1 y.1.2.2.2.1 y.1.2.2.2.2.1 y.1.2.2.2.2.2.1 x.1
abbrev qg6 : yk5 := ⟨[.ref 0], [.cells [.val (.list qd3), .val (.int .i64), .val (.int .i64), .own q82 2003 54 8, .val (.int .i64), .val (.int .i64)] 161], [.arg 0 []], [.val (.int .i64)], true⟩
def wc7 (m : (List q45) → Int → Int → (List q24) → Int → Int → Option OX0) : Ent := yr5 qg6 fun (y : OX2 × Unit) (x : Els []) => m y.1.1 y.1.2.1 y.1.2.2.1 y.1.2.2.2.1 y.1.2.2.2.2.1 y.1.2.2.2.2.2.1 
abbrev qg0 : yk5 := ⟨[.ref 0, .val (.int .u8), .val (.int .i64), .val (.int .i64)], [.cells [.val (.list qd3), .val (.int .i64), .val (.int .i64), .own q82 2003 54 8, .val (.int .i64), .val (.int .i64)] 161], [.arg 0 []], [.val (.int .i64)], true⟩
def wc9 (m : (List q45) → Int → Int → (List q24) → Int → Int → Int → Int → Int → Option OX0) : Ent := yr5 qg0 fun (y : OX2 × Unit) (x : Els [(.int .u8), (.int .i64), (.int .i64)]) => m y.1.1 y.1.2.1 y.1.2.2.1 y.1.2.2.2.1 y.1.2.2.2.2.1 y.1.2.2.2.2.2.1 x.1 x.2.1 x.2.2.1
structure Gr0 where
 n : Nat
 r7_Reader_expr : (List q45) → Int → Int → (List q24) → Int → Int → Int → Option OX0
 r7_Reader_atom : (List q45) → Int → Int → (List q24) → Int → Int → Option OX0
 r7_Reader_call : (List q45) → Int → Int → (List q24) → Int → Int → Int → Int → Int → Option OX0
structure vd3 (N : Gr0) : Prop where
 r7_Reader_expr : q16 Tryz.prog 65 (qh0 N.r7_Reader_expr)
 r7_Reader_atom : q16 Tryz.prog 141 (wc7 N.r7_Reader_atom)
 r7_Reader_call : q16 Tryz.prog 207 (wc9 N.r7_Reader_call)
def wr5 : LH := ⟨[(0, .asis), (1, .int .i64), (8, .int .i64)], [(0, [.lst qd3, .int .i64, .int .i64, .own q82 2003 54 8, .int .i64, .int .i64])], [.cells [.int .i64, .int .i64]]⟩
def q81 : FH := ⟨[wr5], [], [], [], false, [142, 143], [(6, ⟨[(0, .asis), (1, .int .i64), (5, .asis)], [(0, [.lst qd3, .int .i64, .int .i64, .own q82 2003 54 8, .int .i64, .int .i64])], [.cells [.int .i64, .int .i64]]⟩), (7, ⟨[(0, .asis), (1, .int .i64), (5, .asis)], [(0, [.lst qd3, .int .i64, .int .i64, .own q82 2003 54 8, .int .i64, .int .i64])], [.cells [.int .i64, .int .i64]]⟩), (10, ⟨[(0, .asis), (1, .int .i64), (5, .asis), (6, .int .u8)], [(0, [.lst qd3, .int .i64, .int .i64, .own q82 2003 54 8, .int .i64, .int .i64])], [.cells [.int .i64, .int .i64]]⟩), (11, ⟨[(0, .asis), (1, .int .i64), (5, .asis), (6, .int .u8)], [(0, [.lst qd3, .int .i64, .int .i64, .own q82 2003 54 8, .int .i64, .int .i64])], [.cells [.int .i64, .int .i64]]⟩), (17, ⟨[(0, .asis), (1, .int .i64)], [(0, [.lst qd3, .int .i64, .int .i64, .own q82 2003 54 8, .int .i64, .int .i64])], [.cells [.int .i64, .int .i64]]⟩), (20, ⟨[(0, .asis), (1, .int .i64), (8, .int .i64), (9, .asis)], [(0, [.lst qd3, .int .i64, .int .i64, .own q82 2003 54 8, .int .i64, .int .i64])], [.cells [.int .i64, .int .i64], .cells [.int .u8, .int .u8, .int .i64, .str, .str, .own (.int .i64) 2205 3 1, .int .i64, .int .i64]]⟩)]⟩
noncomputable def z33 (N : Gr0) : q52 := tab [(141, wc7 N.r7_Reader_atom), (142, qz2 N.n), (143, qo5 N.n), (144, ql4 N.n), (65, qh0 N.r7_Reader_expr), (145, w49 N.n), (146, xk3 N.n)]
theorem xg3 (N : Gr0) (h : vd3 N) : q14 Tryz.prog (z33 N) := q06 h.r7_Reader_atom <| q06 (wh1 N.n) <| q06 (qq7 N.n) <| q06 (qt2 N.n) <| q06 h.r7_Reader_expr <| q06 (we6 N.n) <| q06 (vl7 N.n) <| q26 _
noncomputable def q60 : Sc := wl4 Tryz.prog q81
noncomputable def q59 (N : Gr0) : Cfg := ⟨N.n, z33 N, 1⟩
noncomputable def qe6 (N : Gr0) : Exit → List TV → List TOb → Option OX0 := fin Tryz.prog 1 Tryz.f65.results.toList (kObj qg4)
def wo7 (level : Int) (q43 : List q45) (q21 q18 : Int) (q71 : List q24) (q84 q29 : Int) (e : Int × Int) : List TV := match e with
 | (q35, q50) => frm 116 [(0, .ref 0 0), (1, .int .i64 level), (5, .ref 1 0)]
def wr3 (level : Int) (q43 : List q45) (q21 q18 : Int) (q71 : List q24) (q84 q29 : Int) (e : Int × Int) : List TOb := match e with
 | (q35, q50) => [.cells [.tl qd3 q43 .unk, .int .i64 q21, .int .i64 q18, .tl q82 q71 (.own 2003 54 8), .int .i64 q84, .int .i64 q29] 161 true, .cells [.int .i64 q35, .int .i64 q50] 31 true]
def wp7 (level : Int) (q43 : List q45) (q21 q18 : Int) (q71 : List q24) (q84 q29 q35 q50 : Int) (e : Unit) : List TV := frm 116 [(0, .ref 0 0), (1, .int .i64 level)]
def wp4 (level : Int) (q43 : List q45) (q21 q18 : Int) (q71 : List q24) (q84 q29 q35 q50 : Int) (e : Unit) : List TOb := [.cells [.tl qd3 q43 .unk, .int .i64 q21, .int .i64 q18, .tl q82 q71 (.own 2003 54 8), .int .i64 q84, .int .i64 q29] 161 true, .cells [.int .i64 q35, .int .i64 q50] 31 true]
def qk1 (level q35 q50 : Int) (e : Int × List q45 × Int × Int × List q24 × Int × Int) : List TV := match e with
 | (a, r_L, wd6, qd4, r_T, yc8, qk7) => frm 116 [(0, .ref 0 0), (1, .int .i64 level), (8, .int .i64 a)]
def qk5 (level q35 q50 : Int) (e : Int × List q45 × Int × Int × List q24 × Int × Int) : List TOb := match e with
 | (a, r_L, wd6, qd4, r_T, yc8, qk7) => [.cells [.tl qd3 r_L .unk, .int .i64 wd6, .int .i64 qd4, .tl q82 r_T (.own 2003 54 8), .int .i64 yc8, .int .i64 qk7] 161 true, .cells [.int .i64 q35, .int .i64 q50] 31 true]
def zy1 (level a : Int) (r_L : List q45) (wd6 qd4 : Int) (r_T : List q24) (yc8 qk7 q35 q50 r10 : Int) (e : Int × Int) : List TV := match e with
 | (q13, q17) => frm 116 [(0, .ref 0 0), (1, .int .i64 level), (8, .int .i64 a), (9, .ref 2 0)]
def zw1 (level a : Int) (r_L : List q45) (wd6 qd4 : Int) (r_T : List q24) (yc8 qk7 q35 q50 r10 : Int) (e : Int × Int) : List TOb := match e with
 | (q13, q17) => [.cells [.tl qd3 r_L .unk, .int .i64 wd6, .int .i64 qd4, .tl q82 r_T (.own 2003 54 8), .int .i64 yc8, .int .i64 qk7] 161 true, .cells [.int .i64 q35, .int .i64 q50] 31 true, .cells [.int .u8 r10, .int .u8 0, .int .i64 0, .str [], .str [], .tl (.int .i64) [] (.own 2205 3 1), .int .i64 q13, .int .i64 q17] 54 true]
def wq9 (level : Int) (q43 : List q45) (q21 q18 : Int) (q71 : List q24) (q84 q29 q35 q50 : Int) (e : Unit) : List TV := frm 116 [(0, .ref 0 0), (1, .int .i64 level), (5, .ref 1 0)]
def wr2 (level : Int) (q43 : List q45) (q21 q18 : Int) (q71 : List q24) (q84 q29 q35 q50 : Int) (e : Unit) : List TOb := [.cells [.tl qd3 q43 .unk, .int .i64 q21, .int .i64 q18, .tl q82 q71 (.own 2003 54 8), .int .i64 q84, .int .i64 q29] 161 true, .cells [.int .i64 q35, .int .i64 q50] 31 true]
def wr1 (level : Int) (q43 : List q45) (q21 q18 : Int) (q71 : List q24) (q84 q29 q35 q50 e : Int) : List TV := match e with
 | op => frm 116 [(0, .ref 0 0), (1, .int .i64 level), (5, .ref 1 0), (6, .int .u8 op)]
def wo2 (level : Int) (q43 : List q45) (q21 q18 : Int) (q71 : List q24) (q84 q29 q35 q50 e : Int) : List TOb := match e with
 | op => [.cells [.tl qd3 q43 .unk, .int .i64 q21, .int .i64 q18, .tl q82 q71 (.own 2003 54 8), .int .i64 q84, .int .i64 q29] 161 true, .cells [.int .i64 q35, .int .i64 q50] 31 true]
def j36 (level op : Int) (q43 : List q45) (q21 qj3 : Int) (q71 : List q24) (q35 q50 : Int) (e : Int × Int) : List TV := match e with
 | (r_E, ze3) => frm 116 [(0, .ref 0 0), (1, .int .i64 level), (5, .ref 1 0), (6, .int .u8 op)]
def zw9 (level op : Int) (q43 : List q45) (q21 qj3 : Int) (q71 : List q24) (q35 q50 : Int) (e : Int × Int) : List TOb := match e with
 | (r_E, ze3) => [.cells [.tl qd3 q43 .unk, .int .i64 q21, .int .i64 qj3, .tl q82 q71 (.own 2003 54 8), .int .i64 r_E, .int .i64 ze3] 161 true, .cells [.int .i64 q35, .int .i64 q50] 31 true]
noncomputable def j48 (N : Gr0) : List TV → List TOb → Option OX0 := yz2 DR q60 (q59 N) (q92 (q92 (q07 (q07 (q07 (yq9 (q07 (q92 (q07 (q07 (q07 (q07 (q10 Tryz.f65))))))))))))) (qc5 DR q60 (q59 N) (q07 (q92 (q07 (q07 (q07 (yq9 (q07 (q92 (q07 (q07 (q07 (q07 (q10 Tryz.f65))))))))))))) (q81.loops.drop 0) (qc5 DR q60 (q59 N) (q07 (q07 (q07 (q07 (yq9 (q07 (q92 (q07 (q07 (q07 (q07 (q10 Tryz.f65)))))))))))) (q81.loops.drop 0) (qc5 DR q60 (q59 N) (q07 (q07 (q07 (q07 (q07 (q10 Tryz.f65)))))) (q81.loops.drop 0) (qe6 N))))
def w54 (N : Gr0) (level op : Int) (q43 : List q45) (q21 qj3 : Int) (q71 : List q24) (q35 q50 : Int) (e : Int × Int) : Option OX0 :=
 match e with
 | (r_E, ze3) =>
  bif (r_E != 0) then
   some (((q43, q21, qj3, q71, r_E, ze3, ()), ()), ((-1), ()))
  else
   bif q27 (q21 + 1) then
   (N.r7_Reader_expr q43 (q21 + 1) qj3 q71 r_E ze3 level).bind fun r4 =>
   bif q27 (r4.1.1.2.2.1 - 1) then
   (qo0 N.n r4.1.1.1 r4.1.1.2.1 (r4.1.1.2.2.1 - 1) r4.1.1.2.2.2.1 r4.1.1.2.2.2.2.1 r4.1.1.2.2.2.2.2.1 (op, (0, 0, [], ()), [], [r4.2.1], (q35, q50, ()), ())).bind fun r5 =>
   some (r5.1, r5.2)
   else none
   else none
theorem xa1 (N : Gr0) (level op : Int) (q43 : List q45) (q21 qj3 : Int) (q71 : List q24) (q35 q50 : Int) (e : Int × Int) : jmp N.n (j48 N ) ((j36 level op q43 q21 qj3 q71 q35 q50) e) ((zw9 level op q43 q21 qj3 q71 q35 q50) e) = at1 N.n (w54 N level op q43 q21 qj3 q71 q35 q50 e) := qo8 (by obtain ⟨r_E, ze3⟩ := e; kernel_rfl) N.n
noncomputable def wr6 (N : Gr0) : List TV → List TOb → Option OX0 := yz2 DR q60 (q59 N) (q92 (q07 (q07 (yq9 (q07 (q92 (q07 (q07 (q07 (q07 (q10 Tryz.f65))))))))))) (qc5 DR q60 (q59 N) (q07 (q07 (q07 (yq9 (q07 (q92 (q07 (q07 (q07 (q07 (q10 Tryz.f65))))))))))) (q81.loops.drop 0) (qc5 DR q60 (q59 N) (q07 (q07 (q07 (q07 (q07 (q10 Tryz.f65)))))) (q81.loops.drop 0) (qe6 N)))
def wh4 (N : Gr0) (level : Int) (q43 : List q45) (q21 q18 : Int) (q71 : List q24) (q84 q29 q35 q50 : Int) (l5 : Int → Int → (List q45) → Int → Int → (List q24) → Int → Int → (Int × Int) → Option OX0) (e : Int) : Option OX0 :=
 match e with
 | op =>
  bif decide (q18 ≥ 12) then
   bif (q84 == 0) then
    bif q27 (q18 + 1) then
    l5 level op q43 q21 (q18 + 1) q71 q35 q50 (12, q21)
    else none
   else
    bif q27 (q18 + 1) then
    l5 level op q43 q21 (q18 + 1) q71 q35 q50 (q84, q29)
    else none
  else
   bif q27 (q18 + 1) then
   l5 level op q43 q21 (q18 + 1) q71 q35 q50 (q84, q29)
   else none
def qr4 (N : Gr0) (level : Int) (q43 : List q45) (q21 q18 : Int) (q71 : List q24) (q84 q29 q35 q50 e : Int) : Option OX0 := wh4 N level q43 q21 q18 q71 q84 q29 q35 q50 (fun level op q43 q21 qj3 q71 q35 q50 e => at1 N.n (w54 N level op q43 q21 qj3 q71 q35 q50 e)) e
theorem xb6 (N : Gr0) (level : Int) (q43 : List q45) (q21 q18 : Int) (q71 : List q24) (q84 q29 q35 q50 e : Int) : jmp N.n (wr6 N ) ((wr1 level q43 q21 q18 q71 q84 q29 q35 q50) e) ((wo2 level q43 q21 q18 q71 q84 q29 q35 q50) e) = at1 N.n (qr4 N level q43 q21 q18 q71 q84 q29 q35 q50 e) := qo8 (by
 have h : (wr6 N ) ((wr1 level q43 q21 q18 q71 q84 q29 q35 q50) e) ((wo2 level q43 q21 q18 q71 q84 q29 q35 q50) e) = wh4 N level q43 q21 q18 q71 q84 q29 q35 q50 (fun level op q43 q21 qj3 q71 q35 q50 e => jmp N.n (j48 N ) (j36 level op q43 q21 qj3 q71 q35 q50 e) (zw9 level op q43 q21 qj3 q71 q35 q50 e)) e := by kernel_rfl
 rw [h]
 simp only [qr4, xa1] <;> rfl) N.n
noncomputable def wq5 (N : Gr0) : List TV → List TOb → Option OX0 := yz2 DR q60 (q59 N) (q92 (yq9 (q07 (q92 (q07 (q07 (q07 (q07 (q10 Tryz.f65))))))))) (qc5 DR q60 (q59 N) (q07 (yq9 (q07 (q92 (q07 (q07 (q07 (q07 (q10 Tryz.f65))))))))) (q81.loops.drop 0) (qc5 DR q60 (q59 N) (q07 (q07 (q07 (q07 (q07 (q10 Tryz.f65)))))) (q81.loops.drop 0) (qe6 N)))
def wj1 (N : Gr0) (level : Int) (q43 : List q45) (q21 q18 : Int) (q71 : List q24) (q84 q29 q35 q50 : Int) (l4 : Int → (List q45) → Int → Int → (List q24) → Int → Int → Int → Int → Int → Option OX0) (e : Unit) : Option OX0 :=
 bif (level == 6) then
  l4 level q43 q21 q18 q71 q84 q29 q35 q50 17
 else
  l4 level q43 q21 q18 q71 q84 q29 q35 q50 6
def qk3 (N : Gr0) (level : Int) (q43 : List q45) (q21 q18 : Int) (q71 : List q24) (q84 q29 q35 q50 : Int) (e : Unit) : Option OX0 := wj1 N level q43 q21 q18 q71 q84 q29 q35 q50 (fun level q43 q21 q18 q71 q84 q29 q35 q50 e => at1 N.n (qr4 N level q43 q21 q18 q71 q84 q29 q35 q50 e)) e
theorem xe0 (N : Gr0) (level : Int) (q43 : List q45) (q21 q18 : Int) (q71 : List q24) (q84 q29 q35 q50 : Int) (e : Unit) : jmp N.n (wq5 N ) ((wq9 level q43 q21 q18 q71 q84 q29 q35 q50) e) ((wr2 level q43 q21 q18 q71 q84 q29 q35 q50) e) = at1 N.n (qk3 N level q43 q21 q18 q71 q84 q29 q35 q50 e) := qo8 (by
 have h : (wq5 N ) ((wq9 level q43 q21 q18 q71 q84 q29 q35 q50) e) ((wr2 level q43 q21 q18 q71 q84 q29 q35 q50) e) = wj1 N level q43 q21 q18 q71 q84 q29 q35 q50 (fun level q43 q21 q18 q71 q84 q29 q35 q50 e => jmp N.n (wr6 N ) (wr1 level q43 q21 q18 q71 q84 q29 q35 q50 e) (wo2 level q43 q21 q18 q71 q84 q29 q35 q50 e)) e := by kernel_rfl
 rw [h]
 simp only [qk3, xb6] <;> rfl) N.n
noncomputable def j28 (N : Gr0) (K0r : List TV → List TOb → Option OX0) : List TV → List TOb → Option OX0 := yz2 DR q60 (q59 N) (q92 (q07 (qc7 (q07 (ql8 (qc7 (q92 (q07 (q07 (q07 (q07 (q07 (q07 (q10 Tryz.f65)))))))))))))) (qc5 DR q60 (q59 N) (q07 (q07 (qc7 (q07 (ql8 (qc7 (q92 (q07 (q07 (q07 (q07 (q07 (q07 (q10 Tryz.f65)))))))))))))) (q81.loops.drop 1) (qj4 1 (u83 (q59 N) wr5 (qj4 0 (qc5 DR q60 (q59 N) (q07 (q07 (q07 (q07 (q07 (q07 (q07 (q10 Tryz.f65)))))))) (q81.loops.drop 1) (qe6 N))) K0r)))
def w56 (N : Gr0) (level a : Int) (r_L : List q45) (wd6 qd4 : Int) (r_T : List q24) (yc8 qk7 q35 q50 r10 : Int) (K0 : OX8 → Option OX0) (e : Int × Int) : Option OX0 :=
 match e with
 | (q13, q17) =>
  bif q27 (wd6 + 1) then
  bif q27 (level + 1) then
  (N.r7_Reader_expr r_L (wd6 + 1) qd4 r_T yc8 qk7 (level + 1)).bind fun r11 =>
  (qo0 N.n r11.1.1.1 r11.1.1.2.1 r11.1.1.2.2.1 r11.1.1.2.2.2.1 r11.1.1.2.2.2.2.1 r11.1.1.2.2.2.2.2.1 (r10, (0, 0, [], ()), [], [a, r11.2.1], (q13, q17, ()), ())).bind fun r12 =>
  bif (level == 3) then
   some (r12.1, r12.2)
  else
   K0 (r12.2.1, r12.1.1.1, r12.1.1.2.1, r12.1.1.2.2.1, r12.1.1.2.2.2.1, r12.1.1.2.2.2.2.1, r12.1.1.2.2.2.2.2.1)
  else none
  else none
theorem xc4 (N : Gr0) (level a : Int) (r_L : List q45) (wd6 qd4 : Int) (r_T : List q24) (yc8 qk7 q35 q50 r10 : Int) (K0r : List TV → List TOb → Option OX0) (e : Int × Int) : jmp N.n (j28 N K0r) ((zy1 level a r_L wd6 qd4 r_T yc8 qk7 q35 q50 r10) e) ((zw1 level a r_L wd6 qd4 r_T yc8 qk7 q35 q50 r10) e) = at1 N.n (w56 N level a r_L wd6 qd4 r_T yc8 qk7 q35 q50 r10 (fun a => K0r (qk1 level q35 q50 a) (qk5 level q35 q50 a)) e) := qo8 (by obtain ⟨q13, q17⟩ := e; kernel_rfl) N.n
noncomputable def wq2 (N : Gr0) : (List TV → List TOb → Option OX0) → List TV → List TOb → Option OX0 := w57 DR q60 (q59 N) (ql8 (qc7 (q92 (q07 (q07 (q07 (q07 (q07 (q07 (q10 Tryz.f65)))))))))) wr5 (q81.loops.drop 1) (qj4 0 (qc5 DR q60 (q59 N) (q07 (q07 (q07 (q07 (q07 (q07 (q07 (q10 Tryz.f65)))))))) (q81.loops.drop 1) (qe6 N)))
def wg6 (N : Gr0) (level q35 q50 : Int) (l7 : Int → Int → (List q45) → Int → Int → (List q24) → Int → Int → Int → Int → Int → (Int × Int) → Option OX0) (K0 : OX8 → Option OX0) (e : Int × List q45 × Int × Int × List q24 × Int × Int) : Option OX0 :=
 match e with
 | (a, r_L, wd6, qd4, r_T, yc8, qk7) =>
  bif (yc8 == 0) then
   (qa3 N.n r_L wd6 qd4 r_T yc8 qk7).bind fun r7 =>
   (j73 N.n level r7).bind fun r8 =>
   bif (r8 != 0) then
    (qa3 N.n r_L wd6 qd4 r_T yc8 qk7).bind fun r9 =>
    (j73 N.n level r9).bind fun r10 =>
    bif decide (wd6 < (r_L.length : Int)) then
     bif inR wd6 r_L.length then
     l7 level a r_L wd6 qd4 r_T yc8 qk7 q35 q50 r10 (((q25 r_L wd6 q34).2.2.2.1).1, ((q25 r_L wd6 q34).2.2.2.1).2.1)
     else none
    else
     l7 level a r_L wd6 qd4 r_T yc8 qk7 q35 q50 r10 (0, 0)
   else
    some (((r_L, wd6, qd4, r_T, yc8, qk7, ()), ()), (a, ()))
  else
   some (((r_L, wd6, qd4, r_T, yc8, qk7, ()), ()), (a, ()))
def w32 (N : Gr0) (level q35 q50 : Int) (K0 : OX8 → Option OX0) (e : Int × List q45 × Int × Int × List q24 × Int × Int) : Option OX0 := wg6 N level q35 q50 (fun level a r_L wd6 qd4 r_T yc8 qk7 q35 q50 r10 e => at1 N.n (w56 N level a r_L wd6 qd4 r_T yc8 qk7 q35 q50 r10 K0 e)) K0 e
theorem x61 (N : Gr0) (level q35 q50 : Int) (n_ : Nat) (e : Int × List q45 × Int × Int × List q24 × Int × Int) : q61 (wq2 N ) n_ ((qk1 level q35 q50) e) ((qk5 level q35 q50) e) = q95 (w32 N level q35 q50 ) n_ e :=
 q40 (qk1 level q35 q50) (qk5 level q35 q50) (by
  intro K e
  have h : (wq2 N ) K ((qk1 level q35 q50) e) ((qk5 level q35 q50) e) = wg6 N level q35 q50 (fun level a r_L wd6 qd4 r_T yc8 qk7 q35 q50 r10 e => jmp N.n (j28 N K) (zy1 level a r_L wd6 qd4 r_T yc8 qk7 q35 q50 r10 e) (zw1 level a r_L wd6 qd4 r_T yc8 qk7 q35 q50 r10 e)) (fun e => K ((qk1 level q35 q50) e) ((qk5 level q35 q50) e)) e := by obtain ⟨a, r_L, wd6, qd4, r_T, yc8, qk7⟩ := e; kernel_rfl
  rw [h]
  simp only [w32, xc4] <;> rfl) n_ e
noncomputable def wp0 (N : Gr0) : List TV → List TOb → Option OX0 := yz2 DR q60 (q59 N) (q92 (q07 (q07 (q07 (q07 (q07 (q10 Tryz.f65))))))) (qc5 DR q60 (q59 N) (q07 (q07 (q07 (q07 (q07 (q07 (q10 Tryz.f65))))))) (q81.loops.drop 0) (qe6 N))
def wh3 (N : Gr0) (level : Int) (q43 : List q45) (q21 q18 : Int) (q71 : List q24) (q84 q29 q35 q50 : Int) (l6 : Int → Int → Int → OX8 → Option OX0) (e : Unit) : Option OX0 :=
 bif q27 (level + 1) then
 (N.r7_Reader_expr q43 q21 q18 q71 q84 q29 (level + 1)).bind fun r6 =>
 l6 level q35 q50 (r6.2.1, r6.1.1.1, r6.1.1.2.1, r6.1.1.2.2.1, r6.1.1.2.2.2.1, r6.1.1.2.2.2.2.1, r6.1.1.2.2.2.2.2.1)
 else none
def qf7 (N : Gr0) (level : Int) (q43 : List q45) (q21 q18 : Int) (q71 : List q24) (q84 q29 q35 q50 : Int) (e : Unit) : Option OX0 := wh3 N level q43 q21 q18 q71 q84 q29 q35 q50 (fun level q35 q50 e => q95 (w32 N level q35 q50) N.n e) e
theorem xh3 (N : Gr0) (level : Int) (q43 : List q45) (q21 q18 : Int) (q71 : List q24) (q84 q29 q35 q50 : Int) (e : Unit) : jmp N.n (wp0 N ) ((wp7 level q43 q21 q18 q71 q84 q29 q35 q50) e) ((wp4 level q43 q21 q18 q71 q84 q29 q35 q50) e) = at1 N.n (qf7 N level q43 q21 q18 q71 q84 q29 q35 q50 e) := qo8 (by
 have h : (wp0 N ) ((wp7 level q43 q21 q18 q71 q84 q29 q35 q50) e) ((wp4 level q43 q21 q18 q71 q84 q29 q35 q50) e) = wh3 N level q43 q21 q18 q71 q84 q29 q35 q50 (fun level q35 q50 e => q61 (wq2 N ) N.n (qk1 level q35 q50 e) (qk5 level q35 q50 e)) e := by kernel_rfl
 rw [h]
 simp only [qf7, x61] <;> rfl) N.n
noncomputable def wo5 (N : Gr0) : List TV → List TOb → Option OX0 := yz2 DR q60 (q59 N) (q92 (q92 (q07 (q07 (q07 (q07 (q10 Tryz.f65))))))) (qc5 DR q60 (q59 N) (q07 (q92 (q07 (q07 (q07 (q07 (q10 Tryz.f65))))))) (q81.loops.drop 0) (qc5 DR q60 (q59 N) (q07 (q07 (q07 (q07 (q07 (q10 Tryz.f65)))))) (q81.loops.drop 0) (qe6 N)))
def wk8 (N : Gr0) (level : Int) (q43 : List q45) (q21 q18 : Int) (q71 : List q24) (q84 q29 : Int) (l2 l3 : Int → (List q45) → Int → Int → (List q24) → Int → Int → Int → Int → Unit → Option OX0) (e : Int × Int) : Option OX0 :=
 match e with
 | (q35, q50) =>
  bif (level == 2) then
   (qa3 N.n q43 q21 q18 q71 q84 q29).bind fun r1 =>
   bif (r1 == ([110, 111, 116] : List UInt8)) then
    l2 level q43 q21 q18 q71 q84 q29 q35 q50 ()
   else
    bif (level == 6) then
     (qa3 N.n q43 q21 q18 q71 q84 q29).bind fun r2 =>
     bif (r2 == ([45] : List UInt8)) then
      l2 level q43 q21 q18 q71 q84 q29 q35 q50 ()
     else
      l3 level q43 q21 q18 q71 q84 q29 q35 q50 ()
    else
     l3 level q43 q21 q18 q71 q84 q29 q35 q50 ()
  else
   bif (level == 6) then
    (qa3 N.n q43 q21 q18 q71 q84 q29).bind fun r3 =>
    bif (r3 == ([45] : List UInt8)) then
     l2 level q43 q21 q18 q71 q84 q29 q35 q50 ()
    else
     l3 level q43 q21 q18 q71 q84 q29 q35 q50 ()
   else
    l3 level q43 q21 q18 q71 q84 q29 q35 q50 ()
def qs5 (N : Gr0) (level : Int) (q43 : List q45) (q21 q18 : Int) (q71 : List q24) (q84 q29 : Int) (e : Int × Int) : Option OX0 := wk8 N level q43 q21 q18 q71 q84 q29 (fun level q43 q21 q18 q71 q84 q29 q35 q50 e => at1 N.n (qk3 N level q43 q21 q18 q71 q84 q29 q35 q50 e)) (fun level q43 q21 q18 q71 q84 q29 q35 q50 e => at1 N.n (qf7 N level q43 q21 q18 q71 q84 q29 q35 q50 e)) e
theorem xa5 (N : Gr0) (level : Int) (q43 : List q45) (q21 q18 : Int) (q71 : List q24) (q84 q29 : Int) (e : Int × Int) : jmp N.n (wo5 N ) ((wo7 level q43 q21 q18 q71 q84 q29) e) ((wr3 level q43 q21 q18 q71 q84 q29) e) = at1 N.n (qs5 N level q43 q21 q18 q71 q84 q29 e) := qo8 (by
 have h : (wo5 N ) ((wo7 level q43 q21 q18 q71 q84 q29) e) ((wr3 level q43 q21 q18 q71 q84 q29) e) = wk8 N level q43 q21 q18 q71 q84 q29 (fun level q43 q21 q18 q71 q84 q29 q35 q50 e => jmp N.n (wq5 N ) (wq9 level q43 q21 q18 q71 q84 q29 q35 q50 e) (wr2 level q43 q21 q18 q71 q84 q29 q35 q50 e)) (fun level q43 q21 q18 q71 q84 q29 q35 q50 e => jmp N.n (wp0 N ) (wp7 level q43 q21 q18 q71 q84 q29 q35 q50 e) (wp4 level q43 q21 q18 q71 q84 q29 q35 q50 e)) e := by obtain ⟨q35, q50⟩ := e; kernel_rfl
 rw [h]
 simp only [qs5, xe0, xh3] <;> rfl) N.n
def wc0 (N : Gr0) (q43 : List q45) (q21 q18 : Int) (q71 : List q24) (q84 q29 level : Int) (l1 : Int → (List q45) → Int → Int → (List q24) → Int → Int → (Int × Int) → Option OX0) : Option OX0 :=
 bif (q84 != 0) then
  some (((q43, q21, q18, q71, q84, q29, ()), ()), ((-1), ()))
 else
  bif (level == 7) then
   (N.r7_Reader_atom q43 q21 q18 q71 q84 q29).bind fun r =>
   some (r.1, r.2)
  else
   bif decide (q21 < (q43.length : Int)) then
    bif inR q21 q43.length then
    l1 level q43 q21 q18 q71 q84 q29 (((q25 q43 q21 q34).2.2.2.1).1, ((q25 q43 q21 q34).2.2.2.1).2.1)
    else none
   else
    l1 level q43 q21 q18 q71 q84 q29 (0, 0)
def qf2 (N : Gr0) (q43 : List q45) (q21 q18 : Int) (q71 : List q24) (q84 q29 level : Int) : Option OX0 := wc0 N q43 q21 q18 q71 q84 q29 level (fun level q43 q21 q18 q71 q84 q29 e => at1 N.n (qs5 N level q43 q21 q18 q71 q84 q29 e))
noncomputable def jh1 (N : Gr0) (q43 : List q45) (q21 q18 : Int) (q71 : List q24) (q84 q29 level : Int) : Option (ObR qg4) := q22 DR Tryz.prog N.n (z33 N) q81 Tryz.f65 (q10 Tryz.f65) (ObR qg4) (encX qg4 ((q43, q21, q18, q71, q84, q29, ()), ()) (level, ())) (encY qg4 ((q43, q21, q18, q71, q84, q29, ()), ())) (kObj qg4)
theorem x37 (N : Gr0) (q43 : List q45) (q21 q18 : Int) (q71 : List q24) (q84 q29 level : Int) : jh1 N q43 q21 q18 q71 q84 q29 level = qf2 N q43 q21 q18 q71 q84 q29 level := by
 have h : jh1 N q43 q21 q18 q71 q84 q29 level = wc0 N q43 q21 q18 q71 q84 q29 level (fun level q43 q21 q18 q71 q84 q29 e => jmp N.n (wo5 N ) (wo7 level q43 q21 q18 q71 q84 q29 e) (wr3 level q43 q21 q18 q71 q84 q29 e)) := by kernel_rfl
 rw [h]
 simp only [qf2, xa5] <;> rfl
theorem yj6 (N : Gr0) (h : vd3 N) : q16 Tryz.prog 65 (qh0 (qf2 N)) := ww2 (xg3 N h) Tryz.func65 rfl (by kernel_rfl) (by kernel_rfl) fun (y : OX2 × Unit) (x : Els [(.int .i64)]) => x37 N y.1.1 y.1.2.1 y.1.2.2.1 y.1.2.2.2.1 y.1.2.2.2.2.1 y.1.2.2.2.2.2.1 x.1
def qx4 : FH := ⟨[], [], [(1, ⟨9, 115, 0, [], []⟩), (4, ⟨11, 115, 1, [(10, .alloc 0)], []⟩)], [], false, [143], [(9, ⟨[(0, .asis)], [(0, [.lst qd3, .int .i64, .int .i64, .own q82 2003 54 8, .int .i64, .int .i64])], [.cells [.int .u8, .str, .int .u8, .int .i64, .str, .int .i64, .int .i64], .cells [.int .u8, .int .u8, .int .i64, .str, .str, .own (.int .i64) 2205 3 1, .int .i64, .int .i64]]⟩), (34, ⟨[(0, .asis), (4, .asis)], [(0, [.lst qd3, .int .i64, .int .i64, .own q82 2003 54 8, .int .i64, .int .i64])], [.cells [.int .u8, .str, .int .u8, .int .i64, .str, .int .i64, .int .i64], .cells [.int .u8, .int .u8, .int .i64, .str, .str, .own (.int .i64) 2205 3 1, .int .i64, .int .i64]]⟩)]⟩
noncomputable def z28 (N : Gr0) : q52 := tab [(205, qi3 N.n), (206, xz0 N.n), (207, wc9 N.r7_Reader_call), (143, qo5 N.n), (144, ql4 N.n), (208, wh9 N.n), (65, qh0 N.r7_Reader_expr), (145, w49 N.n)]
theorem x85 (N : Gr0) (h : vd3 N) : q14 Tryz.prog (z28 N) := q06 (ql5 N.n) <| q06 (ud8 N.n) <| q06 h.r7_Reader_call <| q06 (qq7 N.n) <| q06 (qt2 N.n) <| q06 (z99 N.n) <| q06 h.r7_Reader_expr <| q06 (we6 N.n) <| q26 _
noncomputable def qt6 : Sc := wl4 Tryz.prog qx4
noncomputable def qr3 (N : Gr0) : Cfg := ⟨N.n, z28 N, 1⟩
noncomputable def zq5 (N : Gr0) : Exit → List TV → List TOb → Option OX0 := fin Tryz.prog 1 Tryz.f141.results.toList (kObj qg6)
def j30 (q43 : List q45) (q21 : Int) (q71 : List q24) (qf9 : Int) (z39 : List UInt8) (qx5 jf5 : Int) (jg9 : List UInt8) (qm8 qw2 qw9 jg5 : Int) (jh2 : List UInt8) (qn0 qw8 : Int) (e : Int × Int × Int) : List TV := match e with
 | (qj3, r_E, ze3) => frm 115 [(0, .ref 0 0)]
def j37 (q43 : List q45) (q21 : Int) (q71 : List q24) (qf9 : Int) (z39 : List UInt8) (qx5 jf5 : Int) (jg9 : List UInt8) (qm8 qw2 qw9 jg5 : Int) (jh2 : List UInt8) (qn0 qw8 : Int) (e : Int × Int × Int) : List TOb := match e with
 | (qj3, r_E, ze3) => [.cells [.tl qd3 q43 .unk, .int .i64 q21, .int .i64 qj3, .tl q82 q71 (.own 2003 54 8), .int .i64 r_E, .int .i64 ze3] 161 true, .cells [.int .u8 qf9, .str z39, .int .u8 qx5, .int .i64 jf5, .str jg9, .int .i64 qm8, .int .i64 qw2] 105 true, .cells [.int .u8 1, .int .u8 qw9, .int .i64 jg5, .str jh2, .str [], .tl (.int .i64) [] (.own 2205 3 1), .int .i64 qn0, .int .i64 qw8] 54 true]
def j00 (q43 : List q45) (q21 q18 : Int) (q71 : List q24) (q84 q29 wc1 : Int) (wb6 : List UInt8) (qm9 z43 : Int) (z37 : List UInt8) (qi1 qm2 q13 q17 : Int) (e : Int × Int × Int × List UInt8 × List UInt8) : List TV := match e with
 | (jc6, q23, q67, q66, q41) => frm 115 [(0, .ref 0 0), (4, .ref 2 0)]
def zx6 (q43 : List q45) (q21 q18 : Int) (q71 : List q24) (q84 q29 wc1 : Int) (wb6 : List UInt8) (qm9 z43 : Int) (z37 : List UInt8) (qi1 qm2 q13 q17 : Int) (e : Int × Int × Int × List UInt8 × List UInt8) : List TOb := match e with
 | (jc6, q23, q67, q66, q41) => [.cells [.tl qd3 q43 .unk, .int .i64 q21, .int .i64 q18, .tl q82 q71 (.own 2003 54 8), .int .i64 q84, .int .i64 q29] 161 true, .cells [.int .u8 wc1, .str wb6, .int .u8 qm9, .int .i64 z43, .str z37, .int .i64 qi1, .int .i64 qm2] 105 true, .cells [.int .u8 jc6, .int .u8 q23, .int .i64 q67, .str q66, .str q41, .tl (.int .i64) [] (.own 2205 3 1), .int .i64 q13, .int .i64 q17] 54 true]
noncomputable def j39 (N : Gr0) : List TV → List TOb → Option OX0 := yz2 DR qt6 (qr3 N) (q92 (q07 (q07 (q07 (q07 (q07 (q10 Tryz.f141))))))) (qc5 DR qt6 (qr3 N) (q07 (q07 (q07 (q07 (q07 (q07 (q10 Tryz.f141))))))) (qx4.loops.drop 0) (zq5 N))
def w43 (N : Gr0) (q43 : List q45) (q21 q18 : Int) (q71 : List q24) (q84 q29 wc1 : Int) (wb6 : List UInt8) (qm9 z43 : Int) (z37 : List UInt8) (qi1 qm2 q13 q17 : Int) (e : Int × Int × Int × List UInt8 × List UInt8) : Option OX0 :=
 match e with
 | (jc6, q23, q67, q66, q41) =>
  bif q27 (q21 + 1) then
  (qo0 N.n q43 (q21 + 1) q18 q71 q84 q29 (jc6, (q23, q67, q66, ()), q41, [], (q13, q17, ()), ())).bind fun r6 =>
  some (r6.1, r6.2)
  else none
theorem xh4 (N : Gr0) (q43 : List q45) (q21 q18 : Int) (q71 : List q24) (q84 q29 wc1 : Int) (wb6 : List UInt8) (qm9 z43 : Int) (z37 : List UInt8) (qi1 qm2 q13 q17 : Int) (e : Int × Int × Int × List UInt8 × List UInt8) : jmp N.n (j39 N ) ((j00 q43 q21 q18 q71 q84 q29 wc1 wb6 qm9 z43 z37 qi1 qm2 q13 q17) e) ((zx6 q43 q21 q18 q71 q84 q29 wc1 wb6 qm9 z43 z37 qi1 qm2 q13 q17) e) = at1 N.n (w43 N q43 q21 q18 q71 q84 q29 wc1 wb6 qm9 z43 z37 qi1 qm2 q13 q17 e) := qo8 (by obtain ⟨jc6, q23, q67, q66, q41⟩ := e; kernel_rfl) N.n
noncomputable def j04 (N : Gr0) : List TV → List TOb → Option OX0 := yz2 DR qt6 (qr3 N) (q92 (q07 (zf4 (q07 (zf4 (q07 (zf4 (q07 (zf4 (q07 (qc7 (q07 (q92 (q07 (q07 (q07 (q07 (q10 Tryz.f141)))))))))))))))))) (qc5 DR qt6 (qr3 N) (q07 (q07 (zf4 (q07 (zf4 (q07 (zf4 (q07 (zf4 (q07 (qc7 (q07 (q92 (q07 (q07 (q07 (q07 (q10 Tryz.f141)))))))))))))))))) (qx4.loops.drop 0) (qj4 0 (qc5 DR qt6 (qr3 N) (q07 (q07 (q07 (q07 (q07 (q10 Tryz.f141)))))) (qx4.loops.drop 0) (zq5 N))))
def w48 (N : Gr0) (q43 : List q45) (q21 : Int) (q71 : List q24) (qf9 : Int) (z39 : List UInt8) (qx5 jf5 : Int) (jg9 : List UInt8) (qm8 qw2 qw9 jg5 : Int) (jh2 : List UInt8) (qn0 qw8 : Int) (e : Int × Int × Int) : Option OX0 :=
 match e with
 | (qj3, r_E, ze3) =>
  (qj7 N.n q43 q21 qj3 q71 r_E ze3 [40]).bind fun r3 =>
  (N.r7_Reader_expr r3.1.1.1 r3.1.1.2.1 r3.1.1.2.2.1 r3.1.1.2.2.2.1 r3.1.1.2.2.2.2.1 r3.1.1.2.2.2.2.2.1 0).bind fun r4 =>
  (qj7 N.n r4.1.1.1 r4.1.1.2.1 r4.1.1.2.2.1 r4.1.1.2.2.2.1 r4.1.1.2.2.2.2.1 r4.1.1.2.2.2.2.2.1 [41]).bind fun r5 =>
  bif q27 (r5.1.1.2.2.1 - 1) then
  some (((r5.1.1.1, r5.1.1.2.1, r5.1.1.2.2.1 - 1, r5.1.1.2.2.2.1, r5.1.1.2.2.2.2.1, r5.1.1.2.2.2.2.2.1, ()), ()), r4.2)
  else none
theorem xf8 (N : Gr0) (q43 : List q45) (q21 : Int) (q71 : List q24) (qf9 : Int) (z39 : List UInt8) (qx5 jf5 : Int) (jg9 : List UInt8) (qm8 qw2 qw9 jg5 : Int) (jh2 : List UInt8) (qn0 qw8 : Int) (e : Int × Int × Int) : jmp N.n (j04 N ) ((j30 q43 q21 q71 qf9 z39 qx5 jf5 jg9 qm8 qw2 qw9 jg5 jh2 qn0 qw8) e) ((j37 q43 q21 q71 qf9 z39 qx5 jf5 jg9 qm8 qw2 qw9 jg5 jh2 qn0 qw8) e) = at1 N.n (w48 N q43 q21 q71 qf9 z39 qx5 jf5 jg9 qm8 qw2 qw9 jg5 jh2 qn0 qw8 e) := qo8 (by obtain ⟨qj3, r_E, ze3⟩ := e; kernel_rfl) N.n
def z44 (N : Gr0) (q43 : List q45) (q21 q18 : Int) (q71 : List q24) (q84 q29 : Int) (l1 : (List q45) → Int → Int → (List q24) → Int → Int → Int → (List UInt8) → Int → Int → (List UInt8) → Int → Int → Int → Int → (Int × Int × Int × List UInt8 × List UInt8) → Option OX0) (l2 : (List q45) → Int → (List q24) → Int → (List UInt8) → Int → Int → (List UInt8) → Int → Int → Int → Int → (List UInt8) → Int → Int → (Int × Int × Int) → Option OX0) : Option OX0 :=
 bif decide (q21 ≥ (q43.length : Int)) then
  bif (q84 == 0) then
   some (((q43, q21, q18, q71, 4, q21, ()), ()), ((-1), ()))
  else
   some (((q43, q21, q18, q71, q84, q29, ()), ()), ((-1), ()))
 else
  bif inR q21 q43.length then
  bif (((q25 q43 q21 q34).1) == 2) then
   l1 q43 q21 q18 q71 q84 q29 ((q25 q43 q21 q34).1) ((q25 q43 q21 q34).2.1) (((q25 q43 q21 q34).2.2.1).1) (((q25 q43 q21 q34).2.2.1).2.1) (((q25 q43 q21 q34).2.2.1).2.2.1) (((q25 q43 q21 q34).2.2.2.1).1) (((q25 q43 q21 q34).2.2.2.1).2.1) (((q25 q43 q21 q34).2.2.2.1).1) (((q25 q43 q21 q34).2.2.2.1).2.1) (2, 0, 0, [], (q25 q43 q21 q34).2.1)
  else
   bif (((q25 q43 q21 q34).1) == 3) then
    l1 q43 q21 q18 q71 q84 q29 ((q25 q43 q21 q34).1) ((q25 q43 q21 q34).2.1) (((q25 q43 q21 q34).2.2.1).1) (((q25 q43 q21 q34).2.2.1).2.1) (((q25 q43 q21 q34).2.2.1).2.2.1) (((q25 q43 q21 q34).2.2.2.1).1) (((q25 q43 q21 q34).2.2.2.1).2.1) (((q25 q43 q21 q34).2.2.2.1).1) (((q25 q43 q21 q34).2.2.2.1).2.1) (3, 0, 0, [], [])
   else
    bif (((q25 q43 q21 q34).1) == 4) then
     l1 q43 q21 q18 q71 q84 q29 ((q25 q43 q21 q34).1) ((q25 q43 q21 q34).2.1) (((q25 q43 q21 q34).2.2.1).1) (((q25 q43 q21 q34).2.2.1).2.1) (((q25 q43 q21 q34).2.2.1).2.2.1) (((q25 q43 q21 q34).2.2.2.1).1) (((q25 q43 q21 q34).2.2.2.1).2.1) (((q25 q43 q21 q34).2.2.2.1).1) (((q25 q43 q21 q34).2.2.2.1).2.1) (1, ((q25 q43 q21 q34).2.2.1).1, ((q25 q43 q21 q34).2.2.1).2.1, ((q25 q43 q21 q34).2.2.1).2.2.1, [])
    else
     bif (((q25 q43 q21 q34).1) == 5) then
      l1 q43 q21 q18 q71 q84 q29 ((q25 q43 q21 q34).1) ((q25 q43 q21 q34).2.1) (((q25 q43 q21 q34).2.2.1).1) (((q25 q43 q21 q34).2.2.1).2.1) (((q25 q43 q21 q34).2.2.1).2.2.1) (((q25 q43 q21 q34).2.2.2.1).1) (((q25 q43 q21 q34).2.2.2.1).2.1) (((q25 q43 q21 q34).2.2.2.1).1) (((q25 q43 q21 q34).2.2.2.1).2.1) (1, ((q25 q43 q21 q34).2.2.1).1, ((q25 q43 q21 q34).2.2.1).2.1, ((q25 q43 q21 q34).2.2.1).2.2.1, [])
     else
      bif (((q25 q43 q21 q34).1) == 6) then
       l1 q43 q21 q18 q71 q84 q29 ((q25 q43 q21 q34).1) ((q25 q43 q21 q34).2.1) (((q25 q43 q21 q34).2.2.1).1) (((q25 q43 q21 q34).2.2.1).2.1) (((q25 q43 q21 q34).2.2.1).2.2.1) (((q25 q43 q21 q34).2.2.2.1).1) (((q25 q43 q21 q34).2.2.2.1).2.1) (((q25 q43 q21 q34).2.2.2.1).1) (((q25 q43 q21 q34).2.2.2.1).2.1) (1, ((q25 q43 q21 q34).2.2.1).1, ((q25 q43 q21 q34).2.2.1).2.1, ((q25 q43 q21 q34).2.2.1).2.2.1, [])
      else
       bif (((q25 q43 q21 q34).1) == 1) then
        (j71 N.n ((q25 q43 q21 q34).2.1)).bind fun r =>
        bif (r.1 != 0) then
         (N.r7_Reader_call q43 q21 q18 q71 q84 q29 r.1 r.2.1 r.2.2.1).bind fun r1 =>
         some (r1.1, r1.2)
        else
         bif (((q25 q43 q21 q34).2.1) == ([116, 114, 117, 101] : List UInt8)) then
          l1 q43 q21 q18 q71 q84 q29 ((q25 q43 q21 q34).1) ((q25 q43 q21 q34).2.1) (((q25 q43 q21 q34).2.2.1).1) (((q25 q43 q21 q34).2.2.1).2.1) (((q25 q43 q21 q34).2.2.1).2.2.1) (((q25 q43 q21 q34).2.2.2.1).1) (((q25 q43 q21 q34).2.2.2.1).2.1) (((q25 q43 q21 q34).2.2.2.1).1) (((q25 q43 q21 q34).2.2.2.1).2.1) (1, 4, 1, [], [])
         else
          bif (((q25 q43 q21 q34).2.1) == ([102, 97, 108, 115, 101] : List UInt8)) then
           l1 q43 q21 q18 q71 q84 q29 ((q25 q43 q21 q34).1) ((q25 q43 q21 q34).2.1) (((q25 q43 q21 q34).2.2.1).1) (((q25 q43 q21 q34).2.2.1).2.1) (((q25 q43 q21 q34).2.2.1).2.2.1) (((q25 q43 q21 q34).2.2.2.1).1) (((q25 q43 q21 q34).2.2.2.1).2.1) (((q25 q43 q21 q34).2.2.2.1).1) (((q25 q43 q21 q34).2.2.2.1).2.1) (1, 4, 0, [], [])
          else
           bif (((q25 q43 q21 q34).2.1) == ([110, 117, 108, 108] : List UInt8)) then
            l1 q43 q21 q18 q71 q84 q29 ((q25 q43 q21 q34).1) ((q25 q43 q21 q34).2.1) (((q25 q43 q21 q34).2.2.1).1) (((q25 q43 q21 q34).2.2.1).2.1) (((q25 q43 q21 q34).2.2.1).2.2.1) (((q25 q43 q21 q34).2.2.2.1).1) (((q25 q43 q21 q34).2.2.2.1).2.1) (((q25 q43 q21 q34).2.2.2.1).1) (((q25 q43 q21 q34).2.2.2.1).2.1) (1, 0, 0, [], [])
           else
            bif (q84 == 0) then
             some (((q43, q21, q18, q71, 4, q21, ()), ()), ((-1), ()))
            else
             some (((q43, q21, q18, q71, q84, q29, ()), ()), ((-1), ()))
       else
        (qa3 N.n q43 q21 q18 q71 q84 q29).bind fun r2 =>
        bif (r2 == ([40] : List UInt8)) then
         bif decide (q18 ≥ 12) then
          bif (q84 == 0) then
           bif q27 (q18 + 1) then
           l2 q43 q21 q71 ((q25 q43 q21 q34).1) ((q25 q43 q21 q34).2.1) (((q25 q43 q21 q34).2.2.1).1) (((q25 q43 q21 q34).2.2.1).2.1) (((q25 q43 q21 q34).2.2.1).2.2.1) (((q25 q43 q21 q34).2.2.2.1).1) (((q25 q43 q21 q34).2.2.2.1).2.1) (((q25 q43 q21 q34).2.2.1).1) (((q25 q43 q21 q34).2.2.1).2.1) (((q25 q43 q21 q34).2.2.1).2.2.1) (((q25 q43 q21 q34).2.2.2.1).1) (((q25 q43 q21 q34).2.2.2.1).2.1) (q18 + 1, 12, q21)
           else none
          else
           bif q27 (q18 + 1) then
           l2 q43 q21 q71 ((q25 q43 q21 q34).1) ((q25 q43 q21 q34).2.1) (((q25 q43 q21 q34).2.2.1).1) (((q25 q43 q21 q34).2.2.1).2.1) (((q25 q43 q21 q34).2.2.1).2.2.1) (((q25 q43 q21 q34).2.2.2.1).1) (((q25 q43 q21 q34).2.2.2.1).2.1) (((q25 q43 q21 q34).2.2.1).1) (((q25 q43 q21 q34).2.2.1).2.1) (((q25 q43 q21 q34).2.2.1).2.2.1) (((q25 q43 q21 q34).2.2.2.1).1) (((q25 q43 q21 q34).2.2.2.1).2.1) (q18 + 1, q84, q29)
           else none
         else
          bif q27 (q18 + 1) then
          l2 q43 q21 q71 ((q25 q43 q21 q34).1) ((q25 q43 q21 q34).2.1) (((q25 q43 q21 q34).2.2.1).1) (((q25 q43 q21 q34).2.2.1).2.1) (((q25 q43 q21 q34).2.2.1).2.2.1) (((q25 q43 q21 q34).2.2.2.1).1) (((q25 q43 q21 q34).2.2.2.1).2.1) (((q25 q43 q21 q34).2.2.1).1) (((q25 q43 q21 q34).2.2.1).2.1) (((q25 q43 q21 q34).2.2.1).2.2.1) (((q25 q43 q21 q34).2.2.2.1).1) (((q25 q43 q21 q34).2.2.2.1).2.1) (q18 + 1, q84, q29)
          else none
        else
         l2 q43 q21 q71 ((q25 q43 q21 q34).1) ((q25 q43 q21 q34).2.1) (((q25 q43 q21 q34).2.2.1).1) (((q25 q43 q21 q34).2.2.1).2.1) (((q25 q43 q21 q34).2.2.1).2.2.1) (((q25 q43 q21 q34).2.2.2.1).1) (((q25 q43 q21 q34).2.2.2.1).2.1) (((q25 q43 q21 q34).2.2.1).1) (((q25 q43 q21 q34).2.2.1).2.1) (((q25 q43 q21 q34).2.2.1).2.2.1) (((q25 q43 q21 q34).2.2.2.1).1) (((q25 q43 q21 q34).2.2.2.1).2.1) (q18, q84, q29)
  else none
def qm3 (N : Gr0) (q43 : List q45) (q21 q18 : Int) (q71 : List q24) (q84 q29 : Int) : Option OX0 := z44 N q43 q21 q18 q71 q84 q29 (fun q43 q21 q18 q71 q84 q29 wc1 wb6 qm9 z43 z37 qi1 qm2 q13 q17 e => at1 N.n (w43 N q43 q21 q18 q71 q84 q29 wc1 wb6 qm9 z43 z37 qi1 qm2 q13 q17 e)) (fun q43 q21 q71 qf9 z39 qx5 jf5 jg9 qm8 qw2 qw9 jg5 jh2 qn0 qw8 e => at1 N.n (w48 N q43 q21 q71 qf9 z39 qx5 jf5 jg9 qm8 qw2 qw9 jg5 jh2 qn0 qw8 e))
noncomputable def jh6 (N : Gr0) (q43 : List q45) (q21 q18 : Int) (q71 : List q24) (q84 q29 : Int) : Option (ObR qg6) := q22 DR Tryz.prog N.n (z28 N) qx4 Tryz.f141 (q10 Tryz.f141) (ObR qg6) (encX qg6 ((q43, q21, q18, q71, q84, q29, ()), ()) (())) (encY qg6 ((q43, q21, q18, q71, q84, q29, ()), ())) (kObj qg6)
theorem x12 (N : Gr0) (q43 : List q45) (q21 q18 : Int) (q71 : List q24) (q84 q29 : Int) : jh6 N q43 q21 q18 q71 q84 q29 = qm3 N q43 q21 q18 q71 q84 q29 := by
 have h : jh6 N q43 q21 q18 q71 q84 q29 = z44 N q43 q21 q18 q71 q84 q29 (fun q43 q21 q18 q71 q84 q29 wc1 wb6 qm9 z43 z37 qi1 qm2 q13 q17 e => jmp N.n (j39 N ) (j00 q43 q21 q18 q71 q84 q29 wc1 wb6 qm9 z43 z37 qi1 qm2 q13 q17 e) (zx6 q43 q21 q18 q71 q84 q29 wc1 wb6 qm9 z43 z37 qi1 qm2 q13 q17 e)) (fun q43 q21 q71 qf9 z39 qx5 jf5 jg9 qm8 qw2 qw9 jg5 jh2 qn0 qw8 e => jmp N.n (j04 N ) (j30 q43 q21 q71 qf9 z39 qx5 jf5 jg9 qm8 qw2 qw9 jg5 jh2 qn0 qw8 e) (j37 q43 q21 q71 qf9 z39 qx5 jf5 jg9 qm8 qw2 qw9 jg5 jh2 qn0 qw8 e)) := by kernel_rfl
 rw [h]
 simp only [qm3, xh4, xf8] <;> rfl
theorem yj1 (N : Gr0) (h : vd3 N) : q16 Tryz.prog 141 (wc7 (qm3 N)) := ww2 (x85 N h) Tryz.func141 rfl (by kernel_rfl) (by kernel_rfl) fun (y : OX2 × Unit) (x : Els []) => x12 N y.1.1 y.1.2.1 y.1.2.2.1 y.1.2.2.2.1 y.1.2.2.2.2.1 y.1.2.2.2.2.2.1 
def w37 : LH := ⟨[(0, .asis), (2, .int .i64), (3, .int .i64), (9, .asis)], [(0, [.lst qd3, .int .i64, .int .i64, .own q82 2003 54 8, .int .i64, .int .i64])], [.cells [.int .u8, .int .u8, .int .i64, .str, .str, .own (.int .i64) 2105 3 1, .int .i64, .int .i64]]⟩
def q99 : FH := ⟨[w37], [], [(7, ⟨5, 93, 0, [], [(3, [(false, 0)])]⟩)], [], false, [142, 143], [(2, ⟨[(0, .asis), (2, .int .i64), (3, .int .i64), (9, .asis)], [(0, [.lst qd3, .int .i64, .int .i64, .own q82 2003 54 8, .int .i64, .int .i64])], [.cells [.int .u8, .int .u8, .int .i64, .str, .str, .own (.int .i64) 2105 3 1, .int .i64, .int .i64]]⟩), (5, ⟨[(0, .asis), (2, .int .i64), (3, .int .i64), (9, .asis)], [(0, [.lst qd3, .int .i64, .int .i64, .own q82 2003 54 8, .int .i64, .int .i64])], [.cells [.int .u8, .int .u8, .int .i64, .str, .str, .own (.int .i64) 2105 3 1, .int .i64, .int .i64]]⟩), (10, ⟨[(0, .asis), (2, .int .i64), (3, .int .i64), (9, .asis), (10, .str)], [(0, [.lst qd3, .int .i64, .int .i64, .own q82 2003 54 8, .int .i64, .int .i64])], [.cells [.int .u8, .int .u8, .int .i64, .str, .str, .own (.int .i64) 2105 3 1, .int .i64, .int .i64]]⟩), (11, ⟨[(0, .asis), (2, .int .i64), (3, .int .i64), (9, .asis), (10, .str)], [(0, [.lst qd3, .int .i64, .int .i64, .own q82 2003 54 8, .int .i64, .int .i64])], [.cells [.int .u8, .int .u8, .int .i64, .str, .str, .own (.int .i64) 2105 3 1, .int .i64, .int .i64]]⟩), (13, ⟨[(0, .asis), (9, .asis)], [(0, [.lst qd3, .int .i64, .int .i64, .own q82 2003 54 8, .int .i64, .int .i64])], [.cells [.int .u8, .int .u8, .int .i64, .str, .str, .own (.int .i64) 2105 3 1, .int .i64, .int .i64]]⟩)]⟩
noncomputable def z36 (N : Gr0) : q52 := tab [(142, qz2 N.n), (143, qo5 N.n), (144, ql4 N.n), (208, wh9 N.n), (65, qh0 N.r7_Reader_expr), (205, qi3 N.n), (145, w49 N.n)]
theorem xh9 (N : Gr0) (h : vd3 N) : q14 Tryz.prog (z36 N) := q06 (wh1 N.n) <| q06 (qq7 N.n) <| q06 (qt2 N.n) <| q06 (z99 N.n) <| q06 h.r7_Reader_expr <| q06 (ql5 N.n) <| q06 (we6 N.n) <| q26 _
noncomputable def q80 : Sc := wl4 Tryz.prog q99
noncomputable def q73 (N : Gr0) : Cfg := ⟨N.n, z36 N, 1⟩
noncomputable def qh9 (N : Gr0) : Exit → List TV → List TOb → Option OX0 := fin Tryz.prog 1 Tryz.f207.results.toList (kObj qg0)
def wp5 (least most : Int) (q43 : List q45) (q21 q18 : Int) (q71 : List q24) (q84 q29 op : Int) (e : Int × Int) : List TV := match e with
 | (q13, q17) => frm 93 [(0, .ref 0 0), (2, .int .i64 least), (3, .int .i64 most), (9, .ref 1 0)]
def wr7 (least most : Int) (q43 : List q45) (q21 q18 : Int) (q71 : List q24) (q84 q29 op : Int) (e : Int × Int) : List TOb := match e with
 | (q13, q17) => [.cells [.tl qd3 q43 .unk, .int .i64 q21, .int .i64 q18, .tl q82 q71 (.own 2003 54 8), .int .i64 q84, .int .i64 q29] 161 true, .cells [.int .u8 op, .int .u8 0, .int .i64 0, .str [], .str [], .tl (.int .i64) [] (.own 2105 3 1), .int .i64 q13, .int .i64 q17] 54 true]
def wn8 (least most : Int) (q43 : List q45) (wd6 : Int) (q71 : List q24) (op q13 q17 : Int) (e : Int × Int × Int) : List TV := match e with
 | (qj3, r_E, ze3) => frm 93 [(0, .ref 0 0), (2, .int .i64 least), (3, .int .i64 most), (9, .ref 1 0)]
def wn9 (least most : Int) (q43 : List q45) (wd6 : Int) (q71 : List q24) (op q13 q17 : Int) (e : Int × Int × Int) : List TOb := match e with
 | (qj3, r_E, ze3) => [.cells [.tl qd3 q43 .unk, .int .i64 wd6, .int .i64 qj3, .tl q82 q71 (.own 2003 54 8), .int .i64 r_E, .int .i64 ze3] 161 true, .cells [.int .u8 op, .int .u8 0, .int .i64 0, .str [], .str [], .tl (.int .i64) [] (.own 2105 3 1), .int .i64 q13, .int .i64 q17] 54 true]
def qc4 (least most op q23 q67 : Int) (q66 q41 : List UInt8) (q13 q17 : Int) (e : List q45 × Int × Int × List q24 × Int × Int × List Int) : List TV := match e with
 | (r_L, r_At1, qd4, r_T, yc8, qk7, qb7) => frm 93 [(0, .ref 0 0), (2, .int .i64 least), (3, .int .i64 most), (9, .ref 1 0)]
def qc2 (least most op q23 q67 : Int) (q66 q41 : List UInt8) (q13 q17 : Int) (e : List q45 × Int × Int × List q24 × Int × Int × List Int) : List TOb := match e with
 | (r_L, r_At1, qd4, r_T, yc8, qk7, qb7) => [.cells [.tl qd3 r_L .unk, .int .i64 r_At1, .int .i64 qd4, .tl q82 r_T (.own 2003 54 8), .int .i64 yc8, .int .i64 qk7] 161 true, .cells [.int .u8 op, .int .u8 q23, .int .i64 q67, .str q66, .str q41, .tl (.int .i64) qb7 (.own 2105 3 1), .int .i64 q13, .int .i64 q17] 54 true]
def wp6 (least most : Int) (r3 : List UInt8) (uc4 : List q45) (zx7 qv2 : Int) (u97 : List q24) (u50 wm9 op q23 q67 : Int) (q66 q41 : List UInt8) (qu9 : List Int) (q13 q17 : Int) (e : Unit) : List TV := frm 93 [(0, .ref 0 0), (2, .int .i64 least), (3, .int .i64 most), (9, .ref 1 0), (10, .str r3)]
def wr0 (least most : Int) (r3 : List UInt8) (uc4 : List q45) (zx7 qv2 : Int) (u97 : List q24) (u50 wm9 op q23 q67 : Int) (q66 q41 : List UInt8) (qu9 : List Int) (q13 q17 : Int) (e : Unit) : List TOb := [.cells [.tl qd3 uc4 .unk, .int .i64 zx7, .int .i64 qv2, .tl q82 u97 (.own 2003 54 8), .int .i64 u50, .int .i64 wm9] 161 true, .cells [.int .u8 op, .int .u8 q23, .int .i64 q67, .str q66, .str q41, .tl (.int .i64) qu9 (.own 2105 3 1), .int .i64 q13, .int .i64 q17] 54 true]
def w52 (least most : Int) (r3 : List UInt8) (op q23 q67 : Int) (q66 q41 : List UInt8) (q13 q17 : Int) (e : List q45 × Int × Int × List q24 × Int × Int × List Int) : List TV := match e with
 | (r_L2, r_At3, r_Deep3, r_T2, r_E3, r_Bad3, n_Kids2) => frm 93 [(0, .ref 0 0), (2, .int .i64 least), (3, .int .i64 most), (9, .ref 1 0), (10, .str r3)]
def w31 (least most : Int) (r3 : List UInt8) (op q23 q67 : Int) (q66 q41 : List UInt8) (q13 q17 : Int) (e : List q45 × Int × Int × List q24 × Int × Int × List Int) : List TOb := match e with
 | (r_L2, r_At3, r_Deep3, r_T2, r_E3, r_Bad3, n_Kids2) => [.cells [.tl qd3 r_L2 .unk, .int .i64 r_At3, .int .i64 r_Deep3, .tl q82 r_T2 (.own 2003 54 8), .int .i64 r_E3, .int .i64 r_Bad3] 161 true, .cells [.int .u8 op, .int .u8 q23, .int .i64 q67, .str q66, .str q41, .tl (.int .i64) n_Kids2 (.own 2105 3 1), .int .i64 q13, .int .i64 q17] 54 true]
def wr4 (op q23 q67 : Int) (q66 q41 : List UInt8) (q13 q17 : Int) (e : List q45 × Int × Int × List q24 × Int × Int × List Int) : List TV := match e with
 | (r_L3, r_At4, r_Deep4, r_T3, r_E4, r_Bad4, n_Kids3) => frm 93 [(0, .ref 0 0), (9, .ref 1 0)]
def wq7 (op q23 q67 : Int) (q66 q41 : List UInt8) (q13 q17 : Int) (e : List q45 × Int × Int × List q24 × Int × Int × List Int) : List TOb := match e with
 | (r_L3, r_At4, r_Deep4, r_T3, r_E4, r_Bad4, n_Kids3) => [.cells [.tl qd3 r_L3 .unk, .int .i64 r_At4, .int .i64 r_Deep4, .tl q82 r_T3 (.own 2003 54 8), .int .i64 r_E4, .int .i64 r_Bad4] 161 true, .cells [.int .u8 op, .int .u8 q23, .int .i64 q67, .str q66, .str q41, .tl (.int .i64) n_Kids3 (.own 2105 3 1), .int .i64 q13, .int .i64 q17] 54 true]
noncomputable def wp9 (N : Gr0) : List TV → List TOb → Option OX0 := yz2 DR q80 (q73 N) (q92 (q07 (q07 (q07 (q07 (q07 (q07 (q10 Tryz.f207)))))))) (qc5 DR q80 (q73 N) (q07 (q07 (q07 (q07 (q07 (q07 (q07 (q10 Tryz.f207)))))))) (q99.loops.drop 1) (qh9 N))
def qq9 (N : Gr0) (op q23 q67 : Int) (q66 q41 : List UInt8) (q13 q17 : Int) (e : List q45 × Int × Int × List q24 × Int × Int × List Int) : Option OX0 :=
 match e with
 | (r_L3, r_At4, r_Deep4, r_T3, r_E4, r_Bad4, n_Kids3) =>
  (qj7 N.n r_L3 r_At4 r_Deep4 r_T3 r_E4 r_Bad4 [41]).bind fun r4 =>
  bif q27 (r4.1.1.2.2.1 - 1) then
  (qo0 N.n r4.1.1.1 r4.1.1.2.1 (r4.1.1.2.2.1 - 1) r4.1.1.2.2.2.1 r4.1.1.2.2.2.2.1 r4.1.1.2.2.2.2.2.1 (op, (q23, q67, q66, ()), q41, n_Kids3, (q13, q17, ()), ())).bind fun r5 =>
  some (r5.1, r5.2)
  else none
theorem j42 (N : Gr0) (op q23 q67 : Int) (q66 q41 : List UInt8) (q13 q17 : Int) (e : List q45 × Int × Int × List q24 × Int × Int × List Int) : jmp N.n (wp9 N ) ((wr4 op q23 q67 q66 q41 q13 q17) e) ((wq7 op q23 q67 q66 q41 q13 q17) e) = at1 N.n (qq9 N op q23 q67 q66 q41 q13 q17 e) := qo8 (by obtain ⟨r_L3, r_At4, r_Deep4, r_T3, r_E4, r_Bad4, n_Kids3⟩ := e; kernel_rfl) N.n
noncomputable def w36 (N : Gr0) (K0r : List TV → List TOb → Option OX0) : List TV → List TOb → Option OX0 := yz2 DR q80 (q73 N) (q92 (q92 (q07 (q07 (q07 (qc7 (q07 (ql8 (qc7 (q92 (q07 (q07 (q07 (q07 (q07 (q10 Tryz.f207)))))))))))))))) (qc5 DR q80 (q73 N) (q07 (q92 (q07 (q07 (q07 (qc7 (q07 (ql8 (qc7 (q92 (q07 (q07 (q07 (q07 (q07 (q10 Tryz.f207)))))))))))))))) (q99.loops.drop 1) (qc5 DR q80 (q73 N) (q07 (q07 (q07 (q07 (qc7 (q07 (ql8 (qc7 (q92 (q07 (q07 (q07 (q07 (q07 (q10 Tryz.f207))))))))))))))) (q99.loops.drop 1) (qj4 1 (u83 (q73 N) w37 (qj4 0 (qc5 DR q80 (q73 N) (q07 (q07 (q07 (q07 (q07 (q07 (q10 Tryz.f207))))))) (q99.loops.drop 1) (qh9 N))) K0r))))
def wk5 (N : Gr0) (least most : Int) (r3 : List UInt8) (op q23 q67 : Int) (q66 q41 : List UInt8) (q13 q17 : Int) (K0 : OX5 → Option OX0) (l6 : Int → Int → Int → (List UInt8) → (List UInt8) → Int → Int → OX5 → Option OX0) (e : List q45 × Int × Int × List q24 × Int × Int × List Int) : Option OX0 :=
 match e with
 | (r_L2, r_At3, r_Deep3, r_T2, r_E3, r_Bad3, n_Kids2) =>
  bif (!(r3 == ([44] : List UInt8))) then
   l6 op q23 q67 q66 q41 q13 q17 (r_L2, r_At3, r_Deep3, r_T2, r_E3, r_Bad3, n_Kids2)
  else
   bif (r_E3 != 0) then
    l6 op q23 q67 q66 q41 q13 q17 (r_L2, r_At3, r_Deep3, r_T2, r_E3, r_Bad3, n_Kids2)
   else
    bif q27 (r_At3 + 1) then
    K0 (r_L2, r_At3 + 1, r_Deep3, r_T2, r_E3, r_Bad3, n_Kids2)
    else none
def qg5 (N : Gr0) (least most : Int) (r3 : List UInt8) (op q23 q67 : Int) (q66 q41 : List UInt8) (q13 q17 : Int) (K0 : OX5 → Option OX0) (e : List q45 × Int × Int × List q24 × Int × Int × List Int) : Option OX0 := wk5 N least most r3 op q23 q67 q66 q41 q13 q17 K0 (fun op q23 q67 q66 q41 q13 q17 e => at1 N.n (qq9 N op q23 q67 q66 q41 q13 q17 e)) e
theorem j09 (N : Gr0) (least most : Int) (r3 : List UInt8) (op q23 q67 : Int) (q66 q41 : List UInt8) (q13 q17 : Int) (K0r : List TV → List TOb → Option OX0) (e : List q45 × Int × Int × List q24 × Int × Int × List Int) : jmp N.n (w36 N K0r) ((w52 least most r3 op q23 q67 q66 q41 q13 q17) e) ((w31 least most r3 op q23 q67 q66 q41 q13 q17) e) = at1 N.n (qg5 N least most r3 op q23 q67 q66 q41 q13 q17 (fun a => K0r (qc4 least most op q23 q67 q66 q41 q13 q17 a) (qc2 least most op q23 q67 q66 q41 q13 q17 a)) e) := qo8 (by
 have h : (w36 N K0r) ((w52 least most r3 op q23 q67 q66 q41 q13 q17) e) ((w31 least most r3 op q23 q67 q66 q41 q13 q17) e) = wk5 N least most r3 op q23 q67 q66 q41 q13 q17 (fun a => K0r (qc4 least most op q23 q67 q66 q41 q13 q17 a) (qc2 least most op q23 q67 q66 q41 q13 q17 a)) (fun op q23 q67 q66 q41 q13 q17 e => jmp N.n (wp9 N ) (wr4 op q23 q67 q66 q41 q13 q17 e) (wq7 op q23 q67 q66 q41 q13 q17 e)) e := by obtain ⟨r_L2, r_At3, r_Deep3, r_T2, r_E3, r_Bad3, n_Kids2⟩ := e; kernel_rfl
 rw [h]
 simp only [qg5, j42] <;> rfl) N.n
noncomputable def wn7 (N : Gr0) (K0r : List TV → List TOb → Option OX0) : List TV → List TOb → Option OX0 := yz2 DR q80 (q73 N) (yq9 (q07 (q92 (q07 (q07 (qc7 (q07 (ql8 (qc7 (q92 (q07 (q07 (q07 (q07 (q07 (q10 Tryz.f207)))))))))))))))) (qc5 DR q80 (q73 N) (q07 (q07 (q07 (qc7 (q07 (ql8 (qc7 (q92 (q07 (q07 (q07 (q07 (q07 (q10 Tryz.f207)))))))))))))) (q99.loops.drop 1) (qj4 1 (u83 (q73 N) w37 (qj4 0 (qc5 DR q80 (q73 N) (q07 (q07 (q07 (q07 (q07 (q07 (q10 Tryz.f207))))))) (q99.loops.drop 1) (qh9 N))) K0r)))
def wj0 (N : Gr0) (least most : Int) (r3 : List UInt8) (uc4 : List q45) (zx7 qv2 : Int) (u97 : List q24) (u50 wm9 op q23 q67 : Int) (q66 q41 : List UInt8) (qu9 : List Int) (q13 q17 : Int) (K0 : OX5 → Option OX0) (l5 : Int → Int → (List UInt8) → Int → Int → Int → (List UInt8) → (List UInt8) → Int → Int → OX5 → Option OX0) (e : Unit) : Option OX0 :=
 bif (u50 == 0) then
  l5 least most r3 op q23 q67 q66 q41 q13 q17 (uc4, zx7, qv2, u97, 14, zx7, qu9)
 else
  l5 least most r3 op q23 q67 q66 q41 q13 q17 (uc4, zx7, qv2, u97, u50, wm9, qu9)
def qs0 (N : Gr0) (least most : Int) (r3 : List UInt8) (uc4 : List q45) (zx7 qv2 : Int) (u97 : List q24) (u50 wm9 op q23 q67 : Int) (q66 q41 : List UInt8) (qu9 : List Int) (q13 q17 : Int) (K0 : OX5 → Option OX0) (e : Unit) : Option OX0 := wj0 N least most r3 uc4 zx7 qv2 u97 u50 wm9 op q23 q67 q66 q41 qu9 q13 q17 K0 (fun least most r3 op q23 q67 q66 q41 q13 q17 e => at1 N.n (qg5 N least most r3 op q23 q67 q66 q41 q13 q17 K0 e)) e
theorem xh0 (N : Gr0) (least most : Int) (r3 : List UInt8) (uc4 : List q45) (zx7 qv2 : Int) (u97 : List q24) (u50 wm9 op q23 q67 : Int) (q66 q41 : List UInt8) (qu9 : List Int) (q13 q17 : Int) (K0r : List TV → List TOb → Option OX0) (e : Unit) : jmp N.n (wn7 N K0r) ((wp6 least most r3 uc4 zx7 qv2 u97 u50 wm9 op q23 q67 q66 q41 qu9 q13 q17) e) ((wr0 least most r3 uc4 zx7 qv2 u97 u50 wm9 op q23 q67 q66 q41 qu9 q13 q17) e) = at1 N.n (qs0 N least most r3 uc4 zx7 qv2 u97 u50 wm9 op q23 q67 q66 q41 qu9 q13 q17 (fun a => K0r (qc4 least most op q23 q67 q66 q41 q13 q17 a) (qc2 least most op q23 q67 q66 q41 q13 q17 a)) e) := qo8 (by
 have h : (wn7 N K0r) ((wp6 least most r3 uc4 zx7 qv2 u97 u50 wm9 op q23 q67 q66 q41 qu9 q13 q17) e) ((wr0 least most r3 uc4 zx7 qv2 u97 u50 wm9 op q23 q67 q66 q41 qu9 q13 q17) e) = wj0 N least most r3 uc4 zx7 qv2 u97 u50 wm9 op q23 q67 q66 q41 qu9 q13 q17 (fun a => K0r (qc4 least most op q23 q67 q66 q41 q13 q17 a) (qc2 least most op q23 q67 q66 q41 q13 q17 a)) (fun least most r3 op q23 q67 q66 q41 q13 q17 e => jmp N.n (w36 N K0r) (w52 least most r3 op q23 q67 q66 q41 q13 q17 e) (w31 least most r3 op q23 q67 q66 q41 q13 q17 e)) e := by kernel_rfl
 rw [h]
 simp only [qs0, j09] <;> rfl) N.n
noncomputable def wq3 (N : Gr0) : (List TV → List TOb → Option OX0) → List TV → List TOb → Option OX0 := w57 DR q80 (q73 N) (ql8 (qc7 (q92 (q07 (q07 (q07 (q07 (q07 (q10 Tryz.f207))))))))) w37 (q99.loops.drop 1) (qj4 0 (qc5 DR q80 (q73 N) (q07 (q07 (q07 (q07 (q07 (q07 (q10 Tryz.f207))))))) (q99.loops.drop 1) (qh9 N)))
def wh7 (N : Gr0) (least most op q23 q67 : Int) (q66 q41 : List UInt8) (q13 q17 : Int) (l4 : Int → Int → (List UInt8) → (List q45) → Int → Int → (List q24) → Int → Int → Int → Int → Int → (List UInt8) → (List UInt8) → (List Int) → Int → Int → Unit → Option OX0) (l5 : Int → Int → (List UInt8) → Int → Int → Int → (List UInt8) → (List UInt8) → Int → Int → OX5 → Option OX0) (l6 : Int → Int → Int → (List UInt8) → (List UInt8) → Int → Int → OX5 → Option OX0) (K0 : OX5 → Option OX0) (e : List q45 × Int × Int × List q24 × Int × Int × List Int) : Option OX0 :=
 match e with
 | (r_L, r_At1, qd4, r_T, yc8, qk7, qb7) =>
  bif (yc8 == 0) then
   (N.r7_Reader_expr r_L r_At1 qd4 r_T yc8 qk7 0).bind fun r2 =>
   bif qz1 (qb7.length + [r2.2.1].length) 17592186044416 then
   (qa3 N.n r2.1.1.1 r2.1.1.2.1 r2.1.1.2.2.1 r2.1.1.2.2.2.1 r2.1.1.2.2.2.2.1 r2.1.1.2.2.2.2.2.1).bind fun r3 =>
   bif (r3 == ([44] : List UInt8)) then
    bif (((qb7 ++ [r2.2.1]).length : Int) == most) then
     l4 least most r3 r2.1.1.1 r2.1.1.2.1 r2.1.1.2.2.1 r2.1.1.2.2.2.1 r2.1.1.2.2.2.2.1 r2.1.1.2.2.2.2.2.1 op q23 q67 q66 q41 (qb7 ++ [r2.2.1]) q13 q17 ()
    else
     bif (r3 == ([41] : List UInt8)) then
      bif decide (((qb7 ++ [r2.2.1]).length : Int) < least) then
       l4 least most r3 r2.1.1.1 r2.1.1.2.1 r2.1.1.2.2.1 r2.1.1.2.2.2.1 r2.1.1.2.2.2.2.1 r2.1.1.2.2.2.2.2.1 op q23 q67 q66 q41 (qb7 ++ [r2.2.1]) q13 q17 ()
      else
       l5 least most r3 op q23 q67 q66 q41 q13 q17 (r2.1.1.1, r2.1.1.2.1, r2.1.1.2.2.1, r2.1.1.2.2.2.1, r2.1.1.2.2.2.2.1, r2.1.1.2.2.2.2.2.1, (qb7 ++ [r2.2.1]))
     else
      l5 least most r3 op q23 q67 q66 q41 q13 q17 (r2.1.1.1, r2.1.1.2.1, r2.1.1.2.2.1, r2.1.1.2.2.2.1, r2.1.1.2.2.2.2.1, r2.1.1.2.2.2.2.2.1, (qb7 ++ [r2.2.1]))
   else
    bif (r3 == ([41] : List UInt8)) then
     bif decide (((qb7 ++ [r2.2.1]).length : Int) < least) then
      l4 least most r3 r2.1.1.1 r2.1.1.2.1 r2.1.1.2.2.1 r2.1.1.2.2.2.1 r2.1.1.2.2.2.2.1 r2.1.1.2.2.2.2.2.1 op q23 q67 q66 q41 (qb7 ++ [r2.2.1]) q13 q17 ()
     else
      l5 least most r3 op q23 q67 q66 q41 q13 q17 (r2.1.1.1, r2.1.1.2.1, r2.1.1.2.2.1, r2.1.1.2.2.2.1, r2.1.1.2.2.2.2.1, r2.1.1.2.2.2.2.2.1, (qb7 ++ [r2.2.1]))
    else
     l5 least most r3 op q23 q67 q66 q41 q13 q17 (r2.1.1.1, r2.1.1.2.1, r2.1.1.2.2.1, r2.1.1.2.2.2.1, r2.1.1.2.2.2.2.1, r2.1.1.2.2.2.2.2.1, (qb7 ++ [r2.2.1]))
   else none
  else
   l6 op q23 q67 q66 q41 q13 q17 (r_L, r_At1, qd4, r_T, yc8, qk7, qb7)
def w40 (N : Gr0) (least most op q23 q67 : Int) (q66 q41 : List UInt8) (q13 q17 : Int) (K0 : OX5 → Option OX0) (e : List q45 × Int × Int × List q24 × Int × Int × List Int) : Option OX0 := wh7 N least most op q23 q67 q66 q41 q13 q17 (fun least most r3 uc4 zx7 qv2 u97 u50 wm9 op q23 q67 q66 q41 qu9 q13 q17 e => at1 N.n (qs0 N least most r3 uc4 zx7 qv2 u97 u50 wm9 op q23 q67 q66 q41 qu9 q13 q17 K0 e)) (fun least most r3 op q23 q67 q66 q41 q13 q17 e => at1 N.n (qg5 N least most r3 op q23 q67 q66 q41 q13 q17 K0 e)) (fun op q23 q67 q66 q41 q13 q17 e => at1 N.n (qq9 N op q23 q67 q66 q41 q13 q17 e)) K0 e
theorem x60 (N : Gr0) (least most op q23 q67 : Int) (q66 q41 : List UInt8) (q13 q17 : Int) (n_ : Nat) (e : List q45 × Int × Int × List q24 × Int × Int × List Int) : q61 (wq3 N ) n_ ((qc4 least most op q23 q67 q66 q41 q13 q17) e) ((qc2 least most op q23 q67 q66 q41 q13 q17) e) = q95 (w40 N least most op q23 q67 q66 q41 q13 q17 ) n_ e :=
 q40 (qc4 least most op q23 q67 q66 q41 q13 q17) (qc2 least most op q23 q67 q66 q41 q13 q17) (by
  intro K e
  have h : (wq3 N ) K ((qc4 least most op q23 q67 q66 q41 q13 q17) e) ((qc2 least most op q23 q67 q66 q41 q13 q17) e) = wh7 N least most op q23 q67 q66 q41 q13 q17 (fun least most r3 uc4 zx7 qv2 u97 u50 wm9 op q23 q67 q66 q41 qu9 q13 q17 e => jmp N.n (wn7 N K) (wp6 least most r3 uc4 zx7 qv2 u97 u50 wm9 op q23 q67 q66 q41 qu9 q13 q17 e) (wr0 least most r3 uc4 zx7 qv2 u97 u50 wm9 op q23 q67 q66 q41 qu9 q13 q17 e)) (fun least most r3 op q23 q67 q66 q41 q13 q17 e => jmp N.n (w36 N K) (w52 least most r3 op q23 q67 q66 q41 q13 q17 e) (w31 least most r3 op q23 q67 q66 q41 q13 q17 e)) (fun op q23 q67 q66 q41 q13 q17 e => jmp N.n (wp9 N ) (wr4 op q23 q67 q66 q41 q13 q17 e) (wq7 op q23 q67 q66 q41 q13 q17 e)) (fun e => K ((qc4 least most op q23 q67 q66 q41 q13 q17) e) ((qc2 least most op q23 q67 q66 q41 q13 q17) e)) e := by obtain ⟨r_L, r_At1, qd4, r_T, yc8, qk7, qb7⟩ := e; kernel_rfl
  rw [h]
  simp only [w40, xh0, j09, j42] <;> rfl) n_ e
noncomputable def wp2 (N : Gr0) : List TV → List TOb → Option OX0 := yz2 DR q80 (q73 N) (q92 (q07 (q07 (q07 (q07 (q10 Tryz.f207)))))) (qc5 DR q80 (q73 N) (q07 (q07 (q07 (q07 (q07 (q10 Tryz.f207)))))) (q99.loops.drop 0) (qh9 N))
def wk9 (N : Gr0) (least most : Int) (q43 : List q45) (wd6 : Int) (q71 : List q24) (op q13 q17 : Int) (l3 : Int → Int → Int → Int → Int → (List UInt8) → (List UInt8) → Int → Int → OX5 → Option OX0) (e : Int × Int × Int) : Option OX0 :=
 match e with
 | (qj3, r_E, ze3) =>
  (qj7 N.n q43 wd6 qj3 q71 r_E ze3 [40]).bind fun r1 =>
  l3 least most op 0 0 [] [] q13 q17 (r1.1.1.1, r1.1.1.2.1, r1.1.1.2.2.1, r1.1.1.2.2.2.1, r1.1.1.2.2.2.2.1, r1.1.1.2.2.2.2.2.1, [])
def qr8 (N : Gr0) (least most : Int) (q43 : List q45) (wd6 : Int) (q71 : List q24) (op q13 q17 : Int) (e : Int × Int × Int) : Option OX0 := wk9 N least most q43 wd6 q71 op q13 q17 (fun least most op q23 q67 q66 q41 q13 q17 e => q95 (w40 N least most op q23 q67 q66 q41 q13 q17) N.n e) e
theorem xh7 (N : Gr0) (least most : Int) (q43 : List q45) (wd6 : Int) (q71 : List q24) (op q13 q17 : Int) (e : Int × Int × Int) : jmp N.n (wp2 N ) ((wn8 least most q43 wd6 q71 op q13 q17) e) ((wn9 least most q43 wd6 q71 op q13 q17) e) = at1 N.n (qr8 N least most q43 wd6 q71 op q13 q17 e) := qo8 (by
 have h : (wp2 N ) ((wn8 least most q43 wd6 q71 op q13 q17) e) ((wn9 least most q43 wd6 q71 op q13 q17) e) = wk9 N least most q43 wd6 q71 op q13 q17 (fun least most op q23 q67 q66 q41 q13 q17 e => q61 (wq3 N ) N.n (qc4 least most op q23 q67 q66 q41 q13 q17 e) (qc2 least most op q23 q67 q66 q41 q13 q17 e)) e := by obtain ⟨qj3, r_E, ze3⟩ := e; kernel_rfl
 rw [h]
 simp only [qr8, x60] <;> rfl) N.n
noncomputable def wq8 (N : Gr0) : List TV → List TOb → Option OX0 := yz2 DR q80 (q73 N) (q92 (q07 (q07 (q10 Tryz.f207)))) (qc5 DR q80 (q73 N) (q07 (q07 (q07 (q10 Tryz.f207)))) (q99.loops.drop 0) (qh9 N))
def wi5 (N : Gr0) (least most : Int) (q43 : List q45) (q21 q18 : Int) (q71 : List q24) (q84 q29 op : Int) (l2 : Int → Int → (List q45) → Int → (List q24) → Int → Int → Int → (Int × Int × Int) → Option OX0) (e : Int × Int) : Option OX0 :=
 match e with
 | (q13, q17) =>
  bif q27 (q21 + 1) then
  (qa3 N.n q43 (q21 + 1) q18 q71 q84 q29).bind fun r =>
  bif (r == ([40] : List UInt8)) then
   bif decide (q18 ≥ 12) then
    bif (q84 == 0) then
     bif q27 (q18 + 1) then
     l2 least most q43 (q21 + 1) q71 op q13 q17 (q18 + 1, 12, q21 + 1)
     else none
    else
     bif q27 (q18 + 1) then
     l2 least most q43 (q21 + 1) q71 op q13 q17 (q18 + 1, q84, q29)
     else none
   else
    bif q27 (q18 + 1) then
    l2 least most q43 (q21 + 1) q71 op q13 q17 (q18 + 1, q84, q29)
    else none
  else
   l2 least most q43 (q21 + 1) q71 op q13 q17 (q18, q84, q29)
  else none
def qs7 (N : Gr0) (least most : Int) (q43 : List q45) (q21 q18 : Int) (q71 : List q24) (q84 q29 op : Int) (e : Int × Int) : Option OX0 := wi5 N least most q43 q21 q18 q71 q84 q29 op (fun least most q43 wd6 q71 op q13 q17 e => at1 N.n (qr8 N least most q43 wd6 q71 op q13 q17 e)) e
theorem x83 (N : Gr0) (least most : Int) (q43 : List q45) (q21 q18 : Int) (q71 : List q24) (q84 q29 op : Int) (e : Int × Int) : jmp N.n (wq8 N ) ((wp5 least most q43 q21 q18 q71 q84 q29 op) e) ((wr7 least most q43 q21 q18 q71 q84 q29 op) e) = at1 N.n (qs7 N least most q43 q21 q18 q71 q84 q29 op e) := qo8 (by
 have h : (wq8 N ) ((wp5 least most q43 q21 q18 q71 q84 q29 op) e) ((wr7 least most q43 q21 q18 q71 q84 q29 op) e) = wi5 N least most q43 q21 q18 q71 q84 q29 op (fun least most q43 wd6 q71 op q13 q17 e => jmp N.n (wp2 N ) (wn8 least most q43 wd6 q71 op q13 q17 e) (wn9 least most q43 wd6 q71 op q13 q17 e)) e := by obtain ⟨q13, q17⟩ := e; kernel_rfl
 rw [h]
 simp only [qs7, xh7] <;> rfl) N.n
def z38 (N : Gr0) (q43 : List q45) (q21 q18 : Int) (q71 : List q24) (q84 q29 op least most : Int) (l1 : Int → Int → (List q45) → Int → Int → (List q24) → Int → Int → Int → (Int × Int) → Option OX0) : Option OX0 :=
 bif decide (q21 < (q43.length : Int)) then
  bif inR q21 q43.length then
  l1 least most q43 q21 q18 q71 q84 q29 op (((q25 q43 q21 q34).2.2.2.1).1, ((q25 q43 q21 q34).2.2.2.1).2.1)
  else none
 else
  l1 least most q43 q21 q18 q71 q84 q29 op (0, 0)
def qm1 (N : Gr0) (q43 : List q45) (q21 q18 : Int) (q71 : List q24) (q84 q29 op least most : Int) : Option OX0 := z38 N q43 q21 q18 q71 q84 q29 op least most (fun least most q43 q21 q18 q71 q84 q29 op e => at1 N.n (qs7 N least most q43 q21 q18 q71 q84 q29 op e))
noncomputable def jf7 (N : Gr0) (q43 : List q45) (q21 q18 : Int) (q71 : List q24) (q84 q29 op least most : Int) : Option (ObR qg0) := q22 DR Tryz.prog N.n (z36 N) q99 Tryz.f207 (q10 Tryz.f207) (ObR qg0) (encX qg0 ((q43, q21, q18, q71, q84, q29, ()), ()) (op, least, most, ())) (encY qg0 ((q43, q21, q18, q71, q84, q29, ()), ())) (kObj qg0)
theorem yw0 (N : Gr0) (q43 : List q45) (q21 q18 : Int) (q71 : List q24) (q84 q29 op least most : Int) : jf7 N q43 q21 q18 q71 q84 q29 op least most = qm1 N q43 q21 q18 q71 q84 q29 op least most := by
 have h : jf7 N q43 q21 q18 q71 q84 q29 op least most = z38 N q43 q21 q18 q71 q84 q29 op least most (fun least most q43 q21 q18 q71 q84 q29 op e => jmp N.n (wq8 N ) (wp5 least most q43 q21 q18 q71 q84 q29 op e) (wr7 least most q43 q21 q18 q71 q84 q29 op e)) := by kernel_rfl
 rw [h]
 simp only [qm1, x83] <;> rfl
theorem yi7 (N : Gr0) (h : vd3 N) : q16 Tryz.prog 207 (wc9 (qm1 N)) := ww2 (xh9 N h) Tryz.func207 rfl (by kernel_rfl) (by kernel_rfl) fun (y : OX2 × Unit) (x : Els [(.int .u8), (.int .i64), (.int .i64)]) => yw0 N y.1.1 y.1.2.1 y.1.2.2.1 y.1.2.2.2.1 y.1.2.2.2.2.1 y.1.2.2.2.2.2.1 x.1 x.2.1 x.2.2.1
def xi4 (n : Nat) : Nat → Gr0
 | 0 => ⟨n, fun _ _ _ _ _ _ _ => none, fun _ _ _ _ _ _ => none, fun _ _ _ _ _ _ _ _ _ => none⟩
 | d + 1 => ⟨n, qf2 (xi4 n d), qm3 (xi4 n d), qm1 (xi4 n d)⟩
theorem xx0 (n : Nat) : ∀ d, vd3 (xi4 n d)
 | 0 => ⟨ym0, ym0, ym0⟩
 | d + 1 => ⟨yj6 _ (xx0 n d), yj1 _ (xx0 n d), yi7 _ (xx0 n d)⟩
def r7_Reader_expr (N : Nat) : (List q45) → Int → Int → (List q24) → Int → Int → Int → Option OX0 := (xi4 N N).r7_Reader_expr
def zq0 (N : Nat) : Ent := qh0 (r7_Reader_expr N)
theorem yc7 (N : Nat) : q16 Tryz.prog 65 (zq0 N) := (xx0 N N).r7_Reader_expr
def kk3 : FH := ⟨[], [], [(6, ⟨10, 50, 0, [], []⟩), (9, ⟨9, 50, 0, [], []⟩)], [], false, [], []⟩
noncomputable def vu4 (N : Nat) : q52 := tab [(65, zq0 N)]
theorem uz6 (N : Nat) : q14 Tryz.prog (vu4 N) := q06 (yc7 N) <| q26 _
def x10 (N : Nat) (l : List q45) (uf9 : Int) : Option ((List q24) × Int × Int × Unit) :=
 bif decide (uf9 < 0) then
  some ([], 0, 2, ())
 else
  bif decide (uf9 > (l.length : Int)) then
   some ([], 0, 2, ())
  else
   (r7_Reader_expr N l uf9 0 [] 0 0 0).bind fun r =>
   bif (r.1.1.2.2.2.2.1 != 0) then
    some ([], r.1.1.2.2.2.2.2.1, r.1.1.2.2.2.2.1, ())
   else
    bif decide ((r.1.1.2.2.2.1.length : Int) > 60) then
     some ([], uf9, 7, ())
    else
     some (r.1.1.2.2.2.1, r.1.1.2.1, 0, ())
noncomputable def ko5 (N : Nat) (l : List q45) (uf9 : Int) : Option (RT [(.list q82), (.int .i64), (.int .i64)]) := q22 DR Tryz.prog N (vu4 N) kk3 Tryz.f30 (q10 Tryz.f30) (RT [(.list q82), (.int .i64), (.int .i64)]) (qd6 [(.list qd3), (.int .i64)] (l, uf9, ())) [] (q42 [(.list q82), (.int .i64), (.int .i64)])
theorem uw8 (N : Nat) (l : List q45) (uf9 : Int) : ko5 N l uf9 = x10 N l uf9 := by kernel_rfl
def uf0 (m : (List q45) → Int → Option ((List q24) × Int × Int × Unit)) : Ent := q37 [(.list qd3), (.int .i64)] [(.list q82), (.int .i64), (.int .i64)] fun (x : Els [(.list qd3), (.int .i64)]) => m x.1 x.2.1
def xl6 (N : Nat) : Ent := uf0 (x10 N)
theorem vq4 (N : Nat) : q16 Tryz.prog 30 (xl6 N) := q15 (uz6 N) Tryz.func30 rfl (by kernel_rfl) fun (x : Els [(.list qd3), (.int .i64)]) => uw8 N x.1 x.2.1
def k09 : FH := ⟨[], [], [], [], false, [], []⟩
noncomputable def vc5 (N : Nat) : q52 := tab []
theorem ux9 (N : Nat) : q14 Tryz.prog (vc5 N) := q26 _
def jz1 (N : Nat) (l : List q45) : Option qv3 :=
 bif ((l.length : Int) == 0) then
  some (1, 1, ())
 else
  bif q27 ((l.length : Int) - 1) then
  bif inR ((l.length : Int) - 1) l.length then
  bif (((q25 l ((l.length : Int) - 1) q34).1) == 2) then
   bif q27 ((((q25 l ((l.length : Int) - 1) q34).2.1).length : Int) + 1) then
   bif (((q25 l ((l.length : Int) - 1) q34).1) == 5) then
    bif q27 (((((q25 l ((l.length : Int) - 1) q34).2.1).length : Int) + 1) + 2) then
    bif q27 ((((q25 l ((l.length : Int) - 1) q34).2.2.2.1).2.1) + (((((q25 l ((l.length : Int) - 1) q34).2.1).length : Int) + 1) + 2)) then
    some (((q25 l ((l.length : Int) - 1) q34).2.2.2.1).1, (((q25 l ((l.length : Int) - 1) q34).2.2.2.1).2.1) + (((((q25 l ((l.length : Int) - 1) q34).2.1).length : Int) + 1) + 2), ())
    else none
    else none
   else
    bif q27 ((((q25 l ((l.length : Int) - 1) q34).2.2.2.1).2.1) + ((((q25 l ((l.length : Int) - 1) q34).2.1).length : Int) + 1)) then
    some (((q25 l ((l.length : Int) - 1) q34).2.2.2.1).1, (((q25 l ((l.length : Int) - 1) q34).2.2.2.1).2.1) + ((((q25 l ((l.length : Int) - 1) q34).2.1).length : Int) + 1), ())
    else none
   else none
  else
   bif (((q25 l ((l.length : Int) - 1) q34).1) == 3) then
    bif q27 ((((q25 l ((l.length : Int) - 1) q34).2.1).length : Int) + 1) then
    bif (((q25 l ((l.length : Int) - 1) q34).1) == 5) then
     bif q27 (((((q25 l ((l.length : Int) - 1) q34).2.1).length : Int) + 1) + 2) then
     bif q27 ((((q25 l ((l.length : Int) - 1) q34).2.2.2.1).2.1) + (((((q25 l ((l.length : Int) - 1) q34).2.1).length : Int) + 1) + 2)) then
     some (((q25 l ((l.length : Int) - 1) q34).2.2.2.1).1, (((q25 l ((l.length : Int) - 1) q34).2.2.2.1).2.1) + (((((q25 l ((l.length : Int) - 1) q34).2.1).length : Int) + 1) + 2), ())
     else none
     else none
    else
     bif q27 ((((q25 l ((l.length : Int) - 1) q34).2.2.2.1).2.1) + ((((q25 l ((l.length : Int) - 1) q34).2.1).length : Int) + 1)) then
     some (((q25 l ((l.length : Int) - 1) q34).2.2.2.1).1, (((q25 l ((l.length : Int) - 1) q34).2.2.2.1).2.1) + ((((q25 l ((l.length : Int) - 1) q34).2.1).length : Int) + 1), ())
     else none
    else none
   else
    bif (((q25 l ((l.length : Int) - 1) q34).1) == 6) then
     bif q27 ((((q25 l ((l.length : Int) - 1) q34).2.1).length : Int) + 1) then
     bif (((q25 l ((l.length : Int) - 1) q34).1) == 5) then
      bif q27 (((((q25 l ((l.length : Int) - 1) q34).2.1).length : Int) + 1) + 2) then
      bif q27 ((((q25 l ((l.length : Int) - 1) q34).2.2.2.1).2.1) + (((((q25 l ((l.length : Int) - 1) q34).2.1).length : Int) + 1) + 2)) then
      some (((q25 l ((l.length : Int) - 1) q34).2.2.2.1).1, (((q25 l ((l.length : Int) - 1) q34).2.2.2.1).2.1) + (((((q25 l ((l.length : Int) - 1) q34).2.1).length : Int) + 1) + 2), ())
      else none
      else none
     else
      bif q27 ((((q25 l ((l.length : Int) - 1) q34).2.2.2.1).2.1) + ((((q25 l ((l.length : Int) - 1) q34).2.1).length : Int) + 1)) then
      some (((q25 l ((l.length : Int) - 1) q34).2.2.2.1).1, (((q25 l ((l.length : Int) - 1) q34).2.2.2.1).2.1) + ((((q25 l ((l.length : Int) - 1) q34).2.1).length : Int) + 1), ())
      else none
     else none
    else
     bif (((q25 l ((l.length : Int) - 1) q34).1) == 5) then
      bif q27 ((((q25 l ((l.length : Int) - 1) q34).2.1).length : Int) + 2) then
      bif q27 ((((q25 l ((l.length : Int) - 1) q34).2.2.2.1).2.1) + ((((q25 l ((l.length : Int) - 1) q34).2.1).length : Int) + 2)) then
      some (((q25 l ((l.length : Int) - 1) q34).2.2.2.1).1, (((q25 l ((l.length : Int) - 1) q34).2.2.2.1).2.1) + ((((q25 l ((l.length : Int) - 1) q34).2.1).length : Int) + 2), ())
      else none
      else none
     else
      bif q27 ((((q25 l ((l.length : Int) - 1) q34).2.2.2.1).2.1) + (((q25 l ((l.length : Int) - 1) q34).2.1).length : Int)) then
      some (((q25 l ((l.length : Int) - 1) q34).2.2.2.1).1, (((q25 l ((l.length : Int) - 1) q34).2.2.2.1).2.1) + (((q25 l ((l.length : Int) - 1) q34).2.1).length : Int), ())
      else none
  else none
  else none
noncomputable def k47 (N : Nat) (l : List q45) : Option (RT [w86]) := q22 DR Tryz.prog N (vc5 N) k09 Tryz.f31 (q10 Tryz.f31) (RT [w86]) (qd6 [(.list qd3)] (l, ())) [] (q42 [w86])
theorem ud7 (N : Nat) (l : List q45) : k47 N l = jz1 N l := by kernel_rfl
def vr6 (m : (List q45) → Option qv3) : Ent := q37 [(.list qd3)] [w86] fun (x : Els [(.list qd3)]) => m x.1
def x18 (N : Nat) : Ent := vr6 (jz1 N)
theorem vf1 (N : Nat) : q16 Tryz.prog 31 (x18 N) := q15 (ux9 N) Tryz.func31 rfl (by kernel_rfl) fun (x : Els [(.list qd3)]) => ud7 N x.1
end Go.Proofs.YtgicljncknbgcaaGreat.Abs
