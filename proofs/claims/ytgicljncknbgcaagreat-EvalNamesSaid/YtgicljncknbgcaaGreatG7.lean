/- The functions of the program, told on typed values, printed by a program: each tells what the reckoning of its body tells. -/
import Derived.Test.YtgicljncknbgcaaGreatL7
import Derived.Test.YtgicljncknbgcaaGreatG6
import Derived.Test.YtgicljncknbgcaaGreatLA
import Derived.Test.YtgicljncknbgcaaGreatProg
set_option linter.unusedVariables false
set_option linter.unusedSimpArgs false
set_option linter.unusedSectionVars false
namespace Go.Proofs.YtgicljncknbgcaaGreat.Abs
set_option maxRecDepth 100000
open Go Go.Proofs
def wz1 : LH := ⟨[(2, .asis), (3, .asis), (6, .asis), (7, .own q05 507 26 3), (10, .int .i64), (11, .int .i64)], [], [.cells [.lst q08, .lst .bool], .cells [.int .u8, .int .i64, .str, .int .i64]]⟩
def qp7 : FH := ⟨[wz1], [], [], [], false, [], []⟩
noncomputable def w80 (N : Nat) : q52 := tab [(153, q58 N), (107, xp5 N)]
theorem ju4 (N : Nat) : q14 Tryz.prog (w80 N) := q06 (q53 N) <| q06 (vo3 N) <| q26 _
noncomputable def wx0 : Sc := wl4 Tryz.prog qp7
noncomputable def wv7 (N : Nat) : Cfg := ⟨N, w80 N, 0⟩
noncomputable def jm7 (N : Nat) : Exit → List TV → List TOb → Option q03 := fin Tryz.prog 0 Tryz.f99.results.toList (q42 [q08])
def w20 (n : Int) (k_l : List q03) (q09 : List Bool) (q04 q19 : Int) (q20 : List UInt8) (q68 : Int) (e : List q00 × Int) : List TV := match e with
 | (l, t11) => frm 30 [(2, .func (.func 107) []), (3, .ref 0 0), (6, .ref 1 0), (7, .tl q05 l (.own 507 26 3)), (10, .int .i64 n), (11, .int .i64 t11)]
def w10 (n : Int) (k_l : List q03) (q09 : List Bool) (q04 q19 : Int) (q20 : List UInt8) (q68 : Int) (e : List q00 × Int) : List TOb := match e with
 | (l, t11) => [.cells [.tl q08 k_l .unk, .tl .bool q09 .unk] 118 true, .cells [.int .u8 q04, .int .i64 q19, .str q20, .int .i64 q68] 115 true]
noncomputable def wu3 (N : Nat) : (List TV → List TOb → Option q03) → List TV → List TOb → Option q03 := w57 DR wx0 (wv7 N) (ql8 (qc7 (q07 (q92 (q07 (q07 (q10 Tryz.f99))))))) wz1 (qp7.loops.drop 1) (qj4 0 (qc5 DR wx0 (wv7 N) (q07 (q07 (q07 (q10 Tryz.f99)))) (qp7.loops.drop 1) (jm7 N)))
def w07 (N : Nat) (n : Int) (k_l : List q03) (q09 : List Bool) (q04 q19 : Int) (q20 : List UInt8) (q68 : Int) (K0 : (List q00 × Int) → Option q03) (e : List q00 × Int) : Option q03 :=
 match e with
 | (l, t11) =>
  bif decide (t11 < n) then
   (q64 N (k_l, q09, ()) t11).bind fun r =>
   bif (r.2.1 != 0) then
    some r
   else
    bif qz1 (l.length + ([r.1] : List q00).length) 4398046511104 then
    bif q27 (t11 + 1) then
    K0 ((l ++ ([r.1] : List q00)), t11 + 1)
    else none
    else none
  else
   (y52 N l).bind fun r1 =>
   some r1
theorem y36 (N : Nat) (n : Int) (k_l : List q03) (q09 : List Bool) (q04 q19 : Int) (q20 : List UInt8) (q68 : Int) (n_ : Nat) (e : List q00 × Int) : q61 (wu3 N ) n_ ((w20 n k_l q09 q04 q19 q20 q68) e) ((w10 n k_l q09 q04 q19 q20 q68) e) = q95 (w07 N n k_l q09 q04 q19 q20 q68 ) n_ e :=
 q40 (w20 n k_l q09 q04 q19 q20 q68) (w10 n k_l q09 q04 q19 q20 q68) (by intro K e; obtain ⟨l, t11⟩ := e; kernel_rfl) n_ e
def zd2 (N : Nat) (k : q36) (n : Int) (l1 : Int → (List q03) → (List Bool) → Int → Int → (List UInt8) → Int → (List q00 × Int) → Option q03) : Option q03 :=
 l1 n k.1 k.2.1 0 0 [] 0 ([], 0)
def qn7 (N : Nat) (k : q36) (n : Int) : Option q03 := zd2 N k n (fun n k_l q09 q04 q19 q20 q68 e => q95 (w07 N n k_l q09 q04 q19 q20 q68) N e)
abbrev wx9 : List PK := [.val q72, .val (.int .i64), .fn 107 0]
noncomputable def z71 (N : Nat) (k : q36) (n : Int) : Option (RT [q08]) := q22 DR Tryz.prog N (w80 N) qp7 Tryz.f99 (q10 Tryz.f99) (RT [q08]) (qy2 wx9 (k, n, ())) [] (q42 [q08])
theorem jm2 (N : Nat) (k : q36) (n : Int) : z71 N k n = qn7 N k n := by
 have h : z71 N k n = zd2 N k n (fun n k_l q09 q04 q19 q20 q68 e => q61 (wu3 N ) N (w20 n k_l q09 q04 q19 q20 q68 e) (w10 n k_l q09 q04 q19 q20 q68 e)) := by kernel_rfl
 rw [h]
 simp only [qn7, y36] <;> rfl
def je6 (m : q36 → Int → Option q03) : Ent := qf5 wx9 [q08] fun (x : Els [q72, (.int .i64)]) => m x.1 x.2.1
def wn1 (N : Nat) : Ent := je6 (qn7 N)
theorem zz4 (N : Nat) : q16 Tryz.prog 99 (wn1 N) := q55 (ju4 N) Tryz.func99 rfl (by kernel_rfl) (by kernel_rfl) fun (x : Els [q72, (.int .i64)]) => jm2 N x.1 x.2.1
def num_Mod_H : FH := ⟨[], [], [], [], false, [], []⟩
noncomputable def uq9 (N : Nat) : q52 := tab [(220, wv5 N), (221, wa6 N)]
theorem kl6 (N : Nat) : q14 Tryz.prog (uq9 N) := q06 (ws1 N) <| q06 (wb8 N) <| q26 _
def v91 (N : Nat) (a b : Int) : Option (Int × Int × Unit) :=
 bif (b == 0) then
  some (0, 10, ())
 else
  (w50 N a).bind fun r =>
  (w50 N b).bind fun r1 =>
  bif decide (r1 ≠ 0) then
  (qj9 N (decide (a < 0)) 0 (Int.tmod r r1)).bind fun r2 =>
  some r2
  else none
noncomputable def num_Mod_C (N : Nat) (a b : Int) : Option (RT [(.int .i64), (.int .i64)]) := q22 DR Tryz.prog N (uq9 N) num_Mod_H Tryz.f172 (q10 Tryz.f172) (RT [(.int .i64), (.int .i64)]) (qd6 [(.int .i64), (.int .i64)] (a, b, ())) [] (q42 [(.int .i64), (.int .i64)])
theorem k64 (N : Nat) (a b : Int) : num_Mod_C N a b = v91 N a b := by kernel_rfl
def uy1 (m : Int → Int → Option (Int × Int × Unit)) : Ent := q37 [(.int .i64), (.int .i64)] [(.int .i64), (.int .i64)] fun (x : Els [(.int .i64), (.int .i64)]) => m x.1 x.2.1
def ve1 (N : Nat) : Ent := uy1 (v91 N)
theorem u34 (N : Nat) : q16 Tryz.prog 172 (ve1 N) := q15 (kl6 N) Tryz.func172 rfl (by kernel_rfl) fun (x : Els [(.int .i64), (.int .i64)]) => k64 N x.1 x.2.1
def uc8 : FH := ⟨[], [], [], [], false, [], []⟩
noncomputable def yr3 (N : Nat) : q52 := tab []
theorem vl1 (N : Nat) : q14 Tryz.prog (yr3 N) := q26 _
def zj1 (N : Nat) (n : Int) : Option q00 :=
 some (1, n, [], ())
noncomputable def u18 (N : Nat) (n : Int) : Option (RT [q05]) := q22 DR Tryz.prog N (yr3 N) uc8 Tryz.f110 (q10 Tryz.f110) (RT [q05]) (qd6 [(.int .i64)] (n, ())) [] (q42 [q05])
theorem v14 (N : Nat) (n : Int) : u18 N n = zj1 N n := by kernel_rfl
def xv2 (m : Int → Option q00) : Ent := q37 [(.int .i64)] [q05] fun (x : Els [(.int .i64)]) => m x.1
def zg1 (N : Nat) : Ent := xv2 (zj1 N)
theorem j34 (N : Nat) : q16 Tryz.prog 110 (zg1 N) := q15 (vl1 N) Tryz.func110 rfl (by kernel_rfl) fun (x : Els [(.int .i64)]) => v14 N x.1
def kn8 : FH := ⟨[], [], [(1, ⟨13, 21, 0, [], []⟩)], [], false, [], []⟩
noncomputable def vu5 (N : Nat) : q52 := tab [(172, ve1 N), (110, zg1 N), (101, qh2 N)]
theorem k78 (N : Nat) : q14 Tryz.prog (vu5 N) := q06 (u34 N) <| q06 (j34 N) <| q06 (qe5 N) <| q26 _
def xx7 (N : Nat) (l : List q00) : Option q03 :=
 bif inR 0 l.length then
 bif inR 1 l.length then
 (v91 N ((q25 l 0 q32).2.1) ((q25 l 1 q32).2.1)).bind fun r =>
 (zj1 N r.1).bind fun r1 =>
 (qd1 N r1 r.2.1).bind fun r2 =>
 some r2
 else none
 else none
noncomputable def kl7 (N : Nat) (l : List q00) : Option (RT [q08]) := q22 DR Tryz.prog N (vu5 N) kn8 Tryz.f108 (q10 Tryz.f108) (RT [q08]) (qd6 [(.list q05)] (l, ())) [] (q42 [q08])
theorem uk3 (N : Nat) (l : List q00) : kl7 N l = xx7 N l := by kernel_rfl
def u07 (m : (List q00) → Option q03) : Ent := q37 [(.list q05)] [q08] fun (x : Els [(.list q05)]) => m x.1
def xo9 (N : Nat) : Ent := u07 (xx7 N)
theorem vl8 (N : Nat) : q16 Tryz.prog 108 (xo9 N) := q15 (k78 N) Tryz.func108 rfl (by kernel_rfl) fun (x : Els [(.list q05)]) => uk3 N x.1
def jz6 : FH := ⟨[], [], [], [], false, [], []⟩
noncomputable def wt9 (N : Nat) : q52 := tab [(159, qd9 N), (76, q97 N), (157, qb8 N), (108, xo9 N)]
theorem jl8 (N : Nat) : q14 Tryz.prog (wt9 N) := q06 (qc9 N) <| q06 (q87 N) <| q06 (qb0 N) <| q06 (vl8 N) <| q26 _
def qg7 (N : Nat) (l : List q00) (t1 : Int) : Option q03 :=
 (qb3 N t1 t1 l).bind fun r =>
 bif (!r) then
  (qe0 N 8).bind fun r1 =>
  some r1
 else
  (q86 N l).bind fun r2 =>
  bif r2 then
   some ((0, 0, [], ()), 0, ())
  else
   (xx7 N l).bind fun r3 =>
   some r3
abbrev wn6 : List PK := [.val (.list q05), .ep 1, .val (.int .u8), .ep 1, .fn 108 0]
noncomputable def jx2 (N : Nat) (l : List q00) (t1 : Int) : Option (RT [q08]) := q22 DR Tryz.prog N (wt9 N) jz6 Tryz.f160 (q10 Tryz.f160) (RT [q08]) (qy2 wn6 (l, t1, ())) [] (q42 [q08])
theorem j63 (N : Nat) (l : List q00) (t1 : Int) : jx2 N l t1 = qg7 N l t1 := by kernel_rfl
def j41 (m : (List q00) → Int → Option q03) : Ent := qf5 wn6 [q08] fun (x : Els [(.list q05), (.int .u8)]) => m x.1 x.2.1
def wl1 (N : Nat) : Ent := j41 (qg7 N)
theorem zs5 (N : Nat) : q16 Tryz.prog 160 (wl1 N) := q55 (jl8 N) Tryz.func160 rfl (by kernel_rfl) (by kernel_rfl) fun (x : Els [(.list q05), (.int .u8)]) => j63 N x.1 x.2.1
def z10 : LH := ⟨[(2, .asis), (3, .asis), (6, .asis), (7, .own q05 507 26 3), (10, .int .i64), (11, .int .i64)], [], [.cells [.lst q08, .lst .bool], .cells [.int .u8, .int .i64, .str, .int .i64]]⟩
def qq0 : FH := ⟨[z10], [], [], [], false, [], []⟩
noncomputable def wa1 (N : Nat) : q52 := tab [(153, q58 N), (160, wl1 N)]
theorem jt1 (N : Nat) : q14 Tryz.prog (wa1 N) := q06 (q53 N) <| q06 (zs5 N) <| q26 _
noncomputable def ww7 : Sc := wl4 Tryz.prog qq0
noncomputable def z17 (N : Nat) : Cfg := ⟨N, wa1 N, 0⟩
noncomputable def jj3 (N : Nat) : Exit → List TV → List TOb → Option q03 := fin Tryz.prog 0 Tryz.f99.results.toList (q42 [q08])
def w03 (n : Int) (k_l : List q03) (q09 : List Bool) (q04 q19 : Int) (q20 : List UInt8) (q68 t1 : Int) (e : List q00 × Int) : List TV := match e with
 | (l, t11) => frm 30 [(2, .func (.func 160) [.ep [.int .u8 t1] 0, .ep [.func (.func 108) []] 0]), (3, .ref 0 0), (6, .ref 1 0), (7, .tl q05 l (.own 507 26 3)), (10, .int .i64 n), (11, .int .i64 t11)]
def w23 (n : Int) (k_l : List q03) (q09 : List Bool) (q04 q19 : Int) (q20 : List UInt8) (q68 t1 : Int) (e : List q00 × Int) : List TOb := match e with
 | (l, t11) => [.cells [.tl q08 k_l .unk, .tl .bool q09 .unk] 118 true, .cells [.int .u8 q04, .int .i64 q19, .str q20, .int .i64 q68] 115 true]
noncomputable def z00 (N : Nat) : (List TV → List TOb → Option q03) → List TV → List TOb → Option q03 := w57 DR ww7 (z17 N) (ql8 (qc7 (q07 (q92 (q07 (q07 (q10 Tryz.f99))))))) z10 (qq0.loops.drop 1) (qj4 0 (qc5 DR ww7 (z17 N) (q07 (q07 (q07 (q10 Tryz.f99)))) (qq0.loops.drop 1) (jj3 N)))
def qz7 (N : Nat) (n : Int) (k_l : List q03) (q09 : List Bool) (q04 q19 : Int) (q20 : List UInt8) (q68 t1 : Int) (K0 : (List q00 × Int) → Option q03) (e : List q00 × Int) : Option q03 :=
 match e with
 | (l, t11) =>
  bif decide (t11 < n) then
   (q64 N (k_l, q09, ()) t11).bind fun r =>
   bif (r.2.1 != 0) then
    some r
   else
    bif qz1 (l.length + ([r.1] : List q00).length) 4398046511104 then
    bif q27 (t11 + 1) then
    K0 ((l ++ ([r.1] : List q00)), t11 + 1)
    else none
    else none
  else
   (qg7 N l t1).bind fun r1 =>
   some r1
theorem jo4 (N : Nat) (n : Int) (k_l : List q03) (q09 : List Bool) (q04 q19 : Int) (q20 : List UInt8) (q68 t1 : Int) (n_ : Nat) (e : List q00 × Int) : q61 (z00 N ) n_ ((w03 n k_l q09 q04 q19 q20 q68 t1) e) ((w23 n k_l q09 q04 q19 q20 q68 t1) e) = q95 (qz7 N n k_l q09 q04 q19 q20 q68 t1 ) n_ e :=
 q40 (w03 n k_l q09 q04 q19 q20 q68 t1) (w23 n k_l q09 q04 q19 q20 q68 t1) (by intro K e; obtain ⟨l, t11⟩ := e; kernel_rfl) n_ e
def zb4 (N : Nat) (k : q36) (n t1 : Int) (l1 : Int → (List q03) → (List Bool) → Int → Int → (List UInt8) → Int → Int → (List q00 × Int) → Option q03) : Option q03 :=
 l1 n k.1 k.2.1 0 0 [] 0 t1 ([], 0)
def qo7 (N : Nat) (k : q36) (n t1 : Int) : Option q03 := zb4 N k n t1 (fun n k_l q09 q04 q19 q20 q68 t1 e => q95 (qz7 N n k_l q09 q04 q19 q20 q68 t1) N e)
abbrev ww5 : List PK := [.val q72, .val (.int .i64), .fn 160 2, .ep 1, .val (.int .u8), .ep 1, .fn 108 0]
noncomputable def za7 (N : Nat) (k : q36) (n t1 : Int) : Option (RT [q08]) := q22 DR Tryz.prog N (wa1 N) qq0 Tryz.f99 (q10 Tryz.f99) (RT [q08]) (qy2 ww5 (k, n, t1, ())) [] (q42 [q08])
theorem jk8 (N : Nat) (k : q36) (n t1 : Int) : za7 N k n t1 = qo7 N k n t1 := by
 have h : za7 N k n t1 = zb4 N k n t1 (fun n k_l q09 q04 q19 q20 q68 t1 e => q61 (z00 N ) N (w03 n k_l q09 q04 q19 q20 q68 t1 e) (w23 n k_l q09 q04 q19 q20 q68 t1 e)) := by kernel_rfl
 rw [h]
 simp only [qo7, jo4] <;> rfl
def jb6 (m : q36 → Int → Int → Option q03) : Ent := qf5 ww5 [q08] fun (x : Els [q72, (.int .i64), (.int .u8)]) => m x.1 x.2.1 x.2.2.1
def wn5 (N : Nat) : Ent := jb6 (qo7 N)
theorem zy9 (N : Nat) : q16 Tryz.prog 99 (wn5 N) := q55 (jt1 N) Tryz.func99 rfl (by kernel_rfl) (by kernel_rfl) fun (x : Els [q72, (.int .i64), (.int .u8)]) => jk8 N x.1 x.2.1 x.2.2.1
def v54 : FH := ⟨[], [], [], [], false, [], []⟩
noncomputable def jy2 (N : Nat) : q52 := tab [(110, zg1 N)]
theorem xs6 (N : Nat) : q14 Tryz.prog (jy2 N) := q06 (j34 N) <| q26 _
def j83 (N : Nat) (l : List q00) : Option q03 :=
 bif inR 0 l.length then
 (zj1 N (((q25 l 0 q32).2.2.1).length : Int)).bind fun r =>
 some (r, 0, ())
 else none
noncomputable def xz5 (N : Nat) (l : List q00) : Option (RT [q08]) := q22 DR Tryz.prog N (jy2 N) v54 Tryz.f109 (q10 Tryz.f109) (RT [q08]) (qd6 [(.list q05)] (l, ())) [] (q42 [q08])
theorem xf7 (N : Nat) (l : List q00) : xz5 N l = j83 N l := by kernel_rfl
def yy3 (m : (List q00) → Option q03) : Ent := q37 [(.list q05)] [q08] fun (x : Els [(.list q05)]) => m x.1
def j45 (N : Nat) : Ent := yy3 (j83 N)
theorem ym6 (N : Nat) : q16 Tryz.prog 109 (j45 N) := q15 (xs6 N) Tryz.func109 rfl (by kernel_rfl) fun (x : Els [(.list q05)]) => xf7 N x.1
def jn6 : FH := ⟨[], [], [], [], false, [], []⟩
noncomputable def z11 (N : Nat) : q52 := tab [(159, qd9 N), (76, q97 N), (157, qb8 N), (109, j45 N)]
theorem jj1 (N : Nat) : q14 Tryz.prog (z11 N) := q06 (qc9 N) <| q06 (q87 N) <| q06 (qb0 N) <| q06 (ym6 N) <| q26 _
def qg8 (N : Nat) (l : List q00) (t1 : Int) : Option q03 :=
 (qb3 N t1 t1 l).bind fun r =>
 bif (!r) then
  (qe0 N 8).bind fun r1 =>
  some r1
 else
  (q86 N l).bind fun r2 =>
  bif r2 then
   some ((0, 0, [], ()), 0, ())
  else
   (j83 N l).bind fun r3 =>
   some r3
abbrev wn4 : List PK := [.val (.list q05), .ep 1, .val (.int .u8), .ep 1, .fn 109 0]
noncomputable def js8 (N : Nat) (l : List q00) (t1 : Int) : Option (RT [q08]) := q22 DR Tryz.prog N (z11 N) jn6 Tryz.f160 (q10 Tryz.f160) (RT [q08]) (qy2 wn4 (l, t1, ())) [] (q42 [q08])
theorem j90 (N : Nat) (l : List q00) (t1 : Int) : js8 N l t1 = qg8 N l t1 := by kernel_rfl
def j33 (m : (List q00) → Int → Option q03) : Ent := qf5 wn4 [q08] fun (x : Els [(.list q05), (.int .u8)]) => m x.1 x.2.1
def wk2 (N : Nat) : Ent := j33 (qg8 N)
theorem zu9 (N : Nat) : q16 Tryz.prog 160 (wk2 N) := q55 (jj1 N) Tryz.func160 rfl (by kernel_rfl) (by kernel_rfl) fun (x : Els [(.list q05), (.int .u8)]) => j90 N x.1 x.2.1
def z13 : LH := ⟨[(2, .asis), (3, .asis), (6, .asis), (7, .own q05 507 26 3), (10, .int .i64), (11, .int .i64)], [], [.cells [.lst q08, .lst .bool], .cells [.int .u8, .int .i64, .str, .int .i64]]⟩
def qp9 : FH := ⟨[z13], [], [], [], false, [], []⟩
noncomputable def w69 (N : Nat) : q52 := tab [(153, q58 N), (160, wk2 N)]
theorem y43 (N : Nat) : q14 Tryz.prog (w69 N) := q06 (q53 N) <| q06 (zu9 N) <| q26 _
noncomputable def wv9 : Sc := wl4 Tryz.prog qp9
noncomputable def wu2 (N : Nat) : Cfg := ⟨N, w69 N, 0⟩
noncomputable def ji8 (N : Nat) : Exit → List TV → List TOb → Option q03 := fin Tryz.prog 0 Tryz.f99.results.toList (q42 [q08])
def qz4 (n : Int) (k_l : List q03) (q09 : List Bool) (q04 q19 : Int) (q20 : List UInt8) (q68 t1 : Int) (e : List q00 × Int) : List TV := match e with
 | (l, t11) => frm 30 [(2, .func (.func 160) [.ep [.int .u8 t1] 0, .ep [.func (.func 109) []] 0]), (3, .ref 0 0), (6, .ref 1 0), (7, .tl q05 l (.own 507 26 3)), (10, .int .i64 n), (11, .int .i64 t11)]
def w11 (n : Int) (k_l : List q03) (q09 : List Bool) (q04 q19 : Int) (q20 : List UInt8) (q68 t1 : Int) (e : List q00 × Int) : List TOb := match e with
 | (l, t11) => [.cells [.tl q08 k_l .unk, .tl .bool q09 .unk] 118 true, .cells [.int .u8 q04, .int .i64 q19, .str q20, .int .i64 q68] 115 true]
noncomputable def z07 (N : Nat) : (List TV → List TOb → Option q03) → List TV → List TOb → Option q03 := w57 DR wv9 (wu2 N) (ql8 (qc7 (q07 (q92 (q07 (q07 (q10 Tryz.f99))))))) z13 (qp9.loops.drop 1) (qj4 0 (qc5 DR wv9 (wu2 N) (q07 (q07 (q07 (q10 Tryz.f99)))) (qp9.loops.drop 1) (ji8 N)))
def w12 (N : Nat) (n : Int) (k_l : List q03) (q09 : List Bool) (q04 q19 : Int) (q20 : List UInt8) (q68 t1 : Int) (K0 : (List q00 × Int) → Option q03) (e : List q00 × Int) : Option q03 :=
 match e with
 | (l, t11) =>
  bif decide (t11 < n) then
   (q64 N (k_l, q09, ()) t11).bind fun r =>
   bif (r.2.1 != 0) then
    some r
   else
    bif qz1 (l.length + ([r.1] : List q00).length) 4398046511104 then
    bif q27 (t11 + 1) then
    K0 ((l ++ ([r.1] : List q00)), t11 + 1)
    else none
    else none
  else
   (qg8 N l t1).bind fun r1 =>
   some r1
theorem jq9 (N : Nat) (n : Int) (k_l : List q03) (q09 : List Bool) (q04 q19 : Int) (q20 : List UInt8) (q68 t1 : Int) (n_ : Nat) (e : List q00 × Int) : q61 (z07 N ) n_ ((qz4 n k_l q09 q04 q19 q20 q68 t1) e) ((w11 n k_l q09 q04 q19 q20 q68 t1) e) = q95 (w12 N n k_l q09 q04 q19 q20 q68 t1 ) n_ e :=
 q40 (qz4 n k_l q09 q04 q19 q20 q68 t1) (w11 n k_l q09 q04 q19 q20 q68 t1) (by intro K e; obtain ⟨l, t11⟩ := e; kernel_rfl) n_ e
def z78 (N : Nat) (k : q36) (n t1 : Int) (l1 : Int → (List q03) → (List Bool) → Int → Int → (List UInt8) → Int → Int → (List q00 × Int) → Option q03) : Option q03 :=
 l1 n k.1 k.2.1 0 0 [] 0 t1 ([], 0)
def qp0 (N : Nat) (k : q36) (n t1 : Int) : Option q03 := z78 N k n t1 (fun n k_l q09 q04 q19 q20 q68 t1 e => q95 (w12 N n k_l q09 q04 q19 q20 q68 t1) N e)
abbrev ww4 : List PK := [.val q72, .val (.int .i64), .fn 160 2, .ep 1, .val (.int .u8), .ep 1, .fn 109 0]
noncomputable def zb3 (N : Nat) (k : q36) (n t1 : Int) : Option (RT [q08]) := q22 DR Tryz.prog N (w69 N) qp9 Tryz.f99 (q10 Tryz.f99) (RT [q08]) (qy2 ww4 (k, n, t1, ())) [] (q42 [q08])
theorem ji5 (N : Nat) (k : q36) (n t1 : Int) : zb3 N k n t1 = qp0 N k n t1 := by
 have h : zb3 N k n t1 = z78 N k n t1 (fun n k_l q09 q04 q19 q20 q68 t1 e => q61 (z07 N ) N (qz4 n k_l q09 q04 q19 q20 q68 t1 e) (w11 n k_l q09 q04 q19 q20 q68 t1 e)) := by kernel_rfl
 rw [h]
 simp only [qp0, jq9] <;> rfl
def j53 (m : q36 → Int → Int → Option q03) : Ent := qf5 ww4 [q08] fun (x : Els [q72, (.int .i64), (.int .u8)]) => m x.1 x.2.1 x.2.2.1
def wm7 (N : Nat) : Ent := j53 (qp0 N)
theorem j46 (N : Nat) : q16 Tryz.prog 99 (wm7 N) := q55 (y43 N) Tryz.func99 rfl (by kernel_rfl) (by kernel_rfl) fun (x : Els [q72, (.int .i64), (.int .u8)]) => ji5 N x.1 x.2.1 x.2.2.1
def jt9 : FH := ⟨[], [], [], [], false, [], []⟩
noncomputable def wu1 (N : Nat) : q52 := tab [(159, qd9 N), (76, q97 N), (157, qb8 N), (111, yg0 N)]
theorem jn1 (N : Nat) : q14 Tryz.prog (wu1 N) := q06 (qc9 N) <| q06 (q87 N) <| q06 (qb0 N) <| q06 (xu2 N) <| q26 _
def qg3 (N : Nat) (l : List q00) (t1 : Int) : Option q03 :=
 (qb3 N t1 t1 l).bind fun r =>
 bif (!r) then
  (qe0 N 8).bind fun r1 =>
  some r1
 else
  (q86 N l).bind fun r2 =>
  bif r2 then
   some ((0, 0, [], ()), 0, ())
  else
   (y49 N l).bind fun r3 =>
   some r3
abbrev wl9 : List PK := [.val (.list q05), .ep 1, .val (.int .u8), .ep 1, .fn 111 0]
noncomputable def jw5 (N : Nat) (l : List q00) (t1 : Int) : Option (RT [q08]) := q22 DR Tryz.prog N (wu1 N) jt9 Tryz.f160 (q10 Tryz.f160) (RT [q08]) (qy2 wl9 (l, t1, ())) [] (q42 [q08])
theorem j56 (N : Nat) (l : List q00) (t1 : Int) : jw5 N l t1 = qg3 N l t1 := by kernel_rfl
def j20 (m : (List q00) → Int → Option q03) : Ent := qf5 wl9 [q08] fun (x : Els [(.list q05), (.int .u8)]) => m x.1 x.2.1
def wj8 (N : Nat) : Ent := j20 (qg3 N)
theorem zt4 (N : Nat) : q16 Tryz.prog 160 (wj8 N) := q55 (jn1 N) Tryz.func160 rfl (by kernel_rfl) (by kernel_rfl) fun (x : Els [(.list q05), (.int .u8)]) => j56 N x.1 x.2.1
def wu9 : LH := ⟨[(2, .asis), (3, .asis), (6, .asis), (7, .own q05 507 26 3), (10, .int .i64), (11, .int .i64)], [], [.cells [.lst q08, .lst .bool], .cells [.int .u8, .int .i64, .str, .int .i64]]⟩
def qq3 : FH := ⟨[wu9], [], [], [], false, [], []⟩
noncomputable def w85 (N : Nat) : q52 := tab [(153, q58 N), (160, wj8 N)]
theorem jr1 (N : Nat) : q14 Tryz.prog (w85 N) := q06 (q53 N) <| q06 (zt4 N) <| q26 _
noncomputable def wz5 : Sc := wl4 Tryz.prog qq3
noncomputable def wy0 (N : Nat) : Cfg := ⟨N, w85 N, 0⟩
noncomputable def jk3 (N : Nat) : Exit → List TV → List TOb → Option q03 := fin Tryz.prog 0 Tryz.f99.results.toList (q42 [q08])
def w28 (n : Int) (k_l : List q03) (q09 : List Bool) (q04 q19 : Int) (q20 : List UInt8) (q68 t1 : Int) (e : List q00 × Int) : List TV := match e with
 | (l, t11) => frm 30 [(2, .func (.func 160) [.ep [.int .u8 t1] 0, .ep [.func (.func 111) []] 0]), (3, .ref 0 0), (6, .ref 1 0), (7, .tl q05 l (.own 507 26 3)), (10, .int .i64 n), (11, .int .i64 t11)]
def qz6 (n : Int) (k_l : List q03) (q09 : List Bool) (q04 q19 : Int) (q20 : List UInt8) (q68 t1 : Int) (e : List q00 × Int) : List TOb := match e with
 | (l, t11) => [.cells [.tl q08 k_l .unk, .tl .bool q09 .unk] 118 true, .cells [.int .u8 q04, .int .i64 q19, .str q20, .int .i64 q68] 115 true]
noncomputable def wy6 (N : Nat) : (List TV → List TOb → Option q03) → List TV → List TOb → Option q03 := w57 DR wz5 (wy0 N) (ql8 (qc7 (q07 (q92 (q07 (q07 (q10 Tryz.f99))))))) wu9 (qq3.loops.drop 1) (qj4 0 (qc5 DR wz5 (wy0 N) (q07 (q07 (q07 (q10 Tryz.f99)))) (qq3.loops.drop 1) (jk3 N)))
def w05 (N : Nat) (n : Int) (k_l : List q03) (q09 : List Bool) (q04 q19 : Int) (q20 : List UInt8) (q68 t1 : Int) (K0 : (List q00 × Int) → Option q03) (e : List q00 × Int) : Option q03 :=
 match e with
 | (l, t11) =>
  bif decide (t11 < n) then
   (q64 N (k_l, q09, ()) t11).bind fun r =>
   bif (r.2.1 != 0) then
    some r
   else
    bif qz1 (l.length + ([r.1] : List q00).length) 4398046511104 then
    bif q27 (t11 + 1) then
    K0 ((l ++ ([r.1] : List q00)), t11 + 1)
    else none
    else none
  else
   (qg3 N l t1).bind fun r1 =>
   some r1
theorem jq8 (N : Nat) (n : Int) (k_l : List q03) (q09 : List Bool) (q04 q19 : Int) (q20 : List UInt8) (q68 t1 : Int) (n_ : Nat) (e : List q00 × Int) : q61 (wy6 N ) n_ ((w28 n k_l q09 q04 q19 q20 q68 t1) e) ((qz6 n k_l q09 q04 q19 q20 q68 t1) e) = q95 (w05 N n k_l q09 q04 q19 q20 q68 t1 ) n_ e :=
 q40 (w28 n k_l q09 q04 q19 q20 q68 t1) (qz6 n k_l q09 q04 q19 q20 q68 t1) (by intro K e; obtain ⟨l, t11⟩ := e; kernel_rfl) n_ e
def zd1 (N : Nat) (k : q36) (n t1 : Int) (l1 : Int → (List q03) → (List Bool) → Int → Int → (List UInt8) → Int → Int → (List q00 × Int) → Option q03) : Option q03 :=
 l1 n k.1 k.2.1 0 0 [] 0 t1 ([], 0)
def qp1 (N : Nat) (k : q36) (n t1 : Int) : Option q03 := zd1 N k n t1 (fun n k_l q09 q04 q19 q20 q68 t1 e => q95 (w05 N n k_l q09 q04 q19 q20 q68 t1) N e)
abbrev wv3 : List PK := [.val q72, .val (.int .i64), .fn 160 2, .ep 1, .val (.int .u8), .ep 1, .fn 111 0]
noncomputable def z84 (N : Nat) (k : q36) (n t1 : Int) : Option (RT [q08]) := q22 DR Tryz.prog N (w85 N) qq3 Tryz.f99 (q10 Tryz.f99) (RT [q08]) (qy2 wv3 (k, n, t1, ())) [] (q42 [q08])
theorem jn3 (N : Nat) (k : q36) (n t1 : Int) : z84 N k n t1 = qp1 N k n t1 := by
 have h : z84 N k n t1 = zd1 N k n t1 (fun n k_l q09 q04 q19 q20 q68 t1 e => q61 (wy6 N ) N (w28 n k_l q09 q04 q19 q20 q68 t1 e) (qz6 n k_l q09 q04 q19 q20 q68 t1 e)) := by kernel_rfl
 rw [h]
 simp only [qp1, jq8] <;> rfl
def jd7 (m : q36 → Int → Int → Option q03) : Ent := qf5 wv3 [q08] fun (x : Els [q72, (.int .i64), (.int .u8)]) => m x.1 x.2.1 x.2.2.1
def wl8 (N : Nat) : Ent := jd7 (qp1 N)
theorem zv2 (N : Nat) : q16 Tryz.prog 99 (wl8 N) := q55 (jr1 N) Tryz.func99 rfl (by kernel_rfl) (by kernel_rfl) fun (x : Els [q72, (.int .i64), (.int .u8)]) => jn3 N x.1 x.2.1 x.2.2.1
def yw1 : FH := ⟨[], [], [], [], false, [], []⟩
noncomputable def zo6 (N : Nat) : q52 := tab [(80, ql0 N), (153, q58 N)]
theorem yq0 (N : Nat) : q14 Tryz.prog (zo6 N) := q06 (qp2 N) <| q06 (q53 N) <| q26 _
def wc2 (N : Nat) (k : q36) : Option q03 :=
 (q88 N k 0).bind fun r =>
 bif (r.2.1 != 0) then
  some r
 else
  bif (r.1.1 == 0) then
   some r
  else
   bif (r.1.2.1 == 1) then
    (q64 N k 1).bind fun r1 =>
    some r1
   else
    (q64 N k 2).bind fun r2 =>
    some r2
noncomputable def yz8 (N : Nat) (k : q36) : Option (RT [q08]) := q22 DR Tryz.prog N (zo6 N) yw1 Tryz.f112 (q10 Tryz.f112) (RT [q08]) (qd6 [q72] (k, ())) [] (q42 [q08])
theorem yb7 (N : Nat) (k : q36) : yz8 N k = wc2 N k := by kernel_rfl
def y38 (m : q36 → Option q03) : Ent := q37 [q72] [q08] fun (x : Els [q72]) => m x.1
def z69 (N : Nat) : Ent := y38 (wc2 N)
theorem jk7 (N : Nat) : q16 Tryz.prog 112 (z69 N) := q15 (yq0 N) Tryz.func112 rfl (by kernel_rfl) fun (x : Els [q72]) => yb7 N x.1
noncomputable def zv7 (N : Nat) : q52 := tab [(99, sel [0, 0, 173, 3, 105] (wt5 N) <| sel [0, 0, 173, 3, 106] (ww6 N) <| sel [0, 0, 173, 3, 107] (wt2 N) <| sel [0, 0, 173, 3, 108] (wm8 N) kb9)]
theorem yv0 (N : Nat) : q14 Tryz.prog (zv7 N) := q06 (qe3 (j67 N) <| qe3 (j57 N) <| qe3 (j60 N) <| qe3 (zy8 N) wr8) <| q26 _
noncomputable def zh4 (N : Nat) : Ent := zm5 Tryz.prog N (zv7 N) ⟨[], [], [], [], false, [99], []⟩ Tryz.f94 (q10 Tryz.f94)
theorem y34 (N : Nat) : q16 Tryz.prog 94 (zh4 N) := qc6 (yv0 N) Tryz.func94 rfl (by kernel_rfl)
noncomputable def zl8 (N : Nat) : q52 := tab [(99, sel [0, 0, 170, 3, 0, 3, 118] (wn5 N) <| sel [0, 0, 170, 3, 0, 3, 119] (wm7 N) <| sel [0, 0, 170, 3, 0, 3, 121] (wl8 N) kb9)]
theorem y86 (N : Nat) : q14 Tryz.prog (zl8 N) := q06 (qe3 (zy9 N) <| qe3 (j46 N) <| qe3 (zv2 N) wr8) <| q26 _
noncomputable def z12 (N : Nat) : Ent := zm5 Tryz.prog N (zl8 N) ⟨[], [], [], [], false, [99], []⟩ Tryz.f88 (q10 Tryz.f88)
theorem jc9 (N : Nat) : q16 Tryz.prog 88 (z12 N) := qc6 (y86 N) Tryz.func88 rfl (by kernel_rfl)
def u73 : FH := ⟨[], [], [], [], false, [], []⟩
noncomputable def yy8 (N : Nat) : q52 := tab [(94, zh4 N), (99, sel [0, 0, 110] (wl6 N) <| sel [0, 0, 113] (wl7 N) <| sel [0, 0, 115] (wm0 N) <| sel [0, 0, 117] (wn1 N) kb9), (88, z12 N), (112, z69 N), (76, q97 N)]
theorem vo4 (N : Nat) : q14 Tryz.prog (yy8 N) := q06 (y34 N) <| q06 (qe3 (zw3 N) <| qe3 (j03 N) <| qe3 (j26 N) <| qe3 (zz4 N) wr8) <| q06 (jc9 N) <| q06 (jk7 N) <| q06 (q87 N) <| q26 _
def qv5 (N : Nat) (op : Int) (k : q36) : Option q03 :=
 bif (op == 13) then
  (qr9 N k 2).bind fun r =>
  some r
 else
  bif (op == 14) then
   (qt0 N k 2).bind fun r1 =>
   some r1
  else
   bif (op == 15) then
    (qr7 N k 2).bind fun r2 =>
    some r2
   else
    bif (op == 16) then
     (qo2 N k 2).bind fun r3 =>
     some r3
    else
     bif (op == 17) then
      (qn8 N k 1).bind fun r4 =>
      some r4
     else
      bif (op == 19) then
       (qi0 N k (k.1.length : Int)).bind fun r5 =>
       some r5
      else
       bif (op == 20) then
        (qh8 N k (k.1.length : Int)).bind fun r6 =>
        some r6
       else
        bif (op == 18) then
         (qn7 N k 1).bind fun r7 =>
         some r7
        else
         bif (op == 21) then
          (qo7 N k 2 1).bind fun r8 =>
          some r8
         else
          bif (op == 22) then
           (qp0 N k 1 3).bind fun r9 =>
           some r9
          else
           bif (op == 23) then
            (qp1 N k 1 3).bind fun r10 =>
            some r10
           else
            bif (op == 26) then
             (wc2 N k).bind fun r11 =>
             some r11
            else
             (qe0 N 2).bind fun r12 =>
             some r12
noncomputable def u82 (N : Nat) (op : Int) (k : q36) : Option (RT [q08]) := q22 DR Tryz.prog N (yy8 N) u73 Tryz.f38 (q10 Tryz.f38) (RT [q08]) (qd6 [(.int .u8), q72] (op, k, ())) [] (q42 [q08])
theorem vi4 (N : Nat) (op : Int) (k : q36) : u82 N op k = qv5 N op k := by kernel_rfl
def xq8 (m : Int → q36 → Option q03) : Ent := q37 [(.int .u8), q72] [q08] fun (x : Els [(.int .u8), q72]) => m x.1 x.2.1
def jq2 (N : Nat) : Ent := xq8 (qv5 N)
theorem x52 (N : Nat) : q16 Tryz.prog 38 (jq2 N) := q15 (vo4 N) Tryz.func38 rfl (by kernel_rfl) fun (x : Els [(.int .u8), q72]) => vi4 N x.1 x.2.1
def jd9 : LH := ⟨[(0, .lst q82), (2, .lst q70), (4, .asis), (6, .asis), (8, .asis), (9, .asis), (20, .lst q82), (21, .int .i64), (22, .int .i64)], [], [.cells [.int .u8, .int .i64, .str], .cells [.int .u8, .int .i64, .str], .same, .cells [.int .u8, .int .i64, .str, .int .i64]]⟩
def ys5 : LH := ⟨[(0, .lst q82), (2, .lst q70), (4, .asis), (6, .asis), (8, .asis), (9, .asis), (10, .int .i64), (11, .asis), (12, .asis), (20, .lst q82), (21, .int .i64), (22, .int .i64), (28, .lst (.int .i64)), (29, .int .i64), (30, .int .i64)], [], [.cells [.int .u8, .int .i64, .str], .cells [.int .u8, .int .i64, .str], .same, .cells [.int .u8, .int .i64, .str, .int .i64], .cells [.int .u8, .int .u8, .int .i64, .str, .str, .lst (.int .i64), .int .i64, .int .i64], .cells [.own q08 2500 115 4, .own .bool 2501 4 1]]⟩
def qt9 : FH := ⟨[jd9, ys5], [19], [(11, ⟨10, 114, 0, [(4, .app 2500), (8, .app 2501)], []⟩), (12, ⟨28, 114, 0, [(7, .app 2500), (26, .app 2501)], []⟩), (19, ⟨6, 114, 0, [(5, .store true 2)], []⟩), (21, ⟨5, 114, 0, [(4, .store true 1)], []⟩)], [], false, [], []⟩
noncomputable def y26 (N : Nat) : q52 := tab [(36, x27 N), (37, y44 N), (38, jq2 N)]
theorem u20 (N : Nat) : q14 Tryz.prog (y26 N) := q06 (vg3 N) <| q06 (x67 N) <| q06 (x52 N) <| q26 _
noncomputable def w41 : Sc := wl4 Tryz.prog qt9
noncomputable def qv7 (N : Nat) : Cfg := ⟨N, y26 N, 0⟩
noncomputable def ye2 (N : Nat) : Exit → List TV → List TOb → Option OX3 := fin Tryz.prog 0 Tryz.f15.results.toList (q42 [q05, (.int .i64)])
def w35 (t : List q24) (vars : List q31) (t21 q28 q56 : Int) (q57 : List UInt8) (qa7 ja4 : Int) (j99 : List UInt8) (e : Int × List q03 × Int × Int × List UInt8 × Int) : List TV := match e with
 | (t22, all, q94, qh5, qh4, wa5) => frm 114 [(0, .tl q82 t .unk), (2, .tl q70 vars .unk), (4, .ref 0 0), (6, .ref 1 0), (8, .arr 2 ((t.length : Int).toNat)), (9, .ref 3 0), (20, .tl q82 t .unk), (21, .int .i64 t21), (22, .int .i64 t22)]
def w51 (t : List q24) (vars : List q31) (t21 q28 q56 : Int) (q57 : List UInt8) (qa7 ja4 : Int) (j99 : List UInt8) (e : Int × List q03 × Int × Int × List UInt8 × Int) : List TOb := match e with
 | (t22, all, q94, qh5, qh4, wa5) => [.cells [.int .u8 q28, .int .i64 q56, .str q57] 26 true, .cells [.int .u8 qa7, .int .i64 ja4, .str j99] 26 true, .tarr q08 all 115 true, .cells [.int .u8 q94, .int .i64 qh5, .str qh4, .int .i64 wa5] 115 true]
def j58 (t : List q24) (vars : List q31) (t22 t21 : Int) (t28 : List Int) (t29 q28 q56 : Int) (q57 : List UInt8) (qa7 ja4 : Int) (j99 : List UInt8) (all : List q03) (q94 qh5 : Int) (qh4 : List UInt8) (wa5 jc6 q23 q67 : Int) (q66 q41 : List UInt8) (qb7 : List Int) (q13 q17 : Int) (e : Int × List q03 × List Bool) : List TV := match e with
 | (t30, k_l, q09) => frm 114 [(0, .tl q82 t .unk), (2, .tl q70 vars .unk), (4, .ref 0 0), (6, .ref 1 0), (8, .arr 2 ((t.length : Int).toNat)), (9, .ref 3 0), (10, .int .i64 t22), (11, .ref 4 0), (12, .ref 5 0), (20, .tl q82 t .unk), (21, .int .i64 t21), (22, .int .i64 t22), (28, .tl (.int .i64) t28 .unk), (29, .int .i64 t29), (30, .int .i64 t30)]
def ja0 (t : List q24) (vars : List q31) (t22 t21 : Int) (t28 : List Int) (t29 q28 q56 : Int) (q57 : List UInt8) (qa7 ja4 : Int) (j99 : List UInt8) (all : List q03) (q94 qh5 : Int) (qh4 : List UInt8) (wa5 jc6 q23 q67 : Int) (q66 q41 : List UInt8) (qb7 : List Int) (q13 q17 : Int) (e : Int × List q03 × List Bool) : List TOb := match e with
 | (t30, k_l, q09) => [.cells [.int .u8 q28, .int .i64 q56, .str q57] 26 true, .cells [.int .u8 qa7, .int .i64 ja4, .str j99] 26 true, .tarr q08 all 115 true, .cells [.int .u8 q94, .int .i64 qh5, .str qh4, .int .i64 wa5] 115 true, .cells [.int .u8 jc6, .int .u8 q23, .int .i64 q67, .str q66, .str q41, .tl (.int .i64) qb7 .unk, .int .i64 q13, .int .i64 q17] 54 true, .cells [.tl q08 k_l (.own 2500 115 4), .tl .bool q09 (.own 2501 4 1)] 118 true]
noncomputable def x04 (N : Nat) (K0r : List TV → List TOb → Option OX3) : (List TV → List TOb → Option OX3) → List TV → List TOb → Option OX3 := w57 DR w41 (qv7 N) (ql8 (qc7 (q07 (q92 (q07 (q07 (qc7 (q92 (q07 (q07 (ql8 (qc7 (q07 (q92 (q07 (q07 (q07 (q10 Tryz.f15)))))))))))))))))) ys5 (qt9.loops.drop 2) (qj4 2 (qc5 DR w41 (qv7 N) (q07 (q07 (q07 (qc7 (q92 (q07 (q07 (ql8 (qc7 (q07 (q92 (q07 (q07 (q07 (q10 Tryz.f15))))))))))))))) (qt9.loops.drop 2) (qj4 1 (qc5 DR w41 (qv7 N) (q07 (q07 (q07 (ql8 (qc7 (q07 (q92 (q07 (q07 (q07 (q10 Tryz.f15))))))))))) (qt9.loops.drop 2) (u83 (qv7 N) jd9 (qj4 0 (qc5 DR w41 (qv7 N) (q07 (q07 (q07 (q07 (q10 Tryz.f15))))) (qt9.loops.drop 2) (ye2 N))) K0r)))))
def je1 (N : Nat) (t : List q24) (vars : List q31) (t22 t21 : Int) (t28 : List Int) (t29 q28 q56 : Int) (q57 : List UInt8) (qa7 ja4 : Int) (j99 : List UInt8) (all : List q03) (q94 qh5 : Int) (qh4 : List UInt8) (wa5 jc6 q23 q67 : Int) (q66 q41 : List UInt8) (qb7 : List Int) (q13 q17 : Int) (K0 : (Int × List q03 × Int × Int × List UInt8 × Int) → Option OX3) (K1 : (Int × List q03 × List Bool) → Option OX3) (e : Int × List q03 × List Bool) : Option OX3 :=
 match e with
 | (t30, k_l, q09) =>
  bif decide (t30 < t29) then
   bif inR t30 t28.length then
   bif decide ((q25 t28 t30 0) < 0) then
    bif qz1 (k_l.length + ([((0, 0, [], ()), 0, ())] : List q03).length) 3518437208883 then
    bif qz1 (q09.length + [false].length) 140737488355328 then
    bif q27 (t30 + 1) then
    K1 (t30 + 1, (k_l ++ ([((0, 0, [], ()), 0, ())] : List q03)), (q09 ++ [false]))
    else none
    else none
    else none
   else
    bif decide ((q25 t28 t30 0) ≥ t22) then
     bif qz1 (k_l.length + ([((0, 0, [], ()), 0, ())] : List q03).length) 3518437208883 then
     bif qz1 (q09.length + [false].length) 140737488355328 then
     bif q27 (t30 + 1) then
     K1 (t30 + 1, (k_l ++ ([((0, 0, [], ()), 0, ())] : List q03)), (q09 ++ [false]))
     else none
     else none
     else none
    else
     bif inR (q25 t28 t30 0) ((t.length : Int).toNat) then
     bif inR (q25 t28 t30 0) (all).length then
     bif qz1 (k_l.length + ([(((q25 all (q25 t28 t30 0) ws3).1), (q25 all (q25 t28 t30 0) ws3).2.1, ())] : List q03).length) 3518437208883 then
     bif inR (q25 t28 t30 0) t.length then
     bif (((q25 t (q25 t28 t30 0) qp5).1) == 1) then
      bif inR (q25 t28 t30 0) t.length then
      bif qz1 (q09.length + [((((q25 t (q25 t28 t30 0) qp5).2.1).1) == 0)].length) 140737488355328 then
      bif q27 (t30 + 1) then
      K1 (t30 + 1, (k_l ++ ([(((q25 all (q25 t28 t30 0) ws3).1), (q25 all (q25 t28 t30 0) ws3).2.1, ())] : List q03)), (q09 ++ [((((q25 t (q25 t28 t30 0) qp5).2.1).1) == 0)]))
      else none
      else none
      else none
     else
      bif qz1 (q09.length + [false].length) 140737488355328 then
      bif q27 (t30 + 1) then
      K1 (t30 + 1, (k_l ++ ([(((q25 all (q25 t28 t30 0) ws3).1), (q25 all (q25 t28 t30 0) ws3).2.1, ())] : List q03)), (q09 ++ [false]))
      else none
      else none
     else none
     else none
     else none
     else none
   else none
  else
   (wz0 N (jc6, (q23, q67, q66, ()), q41, qb7, (q13, q17, ()), ()) (q28, q56, q57, ()) vars).bind fun r =>
   bif (!r.2.1) then
    (we4 N jc6 (k_l, q09, ())).bind fun r1 =>
    bif (!r1.2.1) then
     (qv5 N jc6 (k_l, q09, ())).bind fun r2 =>
     bif inR t22 ((t.length : Int).toNat) then
     bif inR t22 all.length then
     bif q27 (t22 + 1) then
     K0 (t22 + 1, (setD all t22 r2), r2.1.1, r2.1.2.1, r2.1.2.2.1, r2.2.1)
     else none
     else none
     else none
    else
     bif inR t22 ((t.length : Int).toNat) then
     bif inR t22 all.length then
     bif q27 (t22 + 1) then
     K0 (t22 + 1, (setD all t22 r1.1), r1.1.1.1, r1.1.1.2.1, r1.1.1.2.2.1, r1.1.2.1)
     else none
     else none
     else none
   else
    bif (!r.2.1) then
     (qv5 N jc6 (k_l, q09, ())).bind fun r3 =>
     bif inR t22 ((t.length : Int).toNat) then
     bif inR t22 all.length then
     bif q27 (t22 + 1) then
     K0 (t22 + 1, (setD all t22 r3), r3.1.1, r3.1.2.1, r3.1.2.2.1, r3.2.1)
     else none
     else none
     else none
    else
     bif inR t22 ((t.length : Int).toNat) then
     bif inR t22 all.length then
     bif q27 (t22 + 1) then
     K0 (t22 + 1, (setD all t22 r.1), r.1.1.1, r.1.1.2.1, r.1.1.2.2.1, r.1.2.1)
     else none
     else none
     else none
theorem u79 (N : Nat) (t : List q24) (vars : List q31) (t22 t21 : Int) (t28 : List Int) (t29 q28 q56 : Int) (q57 : List UInt8) (qa7 ja4 : Int) (j99 : List UInt8) (all : List q03) (q94 qh5 : Int) (qh4 : List UInt8) (wa5 jc6 q23 q67 : Int) (q66 q41 : List UInt8) (qb7 : List Int) (q13 q17 : Int) (K0r : List TV → List TOb → Option OX3) (n_ : Nat) (e : Int × List q03 × List Bool) : q61 (x04 N K0r) n_ ((j58 t vars t22 t21 t28 t29 q28 q56 q57 qa7 ja4 j99 all q94 qh5 qh4 wa5 jc6 q23 q67 q66 q41 qb7 q13 q17) e) ((ja0 t vars t22 t21 t28 t29 q28 q56 q57 qa7 ja4 j99 all q94 qh5 qh4 wa5 jc6 q23 q67 q66 q41 qb7 q13 q17) e) = q95 (je1 N t vars t22 t21 t28 t29 q28 q56 q57 qa7 ja4 j99 all q94 qh5 qh4 wa5 jc6 q23 q67 q66 q41 qb7 q13 q17 (fun a => K0r (w35 t vars t21 q28 q56 q57 qa7 ja4 j99 a) (w51 t vars t21 q28 q56 q57 qa7 ja4 j99 a))) n_ e :=
 q40 (j58 t vars t22 t21 t28 t29 q28 q56 q57 qa7 ja4 j99 all q94 qh5 qh4 wa5 jc6 q23 q67 q66 q41 qb7 q13 q17) (ja0 t vars t22 t21 t28 t29 q28 q56 q57 qa7 ja4 j99 all q94 qh5 qh4 wa5 jc6 q23 q67 q66 q41 qb7 q13 q17) (by intro K e; obtain ⟨t30, k_l, q09⟩ := e; kernel_rfl) n_ e
noncomputable def j93 (N : Nat) : (List TV → List TOb → Option OX3) → List TV → List TOb → Option OX3 := w57 DR w41 (qv7 N) (ql8 (qc7 (q07 (q92 (q07 (q07 (q07 (q10 Tryz.f15)))))))) jd9 (qt9.loops.drop 1) (qj4 0 (qc5 DR w41 (qv7 N) (q07 (q07 (q07 (q07 (q10 Tryz.f15))))) (qt9.loops.drop 2) (ye2 N)))
def zt2 (N : Nat) (t : List q24) (vars : List q31) (t21 q28 q56 : Int) (q57 : List UInt8) (qa7 ja4 : Int) (j99 : List UInt8) (l2 : (List q24) → (List q31) → Int → Int → (List Int) → Int → Int → Int → (List UInt8) → Int → Int → (List UInt8) → (List q03) → Int → Int → (List UInt8) → Int → Int → Int → Int → (List UInt8) → (List UInt8) → (List Int) → Int → Int → (Int × List q03 × List Bool) → Option OX3) (K0 : (Int × List q03 × Int × Int × List UInt8 × Int) → Option OX3) (e : Int × List q03 × Int × Int × List UInt8 × Int) : Option OX3 :=
 match e with
 | (t22, all, q94, qh5, qh4, wa5) =>
  bif decide (t22 < t21) then
   bif inR t22 t.length then
   l2 t vars t22 t21 ((q25 t t22 qp5).2.2.2.1) (((q25 t t22 qp5).2.2.2.1).length : Int) q28 q56 q57 qa7 ja4 j99 all q94 qh5 qh4 wa5 ((q25 t t22 qp5).1) (((q25 t t22 qp5).2.1).1) (((q25 t t22 qp5).2.1).2.1) (((q25 t t22 qp5).2.1).2.2.1) ((q25 t t22 qp5).2.2.1) ((q25 t t22 qp5).2.2.2.1) (((q25 t t22 qp5).2.2.2.2.1).1) (((q25 t t22 qp5).2.2.2.2.1).2.1) (0, [], [])
   else none
  else
   some ((q94, qh5, qh4, ()), wa5, ())
def ze4 (N : Nat) (t : List q24) (vars : List q31) (t21 q28 q56 : Int) (q57 : List UInt8) (qa7 ja4 : Int) (j99 : List UInt8) (K0 : (Int × List q03 × Int × Int × List UInt8 × Int) → Option OX3) (e : Int × List q03 × Int × Int × List UInt8 × Int) : Option OX3 := zt2 N t vars t21 q28 q56 q57 qa7 ja4 j99 (fun t vars t22 t21 t28 t29 q28 q56 q57 qa7 ja4 j99 all q94 qh5 qh4 wa5 jc6 q23 q67 q66 q41 qb7 q13 q17 e => q95 (je1 N t vars t22 t21 t28 t29 q28 q56 q57 qa7 ja4 j99 all q94 qh5 qh4 wa5 jc6 q23 q67 q66 q41 qb7 q13 q17 K0) N e) K0 e
theorem u86 (N : Nat) (t : List q24) (vars : List q31) (t21 q28 q56 : Int) (q57 : List UInt8) (qa7 ja4 : Int) (j99 : List UInt8) (n_ : Nat) (e : Int × List q03 × Int × Int × List UInt8 × Int) : q61 (j93 N ) n_ ((w35 t vars t21 q28 q56 q57 qa7 ja4 j99) e) ((w51 t vars t21 q28 q56 q57 qa7 ja4 j99) e) = q95 (ze4 N t vars t21 q28 q56 q57 qa7 ja4 j99 ) n_ e :=
 q40 (w35 t vars t21 q28 q56 q57 qa7 ja4 j99) (w51 t vars t21 q28 q56 q57 qa7 ja4 j99) (by
  intro K e
  have h : (j93 N ) K ((w35 t vars t21 q28 q56 q57 qa7 ja4 j99) e) ((w51 t vars t21 q28 q56 q57 qa7 ja4 j99) e) = zt2 N t vars t21 q28 q56 q57 qa7 ja4 j99 (fun t vars t22 t21 t28 t29 q28 q56 q57 qa7 ja4 j99 all q94 qh5 qh4 wa5 jc6 q23 q67 q66 q41 qb7 q13 q17 e => q61 (x04 N K) N (j58 t vars t22 t21 t28 t29 q28 q56 q57 qa7 ja4 j99 all q94 qh5 qh4 wa5 jc6 q23 q67 q66 q41 qb7 q13 q17 e) (ja0 t vars t22 t21 t28 t29 q28 q56 q57 qa7 ja4 j99 all q94 qh5 qh4 wa5 jc6 q23 q67 q66 q41 qb7 q13 q17 e)) (fun e => K ((w35 t vars t21 q28 q56 q57 qa7 ja4 j99) e) ((w51 t vars t21 q28 q56 q57 qa7 ja4 j99) e)) e := by obtain ⟨t22, all, q94, qh5, qh4, wa5⟩ := e; kernel_rfl
  rw [h]
  simp only [ze4, u79] <;> rfl) n_ e
def jy8 (N : Nat) (t : List q24) (self : q00) (vars : List q31) (l1 : (List q24) → (List q31) → Int → Int → Int → (List UInt8) → Int → Int → (List UInt8) → (Int × List q03 × Int × Int × List UInt8 × Int) → Option OX3) : Option OX3 :=
 bif jn4 40 (t.length : Int) (t.length : Int) then
 l1 t vars (t.length : Int) self.1 self.2.1 self.2.2.1 0 0 [] (0, (List.replicate (t.length : Int).toNat ws3), 0, 0, [], 0)
 else none
def w55 (N : Nat) (t : List q24) (self : q00) (vars : List q31) : Option OX3 := jy8 N t self vars (fun t vars t21 q28 q56 q57 qa7 ja4 j99 e => q95 (ze4 N t vars t21 q28 q56 q57 qa7 ja4 j99) N e)
noncomputable def xl2 (N : Nat) (t : List q24) (self : q00) (vars : List q31) : Option (RT [q05, (.int .i64)]) := q22 DR Tryz.prog N (y26 N) qt9 Tryz.f15 (q10 Tryz.f15) (RT [q05, (.int .i64)]) (qd6 [(.list q82), q05, (.list q70)] (t, self, vars, ())) [] (q42 [q05, (.int .i64)])
theorem vn5 (N : Nat) (t : List q24) (self : q00) (vars : List q31) : xl2 N t self vars = w55 N t self vars := by
 have h : xl2 N t self vars = jy8 N t self vars (fun t vars t21 q28 q56 q57 qa7 ja4 j99 e => q61 (j93 N ) N (w35 t vars t21 q28 q56 q57 qa7 ja4 j99 e) (w51 t vars t21 q28 q56 q57 qa7 ja4 j99 e)) := by kernel_rfl
 rw [h]
 simp only [w55, u86] <;> rfl
def v79 (m : (List q24) → q00 → (List q31) → Option OX3) : Ent := q37 [(.list q82), q05, (.list q70)] [q05, (.int .i64)] fun (x : Els [(.list q82), q05, (.list q70)]) => m x.1 x.2.1 x.2.2.1
def zs1 (N : Nat) : Ent := v79 (w55 N)
theorem jf9 (N : Nat) : q16 Tryz.prog 15 (zs1 N) := q15 (u20 N) Tryz.func15 rfl (by kernel_rfl) fun (x : Els [(.list q82), q05, (.list q70)]) => vn5 N x.1 x.2.1 x.2.2.1
def w10_of_H : FH := ⟨[], [], [], [], false, [], []⟩
noncomputable def kd6 (N : Nat) : q52 := tab [(11, ym8 N), (15, zs1 N)]
theorem w10_of_Ts (N : Nat) : q14 Tryz.prog (kd6 N) := q06 (x34 N) <| q06 (jf9 N) <| q26 _
def xk6 (N : Nat) (s : List UInt8) : Option OX3 :=
 (yk1 N s).bind fun r =>
 (w55 N r.1 (0, 0, [], ()) ([([97], (0, 0, [], ()), ())] : List q31)).bind fun r1 =>
 some r1
noncomputable def w10_of_C (N : Nat) (s : List UInt8) : Option (RT [q05, (.int .i64)]) := q22 DR Tryz.prog N (kd6 N) w10_of_H Tryz.f32 (q10 Tryz.f32) (RT [q05, (.int .i64)]) (qd6 [.str] (s, ())) [] (q42 [q05, (.int .i64)])
theorem km3 (N : Nat) (s : List UInt8) : w10_of_C N s = xk6 N s := by kernel_rfl
def k99 (m : (List UInt8) → Option OX3) : Ent := q37 [.str] [q05, (.int .i64)] fun (x : Els [.str]) => m x.1
def vt1 (N : Nat) : Ent := k99 (xk6 N)
theorem us0 (N : Nat) : q16 Tryz.prog 32 (vt1 N) := q15 (w10_of_Ts N) Tryz.func32 rfl (by kernel_rfl) fun (x : Els [.str]) => km3 N x.1
def k55 : FH := ⟨[], [], [], [], false, [], []⟩
noncomputable def vh2 (N : Nat) : q52 := tab [(32, vt1 N)]
theorem un8 (N : Nat) : q14 Tryz.prog (vh2 N) := q06 (us0 N) <| q26 _
def qx3 (N : Nat) : Option Bool :=
 (xk6 N [49, 32, 47, 32, 48, 32, 61, 32, 49, 32, 111, 114, 32, 116, 114, 117, 101]).bind fun r =>
 (xk6 N [116, 114, 117, 101, 32, 111, 114, 32, 49, 32, 47, 32, 48, 32, 61, 32, 49]).bind fun r1 =>
 (xk6 N [110, 117, 108, 108, 32, 97, 110, 100, 32, 102, 97, 108, 115, 101]).bind fun r2 =>
 (xk6 N [49, 32, 43, 32, 110, 117, 108, 108]).bind fun r3 =>
 (xk6 N [63, 97, 32, 61, 32, 110, 117, 108, 108]).bind fun r4 =>
 (xk6 N [105, 102, 40, 110, 117, 108, 108, 44, 32, 49, 44, 32, 50, 41]).bind fun r5 =>
 bif (r.2.1 == 10) then
  bif (r1.2.1 == 0) then
   bif (r2.2.1 == 0) then
    bif (r3.2.1 == 0) then
     bif (r4.2.1 == 0) then
      bif (r5.2.1 == 0) then
       bif (r1.1.2.1 == 1) then
        bif ((r2.1.1 == (4 : Int)) && ((r2.1.2.1 == (0 : Int)) && ((r2.1.2.2.1 == ([] : List UInt8)) && true))) then
         bif ((r3.1.1 == (0 : Int)) && ((r3.1.2.1 == (0 : Int)) && ((r3.1.2.2.1 == ([] : List UInt8)) && true))) then
          bif (r4.1.2.1 == 1) then
           some ((r5.1.1 == (0 : Int)) && ((r5.1.2.1 == (0 : Int)) && ((r5.1.2.2.1 == ([] : List UInt8)) && true)))
          else
           some false
         else
          some false
        else
         some false
       else
        some false
      else
       some false
     else
      some false
    else
     some false
   else
    some false
  else
   some false
 else
  some false
noncomputable def k79 (N : Nat) : Option (RT [.bool]) := q22 DR Tryz.prog N (vh2 N) k55 Tryz.f12 (q10 Tryz.f12) (RT [.bool]) (qd6 [] (())) [] (q42 [.bool])
theorem ub7 (N : Nat) : k79 N = qx3 N := by kernel_rfl
def vq3 (m : Option Bool) : Ent := q37 [] [.bool] fun (x : Els []) => m 
def yu0 (N : Nat) : Ent := vq3 (qx3 N)
theorem vf4 (N : Nat) : q16 Tryz.prog 12 (yu0 N) := q15 (un8 N) Tryz.func12 rfl (by kernel_rfl) fun (x : Els []) => ub7 N 
def jf3 : LH := ⟨[(2, .lst q70), (5, .asis), (7, .asis), (9, .lst q82), (53, .int .i64), (54, .int .i64)], [], [.cells [.int .u8, .int .i64, .str], .cells [.str, .int .u8, .int .i64, .str], .cells [.int .i64, .int .i64]]⟩
def jf6 : LH := ⟨[(2, .lst q70), (5, .asis), (7, .asis), (9, .lst q82), (13, .own q70 513 43 4), (77, .lst q70), (78, .int .i64), (79, .int .i64)], [], [.cells [.int .u8, .int .i64, .str], .cells [.str, .int .u8, .int .i64, .str], .cells [.int .i64, .int .i64]]⟩
def jg8 : LH := ⟨[(2, .lst q70), (5, .asis), (7, .asis), (9, .lst q82), (13, .own q70 513 43 4), (94, .lst q70), (95, .int .i64), (96, .int .i64)], [], [.cells [.int .u8, .int .i64, .str], .cells [.str, .int .u8, .int .i64, .str], .cells [.int .i64, .int .i64]]⟩
def qh6 : FH := ⟨[jf3, jf6, jg8], [], [(9, ⟨14, 134, 0, [], []⟩)], [], false, [], []⟩
noncomputable def zm4 (N : Nat) : q52 := tab [(12, yu0 N), (11, ym8 N), (15, zs1 N)]
theorem xv8 (N : Nat) : q14 Tryz.prog (zm4 N) := q06 (vf4 N) <| q06 (x34 N) <| q06 (jf9 N) <| q26 _
noncomputable def qn1 : Sc := wl4 Tryz.prog qh6
noncomputable def qm5 (N : Nat) : Cfg := ⟨N, zm4 N, 0⟩
noncomputable def wo3 (N : Nat) : Exit → List TV → List TOb → Option Bool := fin Tryz.prog 0 Tryz.f5.results.toList (q42 [.bool])
def qw4 (vars : List q31) (t : List q24) (t53 q28 q56 : Int) (q57 q39 : List UInt8) (q30 q47 : Int) (q48 : List UInt8) (q76 q91 e : Int) : List TV := match e with
 | t54 => frm 134 [(2, .tl q70 vars .unk), (5, .ref 0 0), (7, .ref 1 0), (9, .tl q82 t .unk), (53, .int .i64 t53), (54, .int .i64 t54)]
def qw3 (vars : List q31) (t : List q24) (t53 q28 q56 : Int) (q57 q39 : List UInt8) (q30 q47 : Int) (q48 : List UInt8) (q76 q91 e : Int) : List TOb := match e with
 | t54 => [.cells [.int .u8 q28, .int .i64 q56, .str q57] 26 true, .cells [.str q39, .int .u8 q30, .int .i64 q47, .str q48] 43 true, .cells [.int .i64 q76, .int .i64 q91] 31 true]
def qw6 (vars : List q31) (t : List q24) (t78 q28 q56 : Int) (q57 q39 : List UInt8) (q30 q47 : Int) (q48 : List UInt8) (q76 q91 : Int) (e : List q31 × Int) : List TV := match e with
 | (more, t79) => frm 134 [(2, .tl q70 vars .unk), (5, .ref 0 0), (7, .ref 1 0), (9, .tl q82 t .unk), (13, .tl q70 more (.own 513 43 4)), (77, .tl q70 vars .unk), (78, .int .i64 t78), (79, .int .i64 t79)]
def qw5 (vars : List q31) (t : List q24) (t78 q28 q56 : Int) (q57 q39 : List UInt8) (q30 q47 : Int) (q48 : List UInt8) (q76 q91 : Int) (e : List q31 × Int) : List TOb := match e with
 | (more, t79) => [.cells [.int .u8 q28, .int .i64 q56, .str q57] 26 true, .cells [.str q39, .int .u8 q30, .int .i64 q47, .str q48] 43 true, .cells [.int .i64 q76, .int .i64 q91] 31 true]
def z35 (vars : List q31) (t : List q24) (t95 q28 q56 : Int) (q57 q39 : List UInt8) (q30 q47 : Int) (q48 : List UInt8) (q76 q91 : Int) (e : List q31 × Int) : List TV := match e with
 | (more1, t96) => frm 134 [(2, .tl q70 vars .unk), (5, .ref 0 0), (7, .ref 1 0), (9, .tl q82 t .unk), (13, .tl q70 more1 (.own 513 43 4)), (94, .tl q70 vars .unk), (95, .int .i64 t95), (96, .int .i64 t96)]
def z26 (vars : List q31) (t : List q24) (t95 q28 q56 : Int) (q57 q39 : List UInt8) (q30 q47 : Int) (q48 : List UInt8) (q76 q91 : Int) (e : List q31 × Int) : List TOb := match e with
 | (more1, t96) => [.cells [.int .u8 q28, .int .i64 q56, .str q57] 26 true, .cells [.str q39, .int .u8 q30, .int .i64 q47, .str q48] 43 true, .cells [.int .i64 q76, .int .i64 q91] 31 true]
noncomputable def jg7 (N : Nat) : (List TV → List TOb → Option Bool) → List TV → List TOb → Option Bool := w57 DR qn1 (qm5 N) (ql8 (qc7 (q07 (q92 (q07 (q07 (q07 (q07 (q07 (q07 (q07 (q10 Tryz.f5)))))))))))) jg8 (qh6.loops.drop 3) (qj4 4 (qc5 DR qn1 (qm5 N) (q07 (q07 (q07 (q07 (q07 (q07 (q07 (q07 (q10 Tryz.f5))))))))) (qh6.loops.drop 3) (wo3 N)))
def z30 (N : Nat) (vars : List q31) (t : List q24) (t95 q28 q56 : Int) (q57 q39 : List UInt8) (q30 q47 : Int) (q48 : List UInt8) (q76 q91 : Int) (K2 : (List q31 × Int) → Option Bool) (e : List q31 × Int) : Option Bool :=
 match e with
 | (more1, t96) =>
  bif decide (t96 < t95) then
   bif inR t96 vars.length then
   bif qz1 (more1.length + ([((q25 vars t96 wk7).1, (q30, q47, q48, ()), ())] : List q31).length) 2932031007402 then
   bif q27 (t96 + 1) then
   K2 ((more1 ++ ([((q25 vars t96 wk7).1, (q30, q47, q48, ()), ())] : List q31)), t96 + 1)
   else none
   else none
   else none
  else
   (w55 N t (q28, q56, q57, ()) vars).bind fun r8 =>
   (w55 N t (q28, q56, q57, ()) more1).bind fun r9 =>
   bif ((r8.1.1 == r9.1.1) && ((r8.1.2.1 == r9.1.2.1) && ((r8.1.2.2.1 == r9.1.2.2.1) && true))) then
    bif (r8.2.1 == r9.2.1) then
     (qx3 N).bind fun r10 =>
     some r10
    else
     some false
   else
    some false
theorem xu1 (N : Nat) (vars : List q31) (t : List q24) (t95 q28 q56 : Int) (q57 q39 : List UInt8) (q30 q47 : Int) (q48 : List UInt8) (q76 q91 : Int) (n_ : Nat) (e : List q31 × Int) : q61 (jg7 N ) n_ ((z35 vars t t95 q28 q56 q57 q39 q30 q47 q48 q76 q91) e) ((z26 vars t t95 q28 q56 q57 q39 q30 q47 q48 q76 q91) e) = q95 (z30 N vars t t95 q28 q56 q57 q39 q30 q47 q48 q76 q91 ) n_ e :=
 q40 (z35 vars t t95 q28 q56 q57 q39 q30 q47 q48 q76 q91) (z26 vars t t95 q28 q56 q57 q39 q30 q47 q48 q76 q91) (by intro K e; obtain ⟨more1, t96⟩ := e; kernel_rfl) n_ e
noncomputable def z34 (N : Nat) : (List TV → List TOb → Option Bool) → List TV → List TOb → Option Bool := w57 DR qn1 (qm5 N) (ql8 (qc7 (q07 (q92 (q07 (q07 (q07 (q07 (q07 (q07 (q10 Tryz.f5))))))))))) jf6 (qh6.loops.drop 2) (qj4 2 (qc5 DR qn1 (qm5 N) (q07 (q07 (q07 (q07 (q07 (q07 (q07 (q10 Tryz.f5)))))))) (qh6.loops.drop 2) (wo3 N)))
def wq0 (N : Nat) (vars : List q31) (t : List q24) (t78 q28 q56 : Int) (q57 q39 : List UInt8) (q30 q47 : Int) (q48 : List UInt8) (q76 q91 : Int) (l3 : (List q31) → (List q24) → Int → Int → Int → (List UInt8) → (List UInt8) → Int → Int → (List UInt8) → Int → Int → (List q31 × Int) → Option Bool) (K1 : (List q31 × Int) → Option Bool) (e : List q31 × Int) : Option Bool :=
 match e with
 | (more, t79) =>
  bif decide (t79 < t78) then
   bif inR t79 vars.length then
   bif decide (((((q25 vars t79 wk7).2.1).2.2.1).length : Int) > 300) then
    (qx3 N).bind fun r7 =>
    some r7
   else
    bif qz1 (more.length + ([((q25 vars t79 wk7).1, ((q25 vars t79 wk7).2.1), ())] : List q31).length) 2932031007402 then
    bif q27 (t79 + 1) then
    K1 ((more ++ ([((q25 vars t79 wk7).1, ((q25 vars t79 wk7).2.1), ())] : List q31)), t79 + 1)
    else none
    else none
   else none
  else
   l3 vars t (vars.length : Int) q28 q56 q57 q39 q30 q47 q48 q76 q91 (more, 0)
def wb7 (N : Nat) (vars : List q31) (t : List q24) (t78 q28 q56 : Int) (q57 q39 : List UInt8) (q30 q47 : Int) (q48 : List UInt8) (q76 q91 : Int) (K1 : (List q31 × Int) → Option Bool) (e : List q31 × Int) : Option Bool := wq0 N vars t t78 q28 q56 q57 q39 q30 q47 q48 q76 q91 (fun vars t t95 q28 q56 q57 q39 q30 q47 q48 q76 q91 e => q95 (z30 N vars t t95 q28 q56 q57 q39 q30 q47 q48 q76 q91) N e) K1 e
theorem xr8 (N : Nat) (vars : List q31) (t : List q24) (t78 q28 q56 : Int) (q57 q39 : List UInt8) (q30 q47 : Int) (q48 : List UInt8) (q76 q91 : Int) (n_ : Nat) (e : List q31 × Int) : q61 (z34 N ) n_ ((qw6 vars t t78 q28 q56 q57 q39 q30 q47 q48 q76 q91) e) ((qw5 vars t t78 q28 q56 q57 q39 q30 q47 q48 q76 q91) e) = q95 (wb7 N vars t t78 q28 q56 q57 q39 q30 q47 q48 q76 q91 ) n_ e :=
 q40 (qw6 vars t t78 q28 q56 q57 q39 q30 q47 q48 q76 q91) (qw5 vars t t78 q28 q56 q57 q39 q30 q47 q48 q76 q91) (by
  intro K e
  have h : (z34 N ) K ((qw6 vars t t78 q28 q56 q57 q39 q30 q47 q48 q76 q91) e) ((qw5 vars t t78 q28 q56 q57 q39 q30 q47 q48 q76 q91) e) = wq0 N vars t t78 q28 q56 q57 q39 q30 q47 q48 q76 q91 (fun vars t t95 q28 q56 q57 q39 q30 q47 q48 q76 q91 e => q61 (jg7 N ) N (z35 vars t t95 q28 q56 q57 q39 q30 q47 q48 q76 q91 e) (z26 vars t t95 q28 q56 q57 q39 q30 q47 q48 q76 q91 e)) (fun e => K ((qw6 vars t t78 q28 q56 q57 q39 q30 q47 q48 q76 q91) e) ((qw5 vars t t78 q28 q56 q57 q39 q30 q47 q48 q76 q91) e)) e := by obtain ⟨more, t79⟩ := e; kernel_rfl
  rw [h]
  simp only [wb7, xu1] <;> rfl) n_ e
noncomputable def z31 (N : Nat) : (List TV → List TOb → Option Bool) → List TV → List TOb → Option Bool := w57 DR qn1 (qm5 N) (ql8 (qc7 (q07 (q92 (q07 (q07 (q07 (q07 (q10 Tryz.f5))))))))) jf3 (qh6.loops.drop 1) (qj4 0 (qc5 DR qn1 (qm5 N) (q07 (q07 (q07 (q07 (q07 (q10 Tryz.f5)))))) (qh6.loops.drop 1) (wo3 N)))
def wq1 (N : Nat) (vars : List q31) (t : List q24) (t53 q28 q56 : Int) (q57 q39 : List UInt8) (q30 q47 : Int) (q48 : List UInt8) (q76 q91 : Int) (l2 : (List q31) → (List q24) → Int → Int → Int → (List UInt8) → (List UInt8) → Int → Int → (List UInt8) → Int → Int → (List q31 × Int) → Option Bool) (K0 : Int → Option Bool) (e : Int) : Option Bool :=
 match e with
 | t54 =>
  bif decide (t54 < t53) then
   bif inR t54 t.length then
   bif (((q25 t t54 qp5).1) == 2) then
    bif inR t54 t.length then
    bif (((q25 t t54 qp5).2.2.1) == q39) then
     (qx3 N).bind fun r6 =>
     some r6
    else
     bif q27 (t54 + 1) then
     K0 (t54 + 1)
     else none
    else none
   else
    bif q27 (t54 + 1) then
    K0 (t54 + 1)
    else none
   else none
  else
   l2 vars t (vars.length : Int) q28 q56 q57 q39 q30 q47 q48 q76 q91 (([(q39, (q30, q47, q48, ()), ())] : List q31), 0)
def wb9 (N : Nat) (vars : List q31) (t : List q24) (t53 q28 q56 : Int) (q57 q39 : List UInt8) (q30 q47 : Int) (q48 : List UInt8) (q76 q91 : Int) (K0 : Int → Option Bool) (e : Int) : Option Bool := wq1 N vars t t53 q28 q56 q57 q39 q30 q47 q48 q76 q91 (fun vars t t78 q28 q56 q57 q39 q30 q47 q48 q76 q91 e => q95 (wb7 N vars t t78 q28 q56 q57 q39 q30 q47 q48 q76 q91) N e) K0 e
theorem xt3 (N : Nat) (vars : List q31) (t : List q24) (t53 q28 q56 : Int) (q57 q39 : List UInt8) (q30 q47 : Int) (q48 : List UInt8) (q76 q91 : Int) (n_ : Nat) (e : Int) : q61 (z31 N ) n_ ((qw4 vars t t53 q28 q56 q57 q39 q30 q47 q48 q76 q91) e) ((qw3 vars t t53 q28 q56 q57 q39 q30 q47 q48 q76 q91) e) = q95 (wb9 N vars t t53 q28 q56 q57 q39 q30 q47 q48 q76 q91 ) n_ e :=
 q40 (qw4 vars t t53 q28 q56 q57 q39 q30 q47 q48 q76 q91) (qw3 vars t t53 q28 q56 q57 q39 q30 q47 q48 q76 q91) (by
  intro K e
  have h : (z31 N ) K ((qw4 vars t t53 q28 q56 q57 q39 q30 q47 q48 q76 q91) e) ((qw3 vars t t53 q28 q56 q57 q39 q30 q47 q48 q76 q91) e) = wq1 N vars t t53 q28 q56 q57 q39 q30 q47 q48 q76 q91 (fun vars t t78 q28 q56 q57 q39 q30 q47 q48 q76 q91 e => q61 (z34 N ) N (qw6 vars t t78 q28 q56 q57 q39 q30 q47 q48 q76 q91 e) (qw5 vars t t78 q28 q56 q57 q39 q30 q47 q48 q76 q91 e)) (fun e => K ((qw4 vars t t53 q28 q56 q57 q39 q30 q47 q48 q76 q91) e) ((qw3 vars t t53 q28 q56 q57 q39 q30 q47 q48 q76 q91) e)) e := by kernel_rfl
  rw [h]
  simp only [wb9, xr8] <;> rfl) n_ e
def zl5 (N : Nat) (s : List UInt8) (self : q00) (vars : List q31) (other : q31) (l1 : (List q31) → (List q24) → Int → Int → Int → (List UInt8) → (List UInt8) → Int → Int → (List UInt8) → Int → Int → Int → Option Bool) : Option Bool :=
 bif decide ((s.length : Int) > 300) then
  (qx3 N).bind fun r =>
  some r
 else
  bif decide ((vars.length : Int) > 40) then
   (qx3 N).bind fun r1 =>
   some r1
  else
   bif decide ((self.2.2.1.length : Int) > 300) then
    (qx3 N).bind fun r2 =>
    some r2
   else
    bif decide ((other.2.1.2.2.1.length : Int) > 300) then
     (qx3 N).bind fun r3 =>
     some r3
    else
     (yk1 N s).bind fun r4 =>
     bif (r4.2.2.1 != 0) then
      (qx3 N).bind fun r5 =>
      some r5
     else
      l1 vars r4.1 (r4.1.length : Int) self.1 self.2.1 self.2.2.1 other.1 other.2.1.1 other.2.1.2.1 other.2.1.2.2.1 r4.2.1.1 r4.2.1.2.1 0
def qu8 (N : Nat) (s : List UInt8) (self : q00) (vars : List q31) (other : q31) : Option Bool := zl5 N s self vars other (fun vars t t53 q28 q56 q57 q39 q30 q47 q48 q76 q91 e => q95 (wb9 N vars t t53 q28 q56 q57 q39 q30 q47 q48 q76 q91) N e)
noncomputable def ju8 (N : Nat) (s : List UInt8) (self : q00) (vars : List q31) (other : q31) : Option (RT [.bool]) := q22 DR Tryz.prog N (zm4 N) qh6 Tryz.f5 (q10 Tryz.f5) (RT [.bool]) (qd6 [.str, q05, (.list q70), q70] (s, self, vars, other, ())) [] (q42 [.bool])
theorem x54 (N : Nat) (s : List UInt8) (self : q00) (vars : List q31) (other : q31) : ju8 N s self vars other = qu8 N s self vars other := by
 have h : ju8 N s self vars other = zl5 N s self vars other (fun vars t t53 q28 q56 q57 q39 q30 q47 q48 q76 q91 e => q61 (z31 N ) N (qw4 vars t t53 q28 q56 q57 q39 q30 q47 q48 q76 q91 e) (qw3 vars t t53 q28 q56 q57 q39 q30 q47 q48 q76 q91 e)) := by kernel_rfl
 rw [h]
 simp only [qu8, xt3] <;> rfl
def x03 (m : (List UInt8) → q00 → (List q31) → q31 → Option Bool) : Ent := q37 [.str, q05, (.list q70), q70] [.bool] fun (x : Els [.str, q05, (.list q70), q70]) => m x.1 x.2.1 x.2.2.1 x.2.2.2.1
def xg6 (N : Nat) : Ent := x03 (qu8 N)
theorem yp7 (N : Nat) : q16 Tryz.prog 5 (xg6 N) := q15 (xv8 N) Tryz.func5 rfl (by kernel_rfl) fun (x : Els [.str, q05, (.list q70), q70]) => x54 N x.1 x.2.1 x.2.2.1 x.2.2.2.1
end Go.Proofs.YtgicljncknbgcaaGreat.Abs
