/- The functions of the program, told on typed values, printed by a program: each tells what the reckoning of its body tells. -/
import Derived.Test.YtgicljncknbgcaaGreatL7
import Derived.Test.YtgicljncknbgcaaGreatG4
import Derived.Test.YtgicljncknbgcaaGreatLA
import Derived.Test.YtgicljncknbgcaaGreatProg
set_option linter.unusedVariables false
set_option linter.unusedSimpArgs false
set_option linter.unusedSectionVars false
namespace Go.Proofs.YtgicljncknbgcaaGreat.Abs
set_option maxRecDepth 100000
open Go Go.Proofs
def z88 : LH := ⟨[(2, .asis), (3, .asis), (6, .asis), (7, .own q05 507 26 3), (10, .int .i64), (11, .int .i64)], [], [.cells [.lst q08, .lst .bool], .cells [.int .u8, .int .i64, .str, .int .i64]]⟩
def qu6 : FH := ⟨[z88], [], [], [], false, [], []⟩
noncomputable def wd5 (N : Nat) : q52 := tab [(153, q58 N), (158, z14 N)]
theorem y72 (N : Nat) : q14 Tryz.prog (wd5 N) := q06 (q53 N) <| q06 (jd2 N) <| q26 _
noncomputable def z72 : Sc := wl4 Tryz.prog qu6
noncomputable def zb0 (N : Nat) : Cfg := ⟨N, wd5 N, 0⟩
noncomputable def js4 (N : Nat) : Exit → List TV → List TOb → Option q03 := fin Tryz.prog 0 Tryz.f99.results.toList (q42 [q08])
def w92 (n : Int) (k_l : List q03) (q09 : List Bool) (q04 q19 : Int) (q20 : List UInt8) (q68 : Int) (e : List q00 × Int) : List TV := match e with
 | (l, t11) => frm 30 [(2, .func (.func 158) [.ep [.func (.func 84) []] 0]), (3, .ref 0 0), (6, .ref 1 0), (7, .tl q05 l (.own 507 26 3)), (10, .int .i64 n), (11, .int .i64 t11)]
def w64 (n : Int) (k_l : List q03) (q09 : List Bool) (q04 q19 : Int) (q20 : List UInt8) (q68 : Int) (e : List q00 × Int) : List TOb := match e with
 | (l, t11) => [.cells [.tl q08 k_l .unk, .tl .bool q09 .unk] 118 true, .cells [.int .u8 q04, .int .i64 q19, .str q20, .int .i64 q68] 115 true]
noncomputable def z61 (N : Nat) : (List TV → List TOb → Option q03) → List TV → List TOb → Option q03 := w57 DR z72 (zb0 N) (ql8 (qc7 (q07 (q92 (q07 (q07 (q10 Tryz.f99))))))) z88 (qu6.loops.drop 1) (qj4 0 (qc5 DR z72 (zb0 N) (q07 (q07 (q07 (q10 Tryz.f99)))) (qu6.loops.drop 1) (js4 N)))
def w67 (N : Nat) (n : Int) (k_l : List q03) (q09 : List Bool) (q04 q19 : Int) (q20 : List UInt8) (q68 : Int) (K0 : (List q00 × Int) → Option q03) (e : List q00 × Int) : Option q03 :=
 match e with
 | (l, t11) =>
  bif decide (t11 < n) then
   (q64 N (k_l, q09, ()) t11).bind fun r =>
   bif (r.2.1 != 0) then
    some r
   else
    bif qz1 (l.length + ([r.1] : List q00).length) 4398046511104 then
    bif q27 (t11 + 1) then
    K0 ((l ++ ([r.1] : List q00)), t11 + 1)
    else none
    else none
  else
   (qt1 N l).bind fun r1 =>
   some r1
theorem y76 (N : Nat) (n : Int) (k_l : List q03) (q09 : List Bool) (q04 q19 : Int) (q20 : List UInt8) (q68 : Int) (n_ : Nat) (e : List q00 × Int) : q61 (z61 N ) n_ ((w92 n k_l q09 q04 q19 q20 q68) e) ((w64 n k_l q09 q04 q19 q20 q68) e) = q95 (w67 N n k_l q09 q04 q19 q20 q68 ) n_ e :=
 q40 (w92 n k_l q09 q04 q19 q20 q68) (w64 n k_l q09 q04 q19 q20 q68) (by intro K e; obtain ⟨l, t11⟩ := e; kernel_rfl) n_ e
def zj0 (N : Nat) (k : q36) (n : Int) (l1 : Int → (List q03) → (List Bool) → Int → Int → (List UInt8) → Int → (List q00 × Int) → Option q03) : Option q03 :=
 l1 n k.1 k.2.1 0 0 [] 0 ([], 0)
def qr1 (N : Nat) (k : q36) (n : Int) : Option q03 := zj0 N k n (fun n k_l q09 q04 q19 q20 q68 e => q95 (w67 N n k_l q09 q04 q19 q20 q68) N e)
abbrev z59 : List PK := [.val q72, .val (.int .i64), .fn 158 1, .ep 1, .fn 84 0]
noncomputable def zj8 (N : Nat) (k : q36) (n : Int) : Option (RT [q08]) := q22 DR Tryz.prog N (wd5 N) qu6 Tryz.f99 (q10 Tryz.f99) (RT [q08]) (qy2 z59 (k, n, ())) [] (q42 [q08])
theorem y05 (N : Nat) (k : q36) (n : Int) : zj8 N k n = qr1 N k n := by
 have h : zj8 N k n = zj0 N k n (fun n k_l q09 q04 q19 q20 q68 e => q61 (z61 N ) N (w92 n k_l q09 q04 q19 q20 q68 e) (w64 n k_l q09 q04 q19 q20 q68 e)) := by kernel_rfl
 rw [h]
 simp only [qr1, y76] <;> rfl
def jj6 (m : q36 → Int → Option q03) : Ent := qf5 z59 [q08] fun (x : Els [q72, (.int .i64)]) => m x.1 x.2.1
def wx1 (N : Nat) : Ent := jj6 (qr1 N)
theorem j55 (N : Nat) : q16 Tryz.prog 99 (wx1 N) := q55 (y72 N) Tryz.func99 rfl (by kernel_rfl) (by kernel_rfl) fun (x : Els [q72, (.int .i64)]) => y05 N x.1 x.2.1
def va1 : FH := ⟨[], [], [], [], false, [], []⟩
noncomputable def y41 (N : Nat) : q52 := tab []
theorem xr2 (N : Nat) : q14 Tryz.prog (y41 N) := q26 _
def wk4 (N : Nat) (c : Int) : Option Bool :=
 some (decide (c ≤ 0))
noncomputable def v66 (N : Nat) (c : Int) : Option (RT [.bool]) := q22 DR Tryz.prog N (y41 N) va1 Tryz.f85 (q10 Tryz.f85) (RT [.bool]) (qd6 [(.int .i64)] (c, ())) [] (q42 [.bool])
theorem xd4 (N : Nat) (c : Int) : v66 N c = wk4 N c := by kernel_rfl
def x00 (m : Int → Option Bool) : Ent := q37 [(.int .i64)] [.bool] fun (x : Els [(.int .i64)]) => m x.1
def zw8 (N : Nat) : Ent := x00 (wk4 N)
theorem yo3 (N : Nat) : q16 Tryz.prog 85 (zw8 N) := q15 (xr2 N) Tryz.func85 rfl (by kernel_rfl) fun (x : Els [(.int .i64)]) => xd4 N x.1
def jj4 : FH := ⟨[], [], [(5, ⟨11, 35, 0, [], []⟩)], [], false, [], []⟩
noncomputable def wn0 (N : Nat) : q52 := tab [(159, qd9 N), (76, q97 N), (157, qb8 N), (155, qk4 N), (85, zw8 N), (90, qd2 N)]
theorem ja8 (N : Nat) : q14 Tryz.prog (wn0 N) := q06 (qc9 N) <| q06 (q87 N) <| q06 (qb0 N) <| q06 (qk6 N) <| q06 (yo3 N) <| q06 (qc3 N) <| q26 _
def qi6 (N : Nat) (l : List q00) : Option q03 :=
 (qb3 N 1 2 l).bind fun r =>
 bif (!r) then
  (qb3 N 3 3 l).bind fun r1 =>
  bif (!r1) then
   (qe0 N 8).bind fun r2 =>
   some r2
  else
   (q86 N l).bind fun r3 =>
   bif r3 then
    some ((0, 0, [], ()), 0, ())
   else
    bif inR 0 l.length then
    bif inR 1 l.length then
    (q98 N (q25 l 0 q32) (q25 l 1 q32)).bind fun r4 =>
    (wk4 N r4.1).bind fun r5 =>
    (qa0 N r5).bind fun r6 =>
    some (r6, 0, ())
    else none
    else none
 else
  (q86 N l).bind fun r7 =>
  bif r7 then
   some ((0, 0, [], ()), 0, ())
  else
   bif inR 0 l.length then
   bif inR 1 l.length then
   (q98 N (q25 l 0 q32) (q25 l 1 q32)).bind fun r8 =>
   (wk4 N r8.1).bind fun r9 =>
   (qa0 N r9).bind fun r10 =>
   some (r10, 0, ())
   else none
   else none
abbrev wh8 : List PK := [.val (.list q05), .ep 1, .fn 85 0]
noncomputable def jl0 (N : Nat) (l : List q00) : Option (RT [q08]) := q22 DR Tryz.prog N (wn0 N) jj4 Tryz.f158 (q10 Tryz.f158) (RT [q08]) (qy2 wh8 (l, ())) [] (q42 [q08])
theorem zw2 (N : Nat) (l : List q00) : jl0 N l = qi6 N l := by kernel_rfl
def zu8 (m : (List q00) → Option q03) : Ent := qf5 wh8 [q08] fun (x : Els [(.list q05)]) => m x.1
def wf5 (N : Nat) : Ent := zu8 (qi6 N)
theorem zn9 (N : Nat) : q16 Tryz.prog 158 (wf5 N) := q55 (ja8 N) Tryz.func158 rfl (by kernel_rfl) (by kernel_rfl) fun (x : Els [(.list q05)]) => zw2 N x.1
def zc3 : LH := ⟨[(2, .asis), (3, .asis), (6, .asis), (7, .own q05 507 26 3), (10, .int .i64), (11, .int .i64)], [], [.cells [.lst q08, .lst .bool], .cells [.int .u8, .int .i64, .str, .int .i64]]⟩
def qv1 : FH := ⟨[zc3], [], [], [], false, [], []⟩
noncomputable def we2 (N : Nat) : q52 := tab [(153, q58 N), (158, wf5 N)]
theorem ya9 (N : Nat) : q14 Tryz.prog (we2 N) := q06 (q53 N) <| q06 (zn9 N) <| q26 _
noncomputable def zd3 : Sc := wl4 Tryz.prog qv1
noncomputable def z66 (N : Nat) : Cfg := ⟨N, we2 N, 0⟩
noncomputable def jt0 (N : Nat) : Exit → List TV → List TOb → Option q03 := fin Tryz.prog 0 Tryz.f99.results.toList (q42 [q08])
def w74 (n : Int) (k_l : List q03) (q09 : List Bool) (q04 q19 : Int) (q20 : List UInt8) (q68 : Int) (e : List q00 × Int) : List TV := match e with
 | (l, t11) => frm 30 [(2, .func (.func 158) [.ep [.func (.func 85) []] 0]), (3, .ref 0 0), (6, .ref 1 0), (7, .tl q05 l (.own 507 26 3)), (10, .int .i64 n), (11, .int .i64 t11)]
def w72 (n : Int) (k_l : List q03) (q09 : List Bool) (q04 q19 : Int) (q20 : List UInt8) (q68 : Int) (e : List q00 × Int) : List TOb := match e with
 | (l, t11) => [.cells [.tl q08 k_l .unk, .tl .bool q09 .unk] 118 true, .cells [.int .u8 q04, .int .i64 q19, .str q20, .int .i64 q68] 115 true]
noncomputable def zb5 (N : Nat) : (List TV → List TOb → Option q03) → List TV → List TOb → Option q03 := w57 DR zd3 (z66 N) (ql8 (qc7 (q07 (q92 (q07 (q07 (q10 Tryz.f99))))))) zc3 (qv1.loops.drop 1) (qj4 0 (qc5 DR zd3 (z66 N) (q07 (q07 (q07 (q10 Tryz.f99)))) (qv1.loops.drop 1) (jt0 N)))
def w90 (N : Nat) (n : Int) (k_l : List q03) (q09 : List Bool) (q04 q19 : Int) (q20 : List UInt8) (q68 : Int) (K0 : (List q00 × Int) → Option q03) (e : List q00 × Int) : Option q03 :=
 match e with
 | (l, t11) =>
  bif decide (t11 < n) then
   (q64 N (k_l, q09, ()) t11).bind fun r =>
   bif (r.2.1 != 0) then
    some r
   else
    bif qz1 (l.length + ([r.1] : List q00).length) 4398046511104 then
    bif q27 (t11 + 1) then
    K0 ((l ++ ([r.1] : List q00)), t11 + 1)
    else none
    else none
  else
   (qi6 N l).bind fun r1 =>
   some r1
theorem yd0 (N : Nat) (n : Int) (k_l : List q03) (q09 : List Bool) (q04 q19 : Int) (q20 : List UInt8) (q68 : Int) (n_ : Nat) (e : List q00 × Int) : q61 (zb5 N ) n_ ((w74 n k_l q09 q04 q19 q20 q68) e) ((w72 n k_l q09 q04 q19 q20 q68) e) = q95 (w90 N n k_l q09 q04 q19 q20 q68 ) n_ e :=
 q40 (w74 n k_l q09 q04 q19 q20 q68) (w72 n k_l q09 q04 q19 q20 q68) (by intro K e; obtain ⟨l, t11⟩ := e; kernel_rfl) n_ e
def zg2 (N : Nat) (k : q36) (n : Int) (l1 : Int → (List q03) → (List Bool) → Int → Int → (List UInt8) → Int → (List q00 × Int) → Option q03) : Option q03 :=
 l1 n k.1 k.2.1 0 0 [] 0 ([], 0)
def qr6 (N : Nat) (k : q36) (n : Int) : Option q03 := zg2 N k n (fun n k_l q09 q04 q19 q20 q68 e => q95 (w90 N n k_l q09 q04 q19 q20 q68) N e)
abbrev z79 : List PK := [.val q72, .val (.int .i64), .fn 158 1, .ep 1, .fn 85 0]
noncomputable def zh1 (N : Nat) (k : q36) (n : Int) : Option (RT [q08]) := q22 DR Tryz.prog N (we2 N) qv1 Tryz.f99 (q10 Tryz.f99) (RT [q08]) (qy2 z79 (k, n, ())) [] (q42 [q08])
theorem jw9 (N : Nat) (k : q36) (n : Int) : zh1 N k n = qr6 N k n := by
 have h : zh1 N k n = zg2 N k n (fun n k_l q09 q04 q19 q20 q68 e => q61 (zb5 N ) N (w74 n k_l q09 q04 q19 q20 q68 e) (w72 n k_l q09 q04 q19 q20 q68 e)) := by kernel_rfl
 rw [h]
 simp only [qr6, yd0] <;> rfl
def jl5 (m : q36 → Int → Option q03) : Ent := qf5 z79 [q08] fun (x : Els [q72, (.int .i64)]) => m x.1 x.2.1
def wt8 (N : Nat) : Ent := jl5 (qr6 N)
theorem ja6 (N : Nat) : q16 Tryz.prog 99 (wt8 N) := q55 (ya9 N) Tryz.func99 rfl (by kernel_rfl) (by kernel_rfl) fun (x : Els [q72, (.int .i64)]) => jw9 N x.1 x.2.1
def v90 : FH := ⟨[], [], [], [], false, [], []⟩
noncomputable def jz7 (N : Nat) : q52 := tab []
theorem xu8 (N : Nat) : q14 Tryz.prog (jz7 N) := q26 _
def wi8 (N : Nat) (c : Int) : Option Bool :=
 some (decide (c > 0))
noncomputable def xy8 (N : Nat) (c : Int) : Option (RT [.bool]) := q22 DR Tryz.prog N (jz7 N) v90 Tryz.f86 (q10 Tryz.f86) (RT [.bool]) (qd6 [(.int .i64)] (c, ())) [] (q42 [.bool])
theorem x68 (N : Nat) (c : Int) : xy8 N c = wi8 N c := by kernel_rfl
def yy9 (m : Int → Option Bool) : Ent := q37 [(.int .i64)] [.bool] fun (x : Els [(.int .i64)]) => m x.1
def zz3 (N : Nat) : Ent := yy9 (wi8 N)
theorem yn5 (N : Nat) : q16 Tryz.prog 86 (zz3 N) := q15 (xu8 N) Tryz.func86 rfl (by kernel_rfl) fun (x : Els [(.int .i64)]) => x68 N x.1
def ji7 : FH := ⟨[], [], [(5, ⟨11, 35, 0, [], []⟩)], [], false, [], []⟩
noncomputable def wm3 (N : Nat) : q52 := tab [(159, qd9 N), (76, q97 N), (157, qb8 N), (155, qk4 N), (86, zz3 N), (90, qd2 N)]
theorem j75 (N : Nat) : q14 Tryz.prog (wm3 N) := q06 (qc9 N) <| q06 (q87 N) <| q06 (qb0 N) <| q06 (qk6 N) <| q06 (yn5 N) <| q06 (qc3 N) <| q26 _
def qi5 (N : Nat) (l : List q00) : Option q03 :=
 (qb3 N 1 2 l).bind fun r =>
 bif (!r) then
  (qb3 N 3 3 l).bind fun r1 =>
  bif (!r1) then
   (qe0 N 8).bind fun r2 =>
   some r2
  else
   (q86 N l).bind fun r3 =>
   bif r3 then
    some ((0, 0, [], ()), 0, ())
   else
    bif inR 0 l.length then
    bif inR 1 l.length then
    (q98 N (q25 l 0 q32) (q25 l 1 q32)).bind fun r4 =>
    (wi8 N r4.1).bind fun r5 =>
    (qa0 N r5).bind fun r6 =>
    some (r6, 0, ())
    else none
    else none
 else
  (q86 N l).bind fun r7 =>
  bif r7 then
   some ((0, 0, [], ()), 0, ())
  else
   bif inR 0 l.length then
   bif inR 1 l.length then
   (q98 N (q25 l 0 q32) (q25 l 1 q32)).bind fun r8 =>
   (wi8 N r8.1).bind fun r9 =>
   (qa0 N r9).bind fun r10 =>
   some (r10, 0, ())
   else none
   else none
abbrev wh0 : List PK := [.val (.list q05), .ep 1, .fn 86 0]
noncomputable def jk4 (N : Nat) (l : List q00) : Option (RT [q08]) := q22 DR Tryz.prog N (wm3 N) ji7 Tryz.f158 (q10 Tryz.f158) (RT [q08]) (qy2 wh0 (l, ())) [] (q42 [q08])
theorem j35 (N : Nat) (l : List q00) : jk4 N l = qi5 N l := by kernel_rfl
def zt5 (m : (List q00) → Option q03) : Ent := qf5 wh0 [q08] fun (x : Els [(.list q05)]) => m x.1
def wf6 (N : Nat) : Ent := zt5 (qi5 N)
theorem zn6 (N : Nat) : q16 Tryz.prog 158 (wf6 N) := q55 (j75 N) Tryz.func158 rfl (by kernel_rfl) (by kernel_rfl) fun (x : Els [(.list q05)]) => j35 N x.1
def zb8 : LH := ⟨[(2, .asis), (3, .asis), (6, .asis), (7, .own q05 507 26 3), (10, .int .i64), (11, .int .i64)], [], [.cells [.lst q08, .lst .bool], .cells [.int .u8, .int .i64, .str, .int .i64]]⟩
def qw1 : FH := ⟨[zb8], [], [], [], false, [], []⟩
noncomputable def wd7 (N : Nat) : q52 := tab [(153, q58 N), (158, wf6 N)]
theorem ya2 (N : Nat) : q14 Tryz.prog (wd7 N) := q06 (q53 N) <| q06 (zn6 N) <| q26 _
noncomputable def z49 : Sc := wl4 Tryz.prog qw1
noncomputable def z87 (N : Nat) : Cfg := ⟨N, wd7 N, 0⟩
noncomputable def jn8 (N : Nat) : Exit → List TV → List TOb → Option q03 := fin Tryz.prog 0 Tryz.f99.results.toList (q42 [q08])
def w96 (n : Int) (k_l : List q03) (q09 : List Bool) (q04 q19 : Int) (q20 : List UInt8) (q68 : Int) (e : List q00 × Int) : List TV := match e with
 | (l, t11) => frm 30 [(2, .func (.func 158) [.ep [.func (.func 86) []] 0]), (3, .ref 0 0), (6, .ref 1 0), (7, .tl q05 l (.own 507 26 3)), (10, .int .i64 n), (11, .int .i64 t11)]
def w87 (n : Int) (k_l : List q03) (q09 : List Bool) (q04 q19 : Int) (q20 : List UInt8) (q68 : Int) (e : List q00 × Int) : List TOb := match e with
 | (l, t11) => [.cells [.tl q08 k_l .unk, .tl .bool q09 .unk] 118 true, .cells [.int .u8 q04, .int .i64 q19, .str q20, .int .i64 q68] 115 true]
noncomputable def z45 (N : Nat) : (List TV → List TOb → Option q03) → List TV → List TOb → Option q03 := w57 DR z49 (z87 N) (ql8 (qc7 (q07 (q92 (q07 (q07 (q10 Tryz.f99))))))) zb8 (qw1.loops.drop 1) (qj4 0 (qc5 DR z49 (z87 N) (q07 (q07 (q07 (q10 Tryz.f99)))) (qw1.loops.drop 1) (jn8 N)))
def w68 (N : Nat) (n : Int) (k_l : List q03) (q09 : List Bool) (q04 q19 : Int) (q20 : List UInt8) (q68 : Int) (K0 : (List q00 × Int) → Option q03) (e : List q00 × Int) : Option q03 :=
 match e with
 | (l, t11) =>
  bif decide (t11 < n) then
   (q64 N (k_l, q09, ()) t11).bind fun r =>
   bif (r.2.1 != 0) then
    some r
   else
    bif qz1 (l.length + ([r.1] : List q00).length) 4398046511104 then
    bif q27 (t11 + 1) then
    K0 ((l ++ ([r.1] : List q00)), t11 + 1)
    else none
    else none
  else
   (qi5 N l).bind fun r1 =>
   some r1
theorem yb9 (N : Nat) (n : Int) (k_l : List q03) (q09 : List Bool) (q04 q19 : Int) (q20 : List UInt8) (q68 : Int) (n_ : Nat) (e : List q00 × Int) : q61 (z45 N ) n_ ((w96 n k_l q09 q04 q19 q20 q68) e) ((w87 n k_l q09 q04 q19 q20 q68) e) = q95 (w68 N n k_l q09 q04 q19 q20 q68 ) n_ e :=
 q40 (w96 n k_l q09 q04 q19 q20 q68) (w87 n k_l q09 q04 q19 q20 q68) (by intro K e; obtain ⟨l, t11⟩ := e; kernel_rfl) n_ e
def zm0 (N : Nat) (k : q36) (n : Int) (l1 : Int → (List q03) → (List Bool) → Int → Int → (List UInt8) → Int → (List q00 × Int) → Option q03) : Option q03 :=
 l1 n k.1 k.2.1 0 0 [] 0 ([], 0)
def qr0 (N : Nat) (k : q36) (n : Int) : Option q03 := zm0 N k n (fun n k_l q09 q04 q19 q20 q68 e => q95 (w68 N n k_l q09 q04 q19 q20 q68) N e)
abbrev zb7 : List PK := [.val q72, .val (.int .i64), .fn 158 1, .ep 1, .fn 86 0]
noncomputable def zh0 (N : Nat) (k : q36) (n : Int) : Option (RT [q08]) := q22 DR Tryz.prog N (wd7 N) qw1 Tryz.f99 (q10 Tryz.f99) (RT [q08]) (qy2 zb7 (k, n, ())) [] (q42 [q08])
theorem ju5 (N : Nat) (k : q36) (n : Int) : zh0 N k n = qr0 N k n := by
 have h : zh0 N k n = zm0 N k n (fun n k_l q09 q04 q19 q20 q68 e => q61 (z45 N ) N (w96 n k_l q09 q04 q19 q20 q68 e) (w87 n k_l q09 q04 q19 q20 q68 e)) := by kernel_rfl
 rw [h]
 simp only [qr0, yb9] <;> rfl
def jj0 (m : q36 → Int → Option q03) : Ent := qf5 zb7 [q08] fun (x : Els [q72, (.int .i64)]) => m x.1 x.2.1
def wz9 (N : Nat) : Ent := jj0 (qr0 N)
theorem j82 (N : Nat) : q16 Tryz.prog 99 (wz9 N) := q55 (ya2 N) Tryz.func99 rfl (by kernel_rfl) (by kernel_rfl) fun (x : Els [q72, (.int .i64)]) => ju5 N x.1 x.2.1
def vb2 : FH := ⟨[], [], [], [], false, [], []⟩
noncomputable def jy5 (N : Nat) : q52 := tab []
theorem xv0 (N : Nat) : q14 Tryz.prog (jy5 N) := q26 _
def wj5 (N : Nat) (c : Int) : Option Bool :=
 some (decide (c ≥ 0))
noncomputable def vf9 (N : Nat) (c : Int) : Option (RT [.bool]) := q22 DR Tryz.prog N (jy5 N) vb2 Tryz.f87 (q10 Tryz.f87) (RT [.bool]) (qd6 [(.int .i64)] (c, ())) [] (q42 [.bool])
theorem x79 (N : Nat) (c : Int) : vf9 N c = wj5 N c := by kernel_rfl
def yv9 (m : Int → Option Bool) : Ent := q37 [(.int .i64)] [.bool] fun (x : Els [(.int .i64)]) => m x.1
def j43 (N : Nat) : Ent := yv9 (wj5 N)
theorem yl1 (N : Nat) : q16 Tryz.prog 87 (j43 N) := q15 (xv0 N) Tryz.func87 rfl (by kernel_rfl) fun (x : Els [(.int .i64)]) => x79 N x.1
def ji6 : FH := ⟨[], [], [(5, ⟨11, 35, 0, [], []⟩)], [], false, [], []⟩
noncomputable def wn2 (N : Nat) : q52 := tab [(159, qd9 N), (76, q97 N), (157, qb8 N), (155, qk4 N), (87, j43 N), (90, qd2 N)]
theorem jd3 (N : Nat) : q14 Tryz.prog (wn2 N) := q06 (qc9 N) <| q06 (q87 N) <| q06 (qb0 N) <| q06 (qk6 N) <| q06 (yl1 N) <| q06 (qc3 N) <| q26 _
def qi7 (N : Nat) (l : List q00) : Option q03 :=
 (qb3 N 1 2 l).bind fun r =>
 bif (!r) then
  (qb3 N 3 3 l).bind fun r1 =>
  bif (!r1) then
   (qe0 N 8).bind fun r2 =>
   some r2
  else
   (q86 N l).bind fun r3 =>
   bif r3 then
    some ((0, 0, [], ()), 0, ())
   else
    bif inR 0 l.length then
    bif inR 1 l.length then
    (q98 N (q25 l 0 q32) (q25 l 1 q32)).bind fun r4 =>
    (wj5 N r4.1).bind fun r5 =>
    (qa0 N r5).bind fun r6 =>
    some (r6, 0, ())
    else none
    else none
 else
  (q86 N l).bind fun r7 =>
  bif r7 then
   some ((0, 0, [], ()), 0, ())
  else
   bif inR 0 l.length then
   bif inR 1 l.length then
   (q98 N (q25 l 0 q32) (q25 l 1 q32)).bind fun r8 =>
   (wj5 N r8.1).bind fun r9 =>
   (qa0 N r9).bind fun r10 =>
   some (r10, 0, ())
   else none
   else none
abbrev wl0 : List PK := [.val (.list q05), .ep 1, .fn 87 0]
noncomputable def jl7 (N : Nat) (l : List q00) : Option (RT [q08]) := q22 DR Tryz.prog N (wn2 N) ji6 Tryz.f158 (q10 Tryz.f158) (RT [q08]) (qy2 wl0 (l, ())) [] (q42 [q08])
theorem zy7 (N : Nat) (l : List q00) : jl7 N l = qi7 N l := by kernel_rfl
def zt8 (m : (List q00) → Option q03) : Ent := qf5 wl0 [q08] fun (x : Els [(.list q05)]) => m x.1
def wf2 (N : Nat) : Ent := zt8 (qi7 N)
theorem zn4 (N : Nat) : q16 Tryz.prog 158 (wf2 N) := q55 (jd3 N) Tryz.func158 rfl (by kernel_rfl) (by kernel_rfl) fun (x : Els [(.list q05)]) => zy7 N x.1
def za6 : LH := ⟨[(2, .asis), (3, .asis), (6, .asis), (7, .own q05 507 26 3), (10, .int .i64), (11, .int .i64)], [], [.cells [.lst q08, .lst .bool], .cells [.int .u8, .int .i64, .str, .int .i64]]⟩
def qv4 : FH := ⟨[za6], [], [], [], false, [], []⟩
noncomputable def wd9 (N : Nat) : q52 := tab [(153, q58 N), (158, wf2 N)]
theorem yb5 (N : Nat) : q14 Tryz.prog (wd9 N) := q06 (q53 N) <| q06 (zn4 N) <| q26 _
noncomputable def z60 : Sc := wl4 Tryz.prog qv4
noncomputable def za2 (N : Nat) : Cfg := ⟨N, wd9 N, 0⟩
noncomputable def ju2 (N : Nat) : Exit → List TV → List TOb → Option q03 := fin Tryz.prog 0 Tryz.f99.results.toList (q42 [q08])
def w88 (n : Int) (k_l : List q03) (q09 : List Bool) (q04 q19 : Int) (q20 : List UInt8) (q68 : Int) (e : List q00 × Int) : List TV := match e with
 | (l, t11) => frm 30 [(2, .func (.func 158) [.ep [.func (.func 87) []] 0]), (3, .ref 0 0), (6, .ref 1 0), (7, .tl q05 l (.own 507 26 3)), (10, .int .i64 n), (11, .int .i64 t11)]
def w76 (n : Int) (k_l : List q03) (q09 : List Bool) (q04 q19 : Int) (q20 : List UInt8) (q68 : Int) (e : List q00 × Int) : List TOb := match e with
 | (l, t11) => [.cells [.tl q08 k_l .unk, .tl .bool q09 .unk] 118 true, .cells [.int .u8 q04, .int .i64 q19, .str q20, .int .i64 q68] 115 true]
noncomputable def z51 (N : Nat) : (List TV → List TOb → Option q03) → List TV → List TOb → Option q03 := w57 DR z60 (za2 N) (ql8 (qc7 (q07 (q92 (q07 (q07 (q10 Tryz.f99))))))) za6 (qv4.loops.drop 1) (qj4 0 (qc5 DR z60 (za2 N) (q07 (q07 (q07 (q10 Tryz.f99)))) (qv4.loops.drop 1) (ju2 N)))
def w63 (N : Nat) (n : Int) (k_l : List q03) (q09 : List Bool) (q04 q19 : Int) (q20 : List UInt8) (q68 : Int) (K0 : (List q00 × Int) → Option q03) (e : List q00 × Int) : Option q03 :=
 match e with
 | (l, t11) =>
  bif decide (t11 < n) then
   (q64 N (k_l, q09, ()) t11).bind fun r =>
   bif (r.2.1 != 0) then
    some r
   else
    bif qz1 (l.length + ([r.1] : List q00).length) 4398046511104 then
    bif q27 (t11 + 1) then
    K0 ((l ++ ([r.1] : List q00)), t11 + 1)
    else none
    else none
  else
   (qi7 N l).bind fun r1 =>
   some r1
theorem y99 (N : Nat) (n : Int) (k_l : List q03) (q09 : List Bool) (q04 q19 : Int) (q20 : List UInt8) (q68 : Int) (n_ : Nat) (e : List q00 × Int) : q61 (z51 N ) n_ ((w88 n k_l q09 q04 q19 q20 q68) e) ((w76 n k_l q09 q04 q19 q20 q68) e) = q95 (w63 N n k_l q09 q04 q19 q20 q68 ) n_ e :=
 q40 (w88 n k_l q09 q04 q19 q20 q68) (w76 n k_l q09 q04 q19 q20 q68) (by intro K e; obtain ⟨l, t11⟩ := e; kernel_rfl) n_ e
def zn2 (N : Nat) (k : q36) (n : Int) (l1 : Int → (List q03) → (List Bool) → Int → Int → (List UInt8) → Int → (List q00 × Int) → Option q03) : Option q03 :=
 l1 n k.1 k.2.1 0 0 [] 0 ([], 0)
def qr2 (N : Nat) (k : q36) (n : Int) : Option q03 := zn2 N k n (fun n k_l q09 q04 q19 q20 q68 e => q95 (w63 N n k_l q09 q04 q19 q20 q68) N e)
abbrev za3 : List PK := [.val q72, .val (.int .i64), .fn 158 1, .ep 1, .fn 87 0]
noncomputable def zh3 (N : Nat) (k : q36) (n : Int) : Option (RT [q08]) := q22 DR Tryz.prog N (wd9 N) qv4 Tryz.f99 (q10 Tryz.f99) (RT [q08]) (qy2 za3 (k, n, ())) [] (q42 [q08])
theorem y15 (N : Nat) (k : q36) (n : Int) : zh3 N k n = qr2 N k n := by
 have h : zh3 N k n = zn2 N k n (fun n k_l q09 q04 q19 q20 q68 e => q61 (z51 N ) N (w88 n k_l q09 q04 q19 q20 q68 e) (w76 n k_l q09 q04 q19 q20 q68 e)) := by kernel_rfl
 rw [h]
 simp only [qr2, y99] <;> rfl
def jl2 (m : q36 → Int → Option q03) : Ent := qf5 za3 [q08] fun (x : Els [q72, (.int .i64)]) => m x.1 x.2.1
def wy7 (N : Nat) : Ent := jl2 (qr2 N)
theorem j72 (N : Nat) : q16 Tryz.prog 99 (wy7 N) := q55 (yb5 N) Tryz.func99 rfl (by kernel_rfl) (by kernel_rfl) fun (x : Els [q72, (.int .i64)]) => y15 N x.1 x.2.1
def vc7 : FH := ⟨[], [], [(1, ⟨8, 14, 0, [], []⟩)], [], false, [], []⟩
noncomputable def jz4 (N : Nat) : q52 := tab [(91, zc0 N), (90, qd2 N)]
theorem xr7 (N : Nat) : q14 Tryz.prog (jz4 N) := q06 (jj9 N) <| q06 (qc3 N) <| q26 _
def zd6 (N : Nat) (l : List q00) : Option q03 :=
 bif inR 0 l.length then
 bif inR 1 l.length then
 (wc4 N ((q25 l 0 q32).2.2.1) ((q25 l 1 q32).2.2.1)).bind fun r =>
 (qa0 N r).bind fun r1 =>
 some (r1, 0, ())
 else none
 else none
noncomputable def vb7 (N : Nat) (l : List q00) : Option (RT [q08]) := q22 DR Tryz.prog N (jz4 N) vc7 Tryz.f89 (q10 Tryz.f89) (RT [q08]) (qd6 [(.list q05)] (l, ())) [] (q42 [q08])
theorem xc0 (N : Nat) (l : List q00) : vb7 N l = zd6 N l := by kernel_rfl
def x25 (m : (List q00) → Option q03) : Ent := q37 [(.list q05)] [q08] fun (x : Els [(.list q05)]) => m x.1
def j01 (N : Nat) : Ent := x25 (zd6 N)
theorem ym3 (N : Nat) : q16 Tryz.prog 89 (j01 N) := q15 (xr7 N) Tryz.func89 rfl (by kernel_rfl) fun (x : Els [(.list q05)]) => xc0 N x.1
def x43 : FH := ⟨[], [], [], [], false, [], []⟩
noncomputable def zs0 (N : Nat) : q52 := tab [(159, qd9 N), (76, q97 N), (157, qb8 N), (89, j01 N)]
theorem yi5 (N : Nat) : q14 Tryz.prog (zs0 N) := q06 (qc9 N) <| q06 (q87 N) <| q06 (qb0 N) <| q06 (ym3 N) <| q26 _
def qn2 (N : Nat) (l : List q00) (t1 : Int) : Option q03 :=
 (qb3 N t1 t1 l).bind fun r =>
 bif (!r) then
  (qe0 N 8).bind fun r1 =>
  some r1
 else
  (q86 N l).bind fun r2 =>
  bif r2 then
   some ((0, 0, [], ()), 0, ())
  else
   (zd6 N l).bind fun r3 =>
   some r3
abbrev zk9 : List PK := [.val (.list q05), .ep 1, .val (.int .u8), .ep 1, .fn 89 0]
noncomputable def ys4 (N : Nat) (l : List q00) (t1 : Int) : Option (RT [q08]) := q22 DR Tryz.prog N (zs0 N) x43 Tryz.f160 (q10 Tryz.f160) (RT [q08]) (qy2 zk9 (l, t1, ())) [] (q42 [q08])
theorem y88 (N : Nat) (l : List q00) (t1 : Int) : ys4 N l t1 = qn2 N l t1 := by kernel_rfl
def jr6 (m : (List q00) → Int → Option q03) : Ent := qf5 zk9 [q08] fun (x : Els [(.list q05), (.int .u8)]) => m x.1 x.2.1
def zb2 (N : Nat) : Ent := jr6 (qn2 N)
theorem jk9 (N : Nat) : q16 Tryz.prog 160 (zb2 N) := q55 (yi5 N) Tryz.func160 rfl (by kernel_rfl) (by kernel_rfl) fun (x : Els [(.list q05), (.int .u8)]) => y88 N x.1 x.2.1
def z58 : LH := ⟨[(2, .asis), (3, .asis), (6, .asis), (7, .own q05 507 26 3), (10, .int .i64), (11, .int .i64)], [], [.cells [.lst q08, .lst .bool], .cells [.int .u8, .int .i64, .str, .int .i64]]⟩
def qu0 : FH := ⟨[z58], [], [], [], false, [], []⟩
noncomputable def we5 (N : Nat) : q52 := tab [(153, q58 N), (160, zb2 N)]
theorem y87 (N : Nat) : q14 Tryz.prog (we5 N) := q06 (q53 N) <| q06 (jk9 N) <| q26 _
noncomputable def z94 : Sc := wl4 Tryz.prog qu0
noncomputable def z93 (N : Nat) : Cfg := ⟨N, we5 N, 0⟩
noncomputable def jp1 (N : Nat) : Exit → List TV → List TOb → Option q03 := fin Tryz.prog 0 Tryz.f99.results.toList (q42 [q08])
def w97 (n : Int) (k_l : List q03) (q09 : List Bool) (q04 q19 : Int) (q20 : List UInt8) (q68 t1 : Int) (e : List q00 × Int) : List TV := match e with
 | (l, t11) => frm 30 [(2, .func (.func 160) [.ep [.int .u8 t1] 0, .ep [.func (.func 89) []] 0]), (3, .ref 0 0), (6, .ref 1 0), (7, .tl q05 l (.own 507 26 3)), (10, .int .i64 n), (11, .int .i64 t11)]
def wa2 (n : Int) (k_l : List q03) (q09 : List Bool) (q04 q19 : Int) (q20 : List UInt8) (q68 t1 : Int) (e : List q00 × Int) : List TOb := match e with
 | (l, t11) => [.cells [.tl q08 k_l .unk, .tl .bool q09 .unk] 118 true, .cells [.int .u8 q04, .int .i64 q19, .str q20, .int .i64 q68] 115 true]
noncomputable def zc4 (N : Nat) : (List TV → List TOb → Option q03) → List TV → List TOb → Option q03 := w57 DR z94 (z93 N) (ql8 (qc7 (q07 (q92 (q07 (q07 (q10 Tryz.f99))))))) z58 (qu0.loops.drop 1) (qj4 0 (qc5 DR z94 (z93 N) (q07 (q07 (q07 (q10 Tryz.f99)))) (qu0.loops.drop 1) (jp1 N)))
def w89 (N : Nat) (n : Int) (k_l : List q03) (q09 : List Bool) (q04 q19 : Int) (q20 : List UInt8) (q68 t1 : Int) (K0 : (List q00 × Int) → Option q03) (e : List q00 × Int) : Option q03 :=
 match e with
 | (l, t11) =>
  bif decide (t11 < n) then
   (q64 N (k_l, q09, ()) t11).bind fun r =>
   bif (r.2.1 != 0) then
    some r
   else
    bif qz1 (l.length + ([r.1] : List q00).length) 4398046511104 then
    bif q27 (t11 + 1) then
    K0 ((l ++ ([r.1] : List q00)), t11 + 1)
    else none
    else none
  else
   (qn2 N l t1).bind fun r1 =>
   some r1
theorem yc9 (N : Nat) (n : Int) (k_l : List q03) (q09 : List Bool) (q04 q19 : Int) (q20 : List UInt8) (q68 t1 : Int) (n_ : Nat) (e : List q00 × Int) : q61 (zc4 N ) n_ ((w97 n k_l q09 q04 q19 q20 q68 t1) e) ((wa2 n k_l q09 q04 q19 q20 q68 t1) e) = q95 (w89 N n k_l q09 q04 q19 q20 q68 t1 ) n_ e :=
 q40 (w97 n k_l q09 q04 q19 q20 q68 t1) (wa2 n k_l q09 q04 q19 q20 q68 t1) (by intro K e; obtain ⟨l, t11⟩ := e; kernel_rfl) n_ e
def zg5 (N : Nat) (k : q36) (n t1 : Int) (l1 : Int → (List q03) → (List Bool) → Int → Int → (List UInt8) → Int → Int → (List q00 × Int) → Option q03) : Option q03 :=
 l1 n k.1 k.2.1 0 0 [] 0 t1 ([], 0)
def qs1 (N : Nat) (k : q36) (n t1 : Int) : Option q03 := zg5 N k n t1 (fun n k_l q09 q04 q19 q20 q68 t1 e => q95 (w89 N n k_l q09 q04 q19 q20 q68 t1) N e)
abbrev zd0 : List PK := [.val q72, .val (.int .i64), .fn 160 2, .ep 1, .val (.int .u8), .ep 1, .fn 89 0]
noncomputable def zj7 (N : Nat) (k : q36) (n t1 : Int) : Option (RT [q08]) := q22 DR Tryz.prog N (we5 N) qu0 Tryz.f99 (q10 Tryz.f99) (RT [q08]) (qy2 zd0 (k, n, t1, ())) [] (q42 [q08])
theorem jx7 (N : Nat) (k : q36) (n t1 : Int) : zj7 N k n t1 = qs1 N k n t1 := by
 have h : zj7 N k n t1 = zg5 N k n t1 (fun n k_l q09 q04 q19 q20 q68 t1 e => q61 (zc4 N ) N (w97 n k_l q09 q04 q19 q20 q68 t1 e) (wa2 n k_l q09 q04 q19 q20 q68 t1 e)) := by kernel_rfl
 rw [h]
 simp only [qs1, yc9] <;> rfl
def jl3 (m : q36 → Int → Int → Option q03) : Ent := qf5 zd0 [q08] fun (x : Els [q72, (.int .i64), (.int .u8)]) => m x.1 x.2.1 x.2.2.1
def wv1 (N : Nat) : Ent := jl3 (qs1 N)
theorem j52 (N : Nat) : q16 Tryz.prog 99 (wv1 N) := q55 (y87 N) Tryz.func99 rfl (by kernel_rfl) (by kernel_rfl) fun (x : Els [q72, (.int .i64), (.int .u8)]) => jx7 N x.1 x.2.1 x.2.2.1
def j95 : FH := ⟨[], [], [], [], false, [], []⟩
noncomputable def wi6 (N : Nat) : q52 := tab []
theorem zv6 (N : Nat) : q14 Tryz.prog (wi6 N) := q26 _
def qn3 (N : Nat) (s w98 : List UInt8) : Option Bool :=
 bif decide ((s.length : Int) ≥ (w98.length : Int)) then
  bif upTo (w98.length : Int) s.length then
  some ((s.take (w98.length : Int).toNat) == w98)
  else none
 else
  some false
noncomputable def j84 (N : Nat) (s w98 : List UInt8) : Option (RT [.bool]) := q22 DR Tryz.prog N (wi6 N) j95 Tryz.f162 (q10 Tryz.f162) (RT [.bool]) (qd6 [.str, .str] (s, w98, ())) [] (q42 [.bool])
theorem zt9 (N : Nat) (s w98 : List UInt8) : j84 N s w98 = qn3 N s w98 := by kernel_rfl
def zn5 (m : (List UInt8) → (List UInt8) → Option Bool) : Ent := q37 [.str, .str] [.bool] fun (x : Els [.str, .str]) => m x.1 x.2.1
def wa4 (N : Nat) : Ent := zn5 (qn3 N)
theorem zj9 (N : Nat) : q16 Tryz.prog 162 (wa4 N) := q15 (zv6 N) Tryz.func162 rfl (by kernel_rfl) fun (x : Els [.str, .str]) => zt9 N x.1 x.2.1
def yq3 : FH := ⟨[], [], [], [], false, [], []⟩
noncomputable def zl2 (N : Nat) : q52 := tab [(162, wa4 N)]
theorem yc2 (N : Nat) : q14 Tryz.prog (zl2 N) := q06 (zj9 N) <| q26 _
def w47 (N : Nat) (s w98 : List UInt8) : Option Bool :=
 (qn3 N s w98).bind fun r =>
 some r
noncomputable def yh9 (N : Nat) (s w98 : List UInt8) : Option (RT [.bool]) := q22 DR Tryz.prog N (zl2 N) yq3 Tryz.f93 (q10 Tryz.f93) (RT [.bool]) (qd6 [.str, .str] (s, w98, ())) [] (q42 [.bool])
theorem y39 (N : Nat) (s w98 : List UInt8) : yh9 N s w98 = w47 N s w98 := by kernel_rfl
def jm3 (m : (List UInt8) → (List UInt8) → Option Bool) : Ent := q37 [.str, .str] [.bool] fun (x : Els [.str, .str]) => m x.1 x.2.1
def wz7 (N : Nat) : Ent := jm3 (w47 N)
theorem jc8 (N : Nat) : q16 Tryz.prog 93 (wz7 N) := q15 (yc2 N) Tryz.func93 rfl (by kernel_rfl) fun (x : Els [.str, .str]) => y39 N x.1 x.2.1
def v43 : FH := ⟨[], [], [(1, ⟨8, 14, 0, [], []⟩)], [], false, [], []⟩
noncomputable def y10 (N : Nat) : q52 := tab [(93, wz7 N), (90, qd2 N)]
theorem xw0 (N : Nat) : q14 Tryz.prog (y10 N) := q06 (jc8 N) <| q06 (qc3 N) <| q26 _
def zd9 (N : Nat) (l : List q00) : Option q03 :=
 bif inR 0 l.length then
 bif inR 1 l.length then
 (w47 N ((q25 l 0 q32).2.2.1) ((q25 l 1 q32).2.2.1)).bind fun r =>
 (qa0 N r).bind fun r1 =>
 some (r1, 0, ())
 else none
 else none
noncomputable def v01 (N : Nat) (l : List q00) : Option (RT [q08]) := q22 DR Tryz.prog N (y10 N) v43 Tryz.f92 (q10 Tryz.f92) (RT [q08]) (qd6 [(.list q05)] (l, ())) [] (q42 [q08])
theorem x53 (N : Nat) (l : List q00) : v01 N l = zd9 N l := by kernel_rfl
def yw7 (m : (List q00) → Option q03) : Ent := q37 [(.list q05)] [q08] fun (x : Els [(.list q05)]) => m x.1
def j19 (N : Nat) : Ent := yw7 (zd9 N)
theorem yk8 (N : Nat) : q16 Tryz.prog 92 (j19 N) := q15 (xw0 N) Tryz.func92 rfl (by kernel_rfl) fun (x : Els [(.list q05)]) => x53 N x.1
def jv2 : FH := ⟨[], [], [], [], false, [], []⟩
noncomputable def wv0 (N : Nat) : q52 := tab [(159, qd9 N), (76, q97 N), (157, qb8 N), (92, j19 N)]
theorem jl4 (N : Nat) : q14 Tryz.prog (wv0 N) := q06 (qc9 N) <| q06 (q87 N) <| q06 (qb0 N) <| q06 (yk8 N) <| q26 _
def qg9 (N : Nat) (l : List q00) (t1 : Int) : Option q03 :=
 (qb3 N t1 t1 l).bind fun r =>
 bif (!r) then
  (qe0 N 8).bind fun r1 =>
  some r1
 else
  (q86 N l).bind fun r2 =>
  bif r2 then
   some ((0, 0, [], ()), 0, ())
  else
   (zd9 N l).bind fun r3 =>
   some r3
abbrev wm6 : List PK := [.val (.list q05), .ep 1, .val (.int .u8), .ep 1, .fn 92 0]
noncomputable def jr8 (N : Nat) (l : List q00) (t1 : Int) : Option (RT [q08]) := q22 DR Tryz.prog N (wv0 N) jv2 Tryz.f160 (q10 Tryz.f160) (RT [q08]) (qy2 wm6 (l, t1, ())) [] (q42 [q08])
theorem jf0 (N : Nat) (l : List q00) (t1 : Int) : jr8 N l t1 = qg9 N l t1 := by kernel_rfl
def j25 (m : (List q00) → Int → Option q03) : Ent := qf5 wm6 [q08] fun (x : Els [(.list q05), (.int .u8)]) => m x.1 x.2.1
def wg9 (N : Nat) : Ent := j25 (qg9 N)
theorem zu4 (N : Nat) : q16 Tryz.prog 160 (wg9 N) := q55 (jl4 N) Tryz.func160 rfl (by kernel_rfl) (by kernel_rfl) fun (x : Els [(.list q05), (.int .u8)]) => jf0 N x.1 x.2.1
def z76 : LH := ⟨[(2, .asis), (3, .asis), (6, .asis), (7, .own q05 507 26 3), (10, .int .i64), (11, .int .i64)], [], [.cells [.lst q08, .lst .bool], .cells [.int .u8, .int .i64, .str, .int .i64]]⟩
def qv0 : FH := ⟨[z76], [], [], [], false, [], []⟩
noncomputable def we0 (N : Nat) : q52 := tab [(153, q58 N), (160, wg9 N)]
theorem yb6 (N : Nat) : q14 Tryz.prog (we0 N) := q06 (q53 N) <| q06 (zu4 N) <| q26 _
noncomputable def zc1 : Sc := wl4 Tryz.prog qv0
noncomputable def z98 (N : Nat) : Cfg := ⟨N, we0 N, 0⟩
noncomputable def jx5 (N : Nat) : Exit → List TV → List TOb → Option q03 := fin Tryz.prog 0 Tryz.f99.results.toList (q42 [q08])
def w60 (n : Int) (k_l : List q03) (q09 : List Bool) (q04 q19 : Int) (q20 : List UInt8) (q68 t1 : Int) (e : List q00 × Int) : List TV := match e with
 | (l, t11) => frm 30 [(2, .func (.func 160) [.ep [.int .u8 t1] 0, .ep [.func (.func 92) []] 0]), (3, .ref 0 0), (6, .ref 1 0), (7, .tl q05 l (.own 507 26 3)), (10, .int .i64 n), (11, .int .i64 t11)]
def w75 (n : Int) (k_l : List q03) (q09 : List Bool) (q04 q19 : Int) (q20 : List UInt8) (q68 t1 : Int) (e : List q00 × Int) : List TOb := match e with
 | (l, t11) => [.cells [.tl q08 k_l .unk, .tl .bool q09 .unk] 118 true, .cells [.int .u8 q04, .int .i64 q19, .str q20, .int .i64 q68] 115 true]
noncomputable def z96 (N : Nat) : (List TV → List TOb → Option q03) → List TV → List TOb → Option q03 := w57 DR zc1 (z98 N) (ql8 (qc7 (q07 (q92 (q07 (q07 (q10 Tryz.f99))))))) z76 (qv0.loops.drop 1) (qj4 0 (qc5 DR zc1 (z98 N) (q07 (q07 (q07 (q10 Tryz.f99)))) (qv0.loops.drop 1) (jx5 N)))
def w65 (N : Nat) (n : Int) (k_l : List q03) (q09 : List Bool) (q04 q19 : Int) (q20 : List UInt8) (q68 t1 : Int) (K0 : (List q00 × Int) → Option q03) (e : List q00 × Int) : Option q03 :=
 match e with
 | (l, t11) =>
  bif decide (t11 < n) then
   (q64 N (k_l, q09, ()) t11).bind fun r =>
   bif (r.2.1 != 0) then
    some r
   else
    bif qz1 (l.length + ([r.1] : List q00).length) 4398046511104 then
    bif q27 (t11 + 1) then
    K0 ((l ++ ([r.1] : List q00)), t11 + 1)
    else none
    else none
  else
   (qg9 N l t1).bind fun r1 =>
   some r1
theorem yb0 (N : Nat) (n : Int) (k_l : List q03) (q09 : List Bool) (q04 q19 : Int) (q20 : List UInt8) (q68 t1 : Int) (n_ : Nat) (e : List q00 × Int) : q61 (z96 N ) n_ ((w60 n k_l q09 q04 q19 q20 q68 t1) e) ((w75 n k_l q09 q04 q19 q20 q68 t1) e) = q95 (w65 N n k_l q09 q04 q19 q20 q68 t1 ) n_ e :=
 q40 (w60 n k_l q09 q04 q19 q20 q68 t1) (w75 n k_l q09 q04 q19 q20 q68 t1) (by intro K e; obtain ⟨l, t11⟩ := e; kernel_rfl) n_ e
def zk6 (N : Nat) (k : q36) (n t1 : Int) (l1 : Int → (List q03) → (List Bool) → Int → Int → (List UInt8) → Int → Int → (List q00 × Int) → Option q03) : Option q03 :=
 l1 n k.1 k.2.1 0 0 [] 0 t1 ([], 0)
def qt5 (N : Nat) (k : q36) (n t1 : Int) : Option q03 := zk6 N k n t1 (fun n k_l q09 q04 q19 q20 q68 t1 e => q95 (w65 N n k_l q09 q04 q19 q20 q68 t1) N e)
abbrev zb6 : List PK := [.val q72, .val (.int .i64), .fn 160 2, .ep 1, .val (.int .u8), .ep 1, .fn 92 0]
noncomputable def zm3 (N : Nat) (k : q36) (n t1 : Int) : Option (RT [q08]) := q22 DR Tryz.prog N (we0 N) qv0 Tryz.f99 (q10 Tryz.f99) (RT [q08]) (qy2 zb6 (k, n, t1, ())) [] (q42 [q08])
theorem y12 (N : Nat) (k : q36) (n t1 : Int) : zm3 N k n t1 = qt5 N k n t1 := by
 have h : zm3 N k n t1 = zk6 N k n t1 (fun n k_l q09 q04 q19 q20 q68 t1 e => q61 (z96 N ) N (w60 n k_l q09 q04 q19 q20 q68 t1 e) (w75 n k_l q09 q04 q19 q20 q68 t1 e)) := by kernel_rfl
 rw [h]
 simp only [qt5, yb0] <;> rfl
def jk1 (m : q36 → Int → Int → Option q03) : Ent := qf5 zb6 [q08] fun (x : Els [q72, (.int .i64), (.int .u8)]) => m x.1 x.2.1 x.2.2.1
def wv2 (N : Nat) : Ent := jk1 (qt5 N)
theorem jb1 (N : Nat) : q16 Tryz.prog 99 (wv2 N) := q55 (yb6 N) Tryz.func99 rfl (by kernel_rfl) (by kernel_rfl) fun (x : Els [q72, (.int .i64), (.int .u8)]) => y12 N x.1 x.2.1 x.2.2.1
noncomputable def zi8 (N : Nat) : q52 := tab [(99, sel [0, 0, 168, 3, 94] (wx1 N) <| sel [0, 0, 168, 3, 95] (wt8 N) <| sel [0, 0, 168, 3, 96] (wz9 N) <| sel [0, 0, 168, 3, 97] (wy7 N) kb9)]
theorem y84 (N : Nat) : q14 Tryz.prog (zi8 N) := q06 (qe3 (j55 N) <| qe3 (ja6 N) <| qe3 (j82 N) <| qe3 (j72 N) wr8) <| q26 _
noncomputable def wu4 (N : Nat) : Ent := zm5 Tryz.prog N (zi8 N) ⟨[], [], [], [], false, [99], []⟩ Tryz.f83 (q10 Tryz.f83)
theorem jc4 (N : Nat) : q16 Tryz.prog 83 (wu4 N) := qc6 (y84 N) Tryz.func83 rfl (by kernel_rfl)
noncomputable def zr0 (N : Nat) : q52 := tab [(99, sel [0, 0, 170, 3, 0, 3, 99] (wv1 N) <| sel [0, 0, 170, 3, 0, 3, 102] (wv2 N) kb9)]
theorem yg9 (N : Nat) : q14 Tryz.prog (zr0 N) := q06 (qe3 (j52 N) <| qe3 (jb1 N) wr8) <| q26 _
noncomputable def z65 (N : Nat) : Ent := zm5 Tryz.prog N (zr0 N) ⟨[], [], [], [], false, [99], []⟩ Tryz.f88 (q10 Tryz.f88)
theorem jm1 (N : Nat) : q16 Tryz.prog 88 (z65 N) := qc6 (yg9 N) Tryz.func88 rfl (by kernel_rfl)
def ze8 : FH := ⟨[], [], [], [], false, [], [(13, ⟨[(0, .int .u8), (3, .asis), (4, .asis)], [], [.cells [.lst q08, .lst .bool], .cells [.int .u8, .int .i64, .str, .int .i64]]⟩)]⟩
noncomputable def j54 (N : Nat) : q52 := tab [(77, sel [0, 0, 88] (zr7 N) <| sel [0, 0, 89] (z09 N) kb9), (80, ql0 N), (81, j86 N), (83, wu4 N), (88, z65 N), (82, zk2 N)]
theorem vm6 (N : Nat) : q14 Tryz.prog (j54 N) := q06 (qe3 (y90 N) <| qe3 (je4 N) wr8) <| q06 (qp2 N) <| q06 (y13 N) <| q06 (jc4 N) <| q06 (jm1 N) <| q06 (ju3 N) <| q26 _
noncomputable def zu7 : Sc := wl4 Tryz.prog ze8
noncomputable def zt1 (N : Nat) : Cfg := ⟨N, j54 N, 0⟩
noncomputable def v99 (N : Nat) : Exit → List TV → List TOb → Option (q03 × Bool × Unit) := fin Tryz.prog 0 Tryz.f37.results.toList (q42 [q08, .bool])
def ye8 (op : Int) (k_l : List q03) (q09 : List Bool) (e : Unit) : List TV := frm 59 [(0, .int .u8 op), (3, .ref 0 0), (4, .ref 1 0)]
def yf0 (op : Int) (k_l : List q03) (q09 : List Bool) (e : Unit) : List TOb := [.cells [.tl q08 k_l .unk, .tl .bool q09 .unk] 118 true, .cells [.int .u8 0, .int .i64 0, .str [], .int .i64 0] 115 true]
noncomputable def yd6 (N : Nat) : List TV → List TOb → Option (q03 × Bool × Unit) := yz2 DR zu7 (zt1 N) (q92 (yq9 (q07 (zf4 (q07 (zf4 (q07 (zf4 (q07 (qc7 (q07 (q92 (q07 (q10 Tryz.f37)))))))))))))) (qc5 DR zu7 (zt1 N) (q07 (yq9 (q07 (zf4 (q07 (zf4 (q07 (zf4 (q07 (qc7 (q07 (q92 (q07 (q10 Tryz.f37)))))))))))))) (ze8.loops.drop 0) (qj4 0 (qc5 DR zu7 (zt1 N) (q07 (q07 (q10 Tryz.f37))) (ze8.loops.drop 0) (v99 N))))
def wt1 (N : Nat) (op : Int) (k_l : List q03) (q09 : List Bool) (e : Unit) : Option (q03 × Bool × Unit) :=
 (w24 N (k_l, q09, ()) (op == 7)).bind fun r10 =>
 some (r10, true, ())
theorem vq1 (N : Nat) (op : Int) (k_l : List q03) (q09 : List Bool) (e : Unit) : jmp N (yd6 N ) ((ye8 op k_l q09) e) ((yf0 op k_l q09) e) = at1 N (wt1 N op k_l q09 e) := qo8 (by kernel_rfl) N
def jc2 (N : Nat) (op : Int) (k : q36) (l1 : Int → (List q03) → (List Bool) → Unit → Option (q03 × Bool × Unit)) : Option (q03 × Bool × Unit) :=
 bif (op == 5) then
  (wa9 N k 0).bind fun r =>
  some (r, true, ())
 else
  bif (op == 4) then
   (qs8 N k 1).bind fun r1 =>
   some (r1, true, ())
  else
   bif (op == 6) then
    (q88 N k 0).bind fun r2 =>
    bif (r2.2.1 == 0) then
     (zl6 N r2.1).bind fun r3 =>
     some ((r3, r2.2.1, ()), true, ())
    else
     some (r2, true, ())
   else
    bif (op == 7) then
     l1 op k.1 k.2.1 ()
    else
     bif (op == 8) then
      l1 op k.1 k.2.1 ()
     else
      bif (op == 9) then
       (qr1 N k 2).bind fun r4 =>
       some (r4, true, ())
      else
       bif (op == 10) then
        (qr6 N k 2).bind fun r5 =>
        some (r5, true, ())
       else
        bif (op == 11) then
         (qr0 N k 2).bind fun r6 =>
         some (r6, true, ())
        else
         bif (op == 12) then
          (qr2 N k 2).bind fun r7 =>
          some (r7, true, ())
         else
          bif (op == 24) then
           (qs1 N k 2 3).bind fun r8 =>
           some (r8, true, ())
          else
           bif (op == 25) then
            (qt5 N k 2 3).bind fun r9 =>
            some (r9, true, ())
           else
            some (((0, 0, [], ()), 0, ()), false, ())
def we4 (N : Nat) (op : Int) (k : q36) : Option (q03 × Bool × Unit) := jc2 N op k (fun op k_l q09 e => at1 N (wt1 N op k_l q09 e))
noncomputable def yv6 (N : Nat) (op : Int) (k : q36) : Option (RT [q08, .bool]) := q22 DR Tryz.prog N (j54 N) ze8 Tryz.f37 (q10 Tryz.f37) (RT [q08, .bool]) (qd6 [(.int .u8), q72] (op, k, ())) [] (q42 [q08, .bool])
theorem vb5 (N : Nat) (op : Int) (k : q36) : yv6 N op k = we4 N op k := by
 have h : yv6 N op k = jc2 N op k (fun op k_l q09 e => jmp N (yd6 N ) (ye8 op k_l q09 e) (yf0 op k_l q09 e)) := by kernel_rfl
 rw [h]
 simp only [we4, vq1] <;> rfl
def xr9 (m : Int → q36 → Option (q03 × Bool × Unit)) : Ent := q37 [(.int .u8), q72] [q08, .bool] fun (x : Els [(.int .u8), q72]) => m x.1 x.2.1
def y44 (N : Nat) : Ent := xr9 (we4 N)
theorem x67 (N : Nat) : q16 Tryz.prog 37 (y44 N) := q15 (vm6 N) Tryz.func37 rfl (by kernel_rfl) fun (x : Els [(.int .u8), q72]) => vb5 N x.1 x.2.1
def ks9 : FH := ⟨[], [], [], [], true, [], []⟩
noncomputable def vt3 (N : Nat) : q52 := tab []
theorem k28 (N : Nat) : q14 Tryz.prog (vt3 N) := q26 _
def w50 (N : Nat) (n : Int) : Option Int :=
 bif decide (n < 0) then
  some (IntKind.u64.wrap (0 - (IntKind.u64.wrap n)))
 else
  some (IntKind.u64.wrap n)
noncomputable def kt1 (N : Nat) (n : Int) : Option (RT [(.int .u64)]) := q22 DR Tryz.prog N (vt3 N) ks9 Tryz.f220 (q10 Tryz.f220) (RT [(.int .u64)]) (qd6 [(.int .i64)] (n, ())) [] (q42 [(.int .u64)])
theorem uo6 (N : Nat) (n : Int) : kt1 N n = w50 N n := by kernel_rfl
def u90 (m : Int → Option Int) : Ent := q37 [(.int .i64)] [(.int .u64)] fun (x : Els [(.int .i64)]) => m x.1
def wv5 (N : Nat) : Ent := u90 (w50 N)
theorem ws1 (N : Nat) : q16 Tryz.prog 220 (wv5 N) := q15 (k28 N) Tryz.func220 rfl (by kernel_rfl) fun (x : Els [(.int .i64)]) => uo6 N x.1
def up1 : FH := ⟨[], [], [], [], true, [], []⟩
noncomputable def xo8 (N : Nat) : q52 := tab []
theorem uc2 (N : Nat) : q14 Tryz.prog (xo8 N) := q26 _
def qj9 (N : Nat) (neg : Bool) (hi lo : Int) : Option (Int × Int × Unit) :=
 bif decide (hi > 0) then
  some (0, 9, ())
 else
  bif decide (lo > 9223372036854775808) then
   some (0, 9, ())
  else
   bif (lo == 9223372036854775808) then
    bif (!neg) then
     some (0, 9, ())
    else
     bif neg then
      some ((IntKind.i64.wrap (0 - (IntKind.i64.wrap lo))), 0, ())
     else
      some ((IntKind.i64.wrap lo), 0, ())
   else
    bif neg then
     some ((IntKind.i64.wrap (0 - (IntKind.i64.wrap lo))), 0, ())
    else
     some ((IntKind.i64.wrap lo), 0, ())
noncomputable def us2 (N : Nat) (neg : Bool) (hi lo : Int) : Option (RT [(.int .i64), (.int .i64)]) := q22 DR Tryz.prog N (xo8 N) up1 Tryz.f221 (q10 Tryz.f221) (RT [(.int .i64), (.int .i64)]) (qd6 [.bool, (.int .u64), (.int .u64)] (neg, hi, lo, ())) [] (q42 [(.int .i64), (.int .i64)])
theorem vr0 (N : Nat) (neg : Bool) (hi lo : Int) : us2 N neg hi lo = qj9 N neg hi lo := by kernel_rfl
def vg5 (m : Bool → Int → Int → Option (Int × Int × Unit)) : Ent := q37 [.bool, (.int .u64), (.int .u64)] [(.int .i64), (.int .i64)] fun (x : Els [.bool, (.int .u64), (.int .u64)]) => m x.1 x.2.1 x.2.2.1
def wa6 (N : Nat) : Ent := vg5 (qj9 N)
theorem wb8 (N : Nat) : q16 Tryz.prog 221 (wa6 N) := q15 (uc2 N) Tryz.func221 rfl (by kernel_rfl) fun (x : Els [.bool, (.int .u64), (.int .u64)]) => vr0 N x.1 x.2.1 x.2.2.1
def num_Mul_H : FH := ⟨[], [], [], [], false, [], []⟩
noncomputable def um8 (N : Nat) : q52 := tab [(220, wv5 N), (219, ws9 N), (221, wa6 N)]
theorem ko8 (N : Nat) : q14 Tryz.prog (um8 N) := q06 (ws1 N) <| q06 (z25 N) <| q06 (wb8 N) <| q26 _
def yj7 (N : Nat) (a b : Int) : Option (Int × Int × Unit) :=
 (w50 N a).bind fun r =>
 (w50 N b).bind fun r1 =>
 (qx7 N r r1).bind fun r2 =>
 (qj9 N (!((decide (a < 0)) == (decide (b < 0)))) r2.1 r2.2.1).bind fun r3 =>
 some r3
noncomputable def num_Mul_C (N : Nat) (a b : Int) : Option (RT [(.int .i64), (.int .i64)]) := q22 DR Tryz.prog N (um8 N) num_Mul_H Tryz.f167 (q10 Tryz.f167) (RT [(.int .i64), (.int .i64)]) (qd6 [(.int .i64), (.int .i64)] (a, b, ())) [] (q42 [(.int .i64), (.int .i64)])
theorem k77 (N : Nat) (a b : Int) : num_Mul_C N a b = yj7 N a b := by kernel_rfl
def us3 (m : Int → Int → Option (Int × Int × Unit)) : Ent := q37 [(.int .i64), (.int .i64)] [(.int .i64), (.int .i64)] fun (x : Els [(.int .i64), (.int .i64)]) => m x.1 x.2.1
def yg5 (N : Nat) : Ent := us3 (yj7 N)
theorem yw5 (N : Nat) : q16 Tryz.prog 167 (yg5 N) := q15 (ko8 N) Tryz.func167 rfl (by kernel_rfl) fun (x : Els [(.int .i64), (.int .i64)]) => k77 N x.1 x.2.1
def k26 : FH := ⟨[], [], [], [], false, [], []⟩
noncomputable def v37 (N : Nat) : q52 := tab [(167, yg5 N)]
theorem uy5 (N : Nat) : q14 Tryz.prog (v37 N) := q06 (yw5 N) <| q26 _
def y06 (N : Nat) (a : Int) : Option (Int × Int × Unit) :=
 (yj7 N a 10000).bind fun r =>
 some r
noncomputable def uz4 (N : Nat) (a : Int) : Option (RT [(.int .i64), (.int .i64)]) := q22 DR Tryz.prog N (v37 N) k26 Tryz.f283 (q10 Tryz.f283) (RT [(.int .i64), (.int .i64)]) (qd6 [(.int .i64)] (a, ())) [] (q42 [(.int .i64), (.int .i64)])
theorem u63 (N : Nat) (a : Int) : uz4 N a = y06 N a := by kernel_rfl
def vp3 (m : Int → Option (Int × Int × Unit)) : Ent := q37 [(.int .i64)] [(.int .i64), (.int .i64)] fun (x : Els [(.int .i64)]) => m x.1
def yr6 (N : Nat) : Ent := vp3 (y06 N)
theorem v34 (N : Nat) : q16 Tryz.prog 283 (yr6 N) := q15 (uy5 N) Tryz.func283 rfl (by kernel_rfl) fun (x : Els [(.int .i64)]) => u63 N x.1
def k20 : FH := ⟨[], [], [], [], false, [], []⟩
noncomputable def v81 (N : Nat) : q52 := tab [(283, yr6 N)]
theorem uv7 (N : Nat) : q14 Tryz.prog (v81 N) := q06 (v34 N) <| q26 _
def wa8 (N : Nat) (v : q00) : Option OX3 :=
 bif (v.1 == 2) then
  some (v, 0, ())
 else
  (y06 N v.2.1).bind fun r =>
  bif (r.2.1 != 0) then
   some ((0, 0, [], ()), r.2.1, ())
  else
   some ((2, r.1, [], ()), 0, ())
noncomputable def k97 (N : Nat) (v : q00) : Option (RT [q05, (.int .i64)]) := q22 DR Tryz.prog N (v81 N) k20 Tryz.f257 (q10 Tryz.f257) (RT [q05, (.int .i64)]) (qd6 [q05] (v, ())) [] (q42 [q05, (.int .i64)])
theorem u85 (N : Nat) (v : q00) : k97 N v = wa8 N v := by kernel_rfl
def vm3 (m : q00 → Option OX3) : Ent := q37 [q05] [q05, (.int .i64)] fun (x : Els [q05]) => m x.1
def yx1 (N : Nat) : Ent := vm3 (wa8 N)
theorem v00 (N : Nat) : q16 Tryz.prog 257 (yx1 N) := q15 (uv7 N) Tryz.func257 rfl (by kernel_rfl) fun (x : Els [q05]) => u85 N x.1
def ye6 : LH := ⟨[(0, .lst q05), (2, .own q05 502 26 3), (3, .bool), (5, .int .u8), (10, .lst q05), (11, .int .i64), (12, .int .i64)], [], []⟩
def yd2 : LH := ⟨[(2, .own q05 502 26 3), (5, .int .u8), (36, .lst q05), (37, .int .i64), (38, .int .i64)], [], []⟩
def w39 : FH := ⟨[ye6, yd2], [], [], [], false, [], []⟩
noncomputable def je8 (N : Nat) : q52 := tab [(211, wi4 N), (257, yx1 N)]
theorem vr4 (N : Nat) : q14 Tryz.prog (je8 N) := q06 (z91 N) <| q06 (v00 N) <| q26 _
noncomputable def ws6 : Sc := wl4 Tryz.prog w39
noncomputable def ws8 (N : Nat) : Cfg := ⟨N, je8 N, 0⟩
noncomputable def jw1 (N : Nat) : Exit → List TV → List TOb → Option OX7 := fin Tryz.prog 0 Tryz.f217.results.toList (q42 [(.list q05), .bool, (.int .i64)])
def wb2 (l out : List q00) (t11 : Int) (e : Bool × Int × Int) : List TV := match e with
 | (null, kind, t12) => frm 61 [(0, .tl q05 l .unk), (2, .tl q05 out (.own 502 26 3)), (3, .bool null), (5, .int .u8 kind), (10, .tl q05 l .unk), (11, .int .i64 t11), (12, .int .i64 t12)]
def wb0 (l out : List q00) (t11 : Int) (e : Bool × Int × Int) : List TOb := match e with
 | (null, kind, t12) => []
def zs2 (kind : Int) (l : List q00) (t37 : Int) (e : List q00 × Int) : List TV := match e with
 | (out1, t38) => frm 61 [(2, .tl q05 out1 (.own 502 26 3)), (5, .int .u8 kind), (36, .tl q05 l .unk), (37, .int .i64 t37), (38, .int .i64 t38)]
def zt3 (kind : Int) (l : List q00) (t37 : Int) (e : List q00 × Int) : List TOb := match e with
 | (out1, t38) => []
noncomputable def yg3 (N : Nat) : (List TV → List TOb → Option OX7) → List TV → List TOb → Option OX7 := w57 DR ws6 (ws8 N) (ql8 (qc7 (q07 (q92 (q07 (q07 (q07 (q07 (q10 Tryz.f217))))))))) yd2 (w39.loops.drop 2) (qj4 2 (qc5 DR ws6 (ws8 N) (q07 (q07 (q07 (q07 (q07 (q10 Tryz.f217)))))) (w39.loops.drop 2) (jw1 N)))
def qp3 (N : Nat) (kind : Int) (l : List q00) (t37 : Int) (K1 : (List q00 × Int) → Option OX7) (e : List q00 × Int) : Option OX7 :=
 match e with
 | (out1, t38) =>
  bif decide (t38 < t37) then
   bif inR t38 l.length then
   bif (kind == 2) then
    (wa8 N (q25 l t38 q32)).bind fun r1 =>
    bif (r1.2.1 != 0) then
     some ([], false, r1.2.1, ())
    else
     bif qz1 (out1.length + ([(kind, r1.1.2.1, [], ())] : List q00).length) 4398046511104 then
     bif q27 (t38 + 1) then
     K1 ((out1 ++ ([(kind, r1.1.2.1, [], ())] : List q00)), t38 + 1)
     else none
     else none
   else
    bif qz1 (out1.length + ([(kind, (q25 l t38 q32).2.1, [], ())] : List q00).length) 4398046511104 then
    bif q27 (t38 + 1) then
    K1 ((out1 ++ ([(kind, (q25 l t38 q32).2.1, [], ())] : List q00)), t38 + 1)
    else none
    else none
   else none
  else
   some (out1, false, 0, ())
theorem vp0 (N : Nat) (kind : Int) (l : List q00) (t37 : Int) (n_ : Nat) (e : List q00 × Int) : q61 (yg3 N ) n_ ((zs2 kind l t37) e) ((zt3 kind l t37) e) = q95 (qp3 N kind l t37 ) n_ e :=
 q40 (zs2 kind l t37) (zt3 kind l t37) (by intro K e; obtain ⟨out1, t38⟩ := e; kernel_rfl) n_ e
noncomputable def zv0 (N : Nat) : (List TV → List TOb → Option OX7) → List TV → List TOb → Option OX7 := w57 DR ws6 (ws8 N) (ql8 (qc7 (q07 (q92 (q07 (q07 (q10 Tryz.f217))))))) ye6 (w39.loops.drop 1) (qj4 0 (qc5 DR ws6 (ws8 N) (q07 (q07 (q07 (q10 Tryz.f217)))) (w39.loops.drop 1) (jw1 N)))
def qa1 (N : Nat) (l out : List q00) (t11 : Int) (l2 : Int → (List q00) → Int → (List q00 × Int) → Option OX7) (K0 : (Bool × Int × Int) → Option OX7) (e : Bool × Int × Int) : Option OX7 :=
 match e with
 | (null, kind, t12) =>
  bif decide (t12 < t11) then
   bif inR t12 l.length then
   (q77 N (q25 l t12 q32)).bind fun r =>
   bif (!r) then
    bif (((q25 l t12 q32).1) != 0) then
     some ([], false, 8, ())
    else
     bif null then
      bif q27 (t12 + 1) then
      K0 (true, (vk4 kind ((q25 l t12 q32).1)), t12 + 1)
      else none
     else
      bif q27 (t12 + 1) then
      K0 ((((q25 l t12 q32).1) == 0), (vk4 kind ((q25 l t12 q32).1)), t12 + 1)
      else none
   else
    bif null then
     bif q27 (t12 + 1) then
     K0 (true, (vk4 kind ((q25 l t12 q32).1)), t12 + 1)
     else none
    else
     bif q27 (t12 + 1) then
     K0 ((((q25 l t12 q32).1) == 0), (vk4 kind ((q25 l t12 q32).1)), t12 + 1)
     else none
   else none
  else
   bif null then
    some ([], true, 0, ())
   else
    l2 kind l (l.length : Int) (out, 0)
def qa4 (N : Nat) (l out : List q00) (t11 : Int) (K0 : (Bool × Int × Int) → Option OX7) (e : Bool × Int × Int) : Option OX7 := qa1 N l out t11 (fun kind l t37 e => q95 (qp3 N kind l t37) N e) K0 e
theorem vq9 (N : Nat) (l out : List q00) (t11 : Int) (n_ : Nat) (e : Bool × Int × Int) : q61 (zv0 N ) n_ ((wb2 l out t11) e) ((wb0 l out t11) e) = q95 (qa4 N l out t11 ) n_ e :=
 q40 (wb2 l out t11) (wb0 l out t11) (by
  intro K e
  have h : (zv0 N ) K ((wb2 l out t11) e) ((wb0 l out t11) e) = qa1 N l out t11 (fun kind l t37 e => q61 (yg3 N ) N (zs2 kind l t37 e) (zt3 kind l t37 e)) (fun e => K ((wb2 l out t11) e) ((wb0 l out t11) e)) e := by obtain ⟨null, kind, t12⟩ := e; kernel_rfl
  rw [h]
  simp only [qa4, vp0] <;> rfl) n_ e
def qo3 (N : Nat) (l : List q00) (l1 : (List q00) → (List q00) → Int → (Bool × Int × Int) → Option OX7) : Option OX7 :=
 l1 l [] (l.length : Int) (false, 1, 0)
def qa2 (N : Nat) (l : List q00) : Option OX7 := qo3 N l (fun l out t11 e => q95 (qa4 N l out t11) N e)
noncomputable def yx8 (N : Nat) (l : List q00) : Option (RT [(.list q05), .bool, (.int .i64)]) := q22 DR Tryz.prog N (je8 N) w39 Tryz.f217 (q10 Tryz.f217) (RT [(.list q05), .bool, (.int .i64)]) (qd6 [(.list q05)] (l, ())) [] (q42 [(.list q05), .bool, (.int .i64)])
theorem ve4 (N : Nat) (l : List q00) : yx8 N l = qa2 N l := by
 have h : yx8 N l = qo3 N l (fun l out t11 e => q61 (zv0 N ) N (wb2 l out t11 e) (wb0 l out t11 e)) := by kernel_rfl
 rw [h]
 simp only [qa2, vq9] <;> rfl
def xt7 (m : (List q00) → Option OX7) : Ent := q37 [(.list q05)] [(.list q05), .bool, (.int .i64)] fun (x : Els [(.list q05)]) => m x.1
def qs2 (N : Nat) : Ent := xt7 (qa2 N)
theorem qs4 (N : Nat) : q16 Tryz.prog 217 (qs2 N) := q15 (vr4 N) Tryz.func217 rfl (by kernel_rfl) fun (x : Els [(.list q05)]) => ve4 N x.1
def num_Add_H : FH := ⟨[], [], [], [], true, [], []⟩
noncomputable def ui7 (N : Nat) : q52 := tab []
theorem ko9 (N : Nat) : q14 Tryz.prog (ui7 N) := q26 _
def jo1 (N : Nat) (a b : Int) : Option (Int × Int × Unit) :=
 bif ((decide (a < 0)) == (decide (b < 0))) then
  bif (!((decide ((IntKind.i64.wrap (a + b)) < 0)) == (decide (a < 0)))) then
   some (0, 9, ())
  else
   some ((IntKind.i64.wrap (a + b)), 0, ())
 else
  some ((IntKind.i64.wrap (a + b)), 0, ())
noncomputable def num_Add_C (N : Nat) (a b : Int) : Option (RT [(.int .i64), (.int .i64)]) := q22 DR Tryz.prog N (ui7 N) num_Add_H Tryz.f165 (q10 Tryz.f165) (RT [(.int .i64), (.int .i64)]) (qd6 [(.int .i64), (.int .i64)] (a, b, ())) [] (q42 [(.int .i64), (.int .i64)])
theorem uz5 (N : Nat) (a b : Int) : num_Add_C N a b = jo1 N a b := by kernel_rfl
def uq0 (m : Int → Int → Option (Int × Int × Unit)) : Ent := q37 [(.int .i64), (.int .i64)] [(.int .i64), (.int .i64)] fun (x : Els [(.int .i64), (.int .i64)]) => m x.1 x.2.1
def ve9 (N : Nat) : Ent := uq0 (jo1 N)
theorem u24 (N : Nat) : q16 Tryz.prog 165 (ve9 N) := q15 (ko9 N) Tryz.func165 rfl (by kernel_rfl) fun (x : Els [(.int .i64), (.int .i64)]) => uz5 N x.1 x.2.1
noncomputable def yd9 (N : Nat) : q52 := tab []
theorem vd9 (N : Nat) : q14 Tryz.prog (yd9 N) := q26 _
noncomputable def qx0 (N : Nat) : Ent := zm5 Tryz.prog N (yd9 N) ⟨[], [], [], [], false, [], []⟩ Tryz.f218 (q10 Tryz.f218)
theorem qy8 (N : Nat) : q16 Tryz.prog 218 (qx0 N) := qc6 (vd9 N) Tryz.func218 rfl (by kernel_rfl)
def ks7 : FH := ⟨[], [], [(8, ⟨16, 54, 0, [], []⟩)], [], false, [], []⟩
noncomputable def vs8 (N : Nat) : q52 := tab [(217, qs2 N), (165, ve9 N), (218, qx0 N)]
theorem ka9 (N : Nat) : q14 Tryz.prog (vs8 N) := q06 (qs4 N) <| q06 (u24 N) <| q06 (qy8 N) <| q26 _
def ue4 (N : Nat) (a b : q00) : Option OX3 :=
 (qa2 N ([a, b] : List q00)).bind fun r =>
 bif r.2.1 then
  some ((0, 0, [], ()), r.2.2.1, ())
 else
  bif (r.2.2.1 != 0) then
   some ((0, 0, [], ()), r.2.2.1, ())
  else
   bif inR 0 r.1.length then
   bif (((q25 r.1 0 q32).1) == 2) then
    bif inR 0 r.1.length then
    bif inR 1 r.1.length then
    (jo1 N ((q25 r.1 0 q32).2.1) ((q25 r.1 1 q32).2.1)).bind fun r1 =>
    bif (r1.2.1 != 0) then
     some ((0, 0, [], ()), r1.2.1, ())
    else
     bif inR 0 r.1.length then
     some (((q25 r.1 0 q32).1, r1.1, [], ()), 0, ())
     else none
    else none
    else none
   else
    bif inR 0 r.1.length then
    bif inR 1 r.1.length then
    (jo1 N ((q25 r.1 0 q32).2.1) ((q25 r.1 1 q32).2.1)).bind fun r2 =>
    bif (r2.2.1 != 0) then
     some ((0, 0, [], ()), r2.2.1, ())
    else
     bif inR 0 r.1.length then
     some (((q25 r.1 0 q32).1, r2.1, [], ()), 0, ())
     else none
    else none
    else none
   else none
abbrev v58 : List PK := [.val q05, .val q05, .fn 165 0, .fn 165 0]
noncomputable def ks0 (N : Nat) (a b : q00) : Option (RT [q05, (.int .i64)]) := q22 DR Tryz.prog N (vs8 N) ks7 Tryz.f164 (q10 Tryz.f164) (RT [q05, (.int .i64)]) (qy2 v58 (a, b, ())) [] (q42 [q05, (.int .i64)])
theorem ul0 (N : Nat) (a b : q00) : ks0 N a b = ue4 N a b := by kernel_rfl
def uf8 (m : q00 → q00 → Option OX3) : Ent := qf5 v58 [q05, (.int .i64)] fun (x : Els [q05, q05]) => m x.1 x.2.1
def xk5 (N : Nat) : Ent := uf8 (ue4 N)
theorem vn9 (N : Nat) : q16 Tryz.prog 164 (xk5 N) := q55 (ka9 N) Tryz.func164 rfl (by kernel_rfl) (by kernel_rfl) fun (x : Els [q05, q05]) => ul0 N x.1 x.2.1
end Go.Proofs.YtgicljncknbgcaaGreat.Abs
