/- The functions of the program, told on typed values, printed by a program: each tells what the reckoning of its body tells. -/
import Derived.Test.YtgicljncknbgcaaGreatL7
import Derived.Test.YtgicljncknbgcaaGreatG5
import Derived.Test.YtgicljncknbgcaaGreatLA
import Derived.Test.YtgicljncknbgcaaGreatProg
set_option linter.unusedVariables false
set_option linter.unusedSimpArgs false
set_option linter.unusedSectionVars false
namespace Go.Proofs.YtgicljncknbgcaaGreat.Abs
set_option maxRecDepth 100000
open Go Go.Proofs
def k37 : FH := ⟨[], [], [], [], false, [], []⟩
noncomputable def xy6 (N : Nat) : q52 := tab [(164, xk5 N)]
theorem ux0 (N : Nat) : q14 Tryz.prog (xy6 N) := q06 (vn9 N) <| q26 _
def j32 (N : Nat) (a b : q00) : Option OX3 :=
 (ue4 N a b).bind fun r =>
 some r
noncomputable def k07 (N : Nat) (a b : q00) : Option (RT [q05, (.int .i64)]) := q22 DR Tryz.prog N (xy6 N) k37 Tryz.f95 (q10 Tryz.f95) (RT [q05, (.int .i64)]) (qd6 [q05, q05] (a, b, ())) [] (q42 [q05, (.int .i64)])
theorem ub5 (N : Nat) (a b : q00) : k07 N a b = j32 N a b := by kernel_rfl
def vl4 (m : q00 → q00 → Option OX3) : Ent := q37 [q05, q05] [q05, (.int .i64)] fun (x : Els [q05, q05]) => m x.1 x.2.1
def yz3 (N : Nat) : Ent := vl4 (j32 N)
theorem v88 (N : Nat) : q16 Tryz.prog 95 (yz3 N) := q15 (ux0 N) Tryz.func95 rfl (by kernel_rfl) fun (x : Els [q05, q05]) => ub5 N x.1 x.2.1
def k02 : FH := ⟨[], [], [], [], false, [], []⟩
noncomputable def v48 (N : Nat) : q52 := tab []
theorem uh6 (N : Nat) : q14 Tryz.prog (v48 N) := q26 _
def qd1 (N : Nat) (v : q00) (e_ : Int) : Option q03 :=
 bif (e_ != 0) then
  some ((0, 0, [], ()), e_, ())
 else
  some (v, 0, ())
noncomputable def k70 (N : Nat) (v : q00) (e_ : Int) : Option (RT [q08]) := q22 DR Tryz.prog N (v48 N) k02 Tryz.f101 (q10 Tryz.f101) (RT [q08]) (qd6 [q05, (.int .i64)] (v, e_, ())) [] (q42 [q08])
theorem u13 (N : Nat) (v : q00) (e_ : Int) : k70 N v e_ = qd1 N v e_ := by kernel_rfl
def vm0 (m : q00 → Int → Option q03) : Ent := q37 [q05, (.int .i64)] [q08] fun (x : Els [q05, (.int .i64)]) => m x.1 x.2.1
def qh2 (N : Nat) : Ent := vm0 (qd1 N)
theorem qe5 (N : Nat) : q16 Tryz.prog 101 (qh2 N) := q15 (uh6 N) Tryz.func101 rfl (by kernel_rfl) fun (x : Els [q05, (.int .i64)]) => u13 N x.1 x.2.1
noncomputable def zl7 (N : Nat) : q52 := tab [(95, yz3 N), (101, qh2 N)]
theorem ya3 (N : Nat) : q14 Tryz.prog (zl7 N) := q06 (v88 N) <| q06 (qe5 N) <| q26 _
noncomputable def z03 (N : Nat) : Ent := zm5 Tryz.prog N (zl7 N) ⟨[], [], [(1, ⟨10, 15, 0, [], []⟩)], [], false, [], []⟩ Tryz.f163 (q10 Tryz.f163)
theorem j59 (N : Nat) : q16 Tryz.prog 163 (z03 N) := qc6 (ya3 N) Tryz.func163 rfl (by kernel_rfl)
def z81 : LH := ⟨[(2, .asis), (3, .asis), (6, .asis), (7, .own q05 507 26 3), (10, .int .i64), (11, .int .i64)], [], [.cells [.lst q08, .lst .bool], .cells [.int .u8, .int .i64, .str, .int .i64]]⟩
def qu2 : FH := ⟨[z81], [], [], [], false, [], []⟩
noncomputable def wd1 (N : Nat) : q52 := tab [(153, q58 N), (163, z03 N)]
theorem y98 (N : Nat) : q14 Tryz.prog (wd1 N) := q06 (q53 N) <| q06 (j59 N) <| q26 _
noncomputable def z57 : Sc := wl4 Tryz.prog qu2
noncomputable def zd4 (N : Nat) : Cfg := ⟨N, wd1 N, 0⟩
noncomputable def jv8 (N : Nat) : Exit → List TV → List TOb → Option q03 := fin Tryz.prog 0 Tryz.f99.results.toList (q42 [q08])
def w62 (n : Int) (k_l : List q03) (q09 : List Bool) (q04 q19 : Int) (q20 : List UInt8) (q68 : Int) (e : List q00 × Int) : List TV := match e with
 | (l, t11) => frm 30 [(2, .func (.func 163) [.ep [.func (.func 95) []] 0]), (3, .ref 0 0), (6, .ref 1 0), (7, .tl q05 l (.own 507 26 3)), (10, .int .i64 n), (11, .int .i64 t11)]
def w61 (n : Int) (k_l : List q03) (q09 : List Bool) (q04 q19 : Int) (q20 : List UInt8) (q68 : Int) (e : List q00 × Int) : List TOb := match e with
 | (l, t11) => [.cells [.tl q08 k_l .unk, .tl .bool q09 .unk] 118 true, .cells [.int .u8 q04, .int .i64 q19, .str q20, .int .i64 q68] 115 true]
noncomputable def z62 (N : Nat) : (List TV → List TOb → Option q03) → List TV → List TOb → Option q03 := w57 DR z57 (zd4 N) (ql8 (qc7 (q07 (q92 (q07 (q07 (q10 Tryz.f99))))))) z81 (qu2.loops.drop 1) (qj4 0 (qc5 DR z57 (zd4 N) (q07 (q07 (q07 (q10 Tryz.f99)))) (qu2.loops.drop 1) (jv8 N)))
def w99 (N : Nat) (n : Int) (k_l : List q03) (q09 : List Bool) (q04 q19 : Int) (q20 : List UInt8) (q68 : Int) (K0 : (List q00 × Int) → Option q03) (e : List q00 × Int) : Option q03 :=
 match e with
 | (l, t11) =>
  bif decide (t11 < n) then
   (q64 N (k_l, q09, ()) t11).bind fun r =>
   bif (r.2.1 != 0) then
    some r
   else
    bif qz1 (l.length + ([r.1] : List q00).length) 4398046511104 then
    bif q27 (t11 + 1) then
    K0 ((l ++ ([r.1] : List q00)), t11 + 1)
    else none
    else none
  else
   bif inR 0 l.length then
   bif inR 1 l.length then
   (j32 N (q25 l 0 q32) (q25 l 1 q32)).bind fun r1 =>
   (qd1 N r1.1 r1.2.1).bind fun r2 =>
   some r2
   else none
   else none
theorem yc1 (N : Nat) (n : Int) (k_l : List q03) (q09 : List Bool) (q04 q19 : Int) (q20 : List UInt8) (q68 : Int) (n_ : Nat) (e : List q00 × Int) : q61 (z62 N ) n_ ((w62 n k_l q09 q04 q19 q20 q68) e) ((w61 n k_l q09 q04 q19 q20 q68) e) = q95 (w99 N n k_l q09 q04 q19 q20 q68 ) n_ e :=
 q40 (w62 n k_l q09 q04 q19 q20 q68) (w61 n k_l q09 q04 q19 q20 q68) (by intro K e; obtain ⟨l, t11⟩ := e; kernel_rfl) n_ e
def zj2 (N : Nat) (k : q36) (n : Int) (l1 : Int → (List q03) → (List Bool) → Int → Int → (List UInt8) → Int → (List q00 × Int) → Option q03) : Option q03 :=
 l1 n k.1 k.2.1 0 0 [] 0 ([], 0)
def qr9 (N : Nat) (k : q36) (n : Int) : Option q03 := zj2 N k n (fun n k_l q09 q04 q19 q20 q68 e => q95 (w99 N n k_l q09 q04 q19 q20 q68) N e)
abbrev z63 : List PK := [.val q72, .val (.int .i64), .fn 163 1, .ep 1, .fn 95 0]
noncomputable def zk4 (N : Nat) (k : q36) (n : Int) : Option (RT [q08]) := q22 DR Tryz.prog N (wd1 N) qu2 Tryz.f99 (q10 Tryz.f99) (RT [q08]) (qy2 z63 (k, n, ())) [] (q42 [q08])
theorem jo6 (N : Nat) (k : q36) (n : Int) : zk4 N k n = qr9 N k n := by
 have h : zk4 N k n = zj2 N k n (fun n k_l q09 q04 q19 q20 q68 e => q61 (z62 N ) N (w62 n k_l q09 q04 q19 q20 q68 e) (w61 n k_l q09 q04 q19 q20 q68 e)) := by kernel_rfl
 rw [h]
 simp only [qr9, yc1] <;> rfl
def jn0 (m : q36 → Int → Option q03) : Ent := qf5 z63 [q08] fun (x : Els [q72, (.int .i64)]) => m x.1 x.2.1
def wt5 (N : Nat) : Ent := jn0 (qr9 N)
theorem j67 (N : Nat) : q16 Tryz.prog 99 (wt5 N) := q55 (y98 N) Tryz.func99 rfl (by kernel_rfl) (by kernel_rfl) fun (x : Els [q72, (.int .i64)]) => jo6 N x.1 x.2.1
def num_Sub_H : FH := ⟨[], [], [], [], true, [], []⟩
noncomputable def uo4 (N : Nat) : q52 := tab []
theorem kn5 (N : Nat) : q14 Tryz.prog (uo4 N) := q26 _
def js1 (N : Nat) (a b : Int) : Option (Int × Int × Unit) :=
 bif (!((decide (a < 0)) == (decide (b < 0)))) then
  bif (!((decide ((IntKind.i64.wrap (a - b)) < 0)) == (decide (a < 0)))) then
   some (0, 9, ())
  else
   some ((IntKind.i64.wrap (a - b)), 0, ())
 else
  some ((IntKind.i64.wrap (a - b)), 0, ())
noncomputable def num_Sub_C (N : Nat) (a b : Int) : Option (RT [(.int .i64), (.int .i64)]) := q22 DR Tryz.prog N (uo4 N) num_Sub_H Tryz.f166 (q10 Tryz.f166) (RT [(.int .i64), (.int .i64)]) (qd6 [(.int .i64), (.int .i64)] (a, b, ())) [] (q42 [(.int .i64), (.int .i64)])
theorem k80 (N : Nat) (a b : Int) : num_Sub_C N a b = js1 N a b := by kernel_rfl
def ui4 (m : Int → Int → Option (Int × Int × Unit)) : Ent := q37 [(.int .i64), (.int .i64)] [(.int .i64), (.int .i64)] fun (x : Els [(.int .i64), (.int .i64)]) => m x.1 x.2.1
def v20 (N : Nat) : Ent := ui4 (js1 N)
theorem ug3 (N : Nat) : q16 Tryz.prog 166 (v20 N) := q15 (kn5 N) Tryz.func166 rfl (by kernel_rfl) fun (x : Els [(.int .i64), (.int .i64)]) => k80 N x.1 x.2.1
def u41 : FH := ⟨[], [], [(8, ⟨16, 54, 0, [], []⟩)], [], false, [], []⟩
noncomputable def yv4 (N : Nat) : q52 := tab [(217, qs2 N), (166, v20 N), (218, qx0 N)]
theorem vp1 (N : Nat) : q14 Tryz.prog (yv4 N) := q06 (qs4 N) <| q06 (ug3 N) <| q06 (qy8 N) <| q26 _
def yo4 (N : Nat) (a b : q00) : Option OX3 :=
 (qa2 N ([a, b] : List q00)).bind fun r =>
 bif r.2.1 then
  some ((0, 0, [], ()), r.2.2.1, ())
 else
  bif (r.2.2.1 != 0) then
   some ((0, 0, [], ()), r.2.2.1, ())
  else
   bif inR 0 r.1.length then
   bif (((q25 r.1 0 q32).1) == 2) then
    bif inR 0 r.1.length then
    bif inR 1 r.1.length then
    (js1 N ((q25 r.1 0 q32).2.1) ((q25 r.1 1 q32).2.1)).bind fun r1 =>
    bif (r1.2.1 != 0) then
     some ((0, 0, [], ()), r1.2.1, ())
    else
     bif inR 0 r.1.length then
     some (((q25 r.1 0 q32).1, r1.1, [], ()), 0, ())
     else none
    else none
    else none
   else
    bif inR 0 r.1.length then
    bif inR 1 r.1.length then
    (js1 N ((q25 r.1 0 q32).2.1) ((q25 r.1 1 q32).2.1)).bind fun r2 =>
    bif (r2.2.1 != 0) then
     some ((0, 0, [], ()), r2.2.1, ())
    else
     bif inR 0 r.1.length then
     some (((q25 r.1 0 q32).1, r2.1, [], ()), 0, ())
     else none
    else none
    else none
   else none
abbrev yf3 : List PK := [.val q05, .val q05, .fn 166 0, .fn 166 0]
noncomputable def u04 (N : Nat) (a b : q00) : Option (RT [q05, (.int .i64)]) := q22 DR Tryz.prog N (yv4 N) u41 Tryz.f164 (q10 Tryz.f164) (RT [q05, (.int .i64)]) (qy2 yf3 (a, b, ())) [] (q42 [q05, (.int .i64)])
theorem vg7 (N : Nat) (a b : q00) : u04 N a b = yo4 N a b := by kernel_rfl
def xs1 (m : q00 → q00 → Option OX3) : Ent := qf5 yf3 [q05, (.int .i64)] fun (x : Els [q05, q05]) => m x.1 x.2.1
def y20 (N : Nat) : Ent := xs1 (yo4 N)
theorem xe1 (N : Nat) : q16 Tryz.prog 164 (y20 N) := q55 (vp1 N) Tryz.func164 rfl (by kernel_rfl) (by kernel_rfl) fun (x : Els [q05, q05]) => vg7 N x.1 x.2.1
def ka2 : FH := ⟨[], [], [], [], false, [], []⟩
noncomputable def v94 (N : Nat) : q52 := tab [(164, y20 N)]
theorem up5 (N : Nat) : q14 Tryz.prog (v94 N) := q06 (xe1 N) <| q26 _
def zi4 (N : Nat) (a b : q00) : Option OX3 :=
 (yo4 N a b).bind fun r =>
 some r
noncomputable def k40 (N : Nat) (a b : q00) : Option (RT [q05, (.int .i64)]) := q22 DR Tryz.prog N (v94 N) ka2 Tryz.f96 (q10 Tryz.f96) (RT [q05, (.int .i64)]) (qd6 [q05, q05] (a, b, ())) [] (q42 [q05, (.int .i64)])
theorem uc0 (N : Nat) (a b : q00) : k40 N a b = zi4 N a b := by kernel_rfl
def vm2 (m : q00 → q00 → Option OX3) : Ent := q37 [q05, q05] [q05, (.int .i64)] fun (x : Els [q05, q05]) => m x.1 x.2.1
def j87 (N : Nat) : Ent := vm2 (zi4 N)
theorem jw6 (N : Nat) : q16 Tryz.prog 96 (j87 N) := q15 (up5 N) Tryz.func96 rfl (by kernel_rfl) fun (x : Els [q05, q05]) => uc0 N x.1 x.2.1
noncomputable def zb1 (N : Nat) : q52 := tab [(96, j87 N), (101, qh2 N)]
theorem jt4 (N : Nat) : q14 Tryz.prog (zb1 N) := q06 (jw6 N) <| q06 (qe5 N) <| q26 _
noncomputable def wm2 (N : Nat) : Ent := zm5 Tryz.prog N (zb1 N) ⟨[], [], [(1, ⟨10, 15, 0, [], []⟩)], [], false, [], []⟩ Tryz.f163 (q10 Tryz.f163)
theorem j17 (N : Nat) : q16 Tryz.prog 163 (wm2 N) := qc6 (jt4 N) Tryz.func163 rfl (by kernel_rfl)
def z95 : LH := ⟨[(2, .asis), (3, .asis), (6, .asis), (7, .own q05 507 26 3), (10, .int .i64), (11, .int .i64)], [], [.cells [.lst q08, .lst .bool], .cells [.int .u8, .int .i64, .str, .int .i64]]⟩
def qv6 : FH := ⟨[z95], [], [], [], false, [], []⟩
noncomputable def we3 (N : Nat) : q52 := tab [(153, q58 N), (163, wm2 N)]
theorem yb4 (N : Nat) : q14 Tryz.prog (we3 N) := q06 (q53 N) <| q06 (j17 N) <| q26 _
noncomputable def z54 : Sc := wl4 Tryz.prog qv6
noncomputable def zc9 (N : Nat) : Cfg := ⟨N, we3 N, 0⟩
noncomputable def jp6 (N : Nat) : Exit → List TV → List TOb → Option q03 := fin Tryz.prog 0 Tryz.f99.results.toList (q42 [q08])
def w84 (n : Int) (k_l : List q03) (q09 : List Bool) (q04 q19 : Int) (q20 : List UInt8) (q68 : Int) (e : List q00 × Int) : List TV := match e with
 | (l, t11) => frm 30 [(2, .func (.func 163) [.ep [.func (.func 96) []] 0]), (3, .ref 0 0), (6, .ref 1 0), (7, .tl q05 l (.own 507 26 3)), (10, .int .i64 n), (11, .int .i64 t11)]
def w91 (n : Int) (k_l : List q03) (q09 : List Bool) (q04 q19 : Int) (q20 : List UInt8) (q68 : Int) (e : List q00 × Int) : List TOb := match e with
 | (l, t11) => [.cells [.tl q08 k_l .unk, .tl .bool q09 .unk] 118 true, .cells [.int .u8 q04, .int .i64 q19, .str q20, .int .i64 q68] 115 true]
noncomputable def z64 (N : Nat) : (List TV → List TOb → Option q03) → List TV → List TOb → Option q03 := w57 DR z54 (zc9 N) (ql8 (qc7 (q07 (q92 (q07 (q07 (q10 Tryz.f99))))))) z95 (qv6.loops.drop 1) (qj4 0 (qc5 DR z54 (zc9 N) (q07 (q07 (q07 (q10 Tryz.f99)))) (qv6.loops.drop 1) (jp6 N)))
def w71 (N : Nat) (n : Int) (k_l : List q03) (q09 : List Bool) (q04 q19 : Int) (q20 : List UInt8) (q68 : Int) (K0 : (List q00 × Int) → Option q03) (e : List q00 × Int) : Option q03 :=
 match e with
 | (l, t11) =>
  bif decide (t11 < n) then
   (q64 N (k_l, q09, ()) t11).bind fun r =>
   bif (r.2.1 != 0) then
    some r
   else
    bif qz1 (l.length + ([r.1] : List q00).length) 4398046511104 then
    bif q27 (t11 + 1) then
    K0 ((l ++ ([r.1] : List q00)), t11 + 1)
    else none
    else none
  else
   bif inR 0 l.length then
   bif inR 1 l.length then
   (zi4 N (q25 l 0 q32) (q25 l 1 q32)).bind fun r1 =>
   (qd1 N r1.1 r1.2.1).bind fun r2 =>
   some r2
   else none
   else none
theorem yb1 (N : Nat) (n : Int) (k_l : List q03) (q09 : List Bool) (q04 q19 : Int) (q20 : List UInt8) (q68 : Int) (n_ : Nat) (e : List q00 × Int) : q61 (z64 N ) n_ ((w84 n k_l q09 q04 q19 q20 q68) e) ((w91 n k_l q09 q04 q19 q20 q68) e) = q95 (w71 N n k_l q09 q04 q19 q20 q68 ) n_ e :=
 q40 (w84 n k_l q09 q04 q19 q20 q68) (w91 n k_l q09 q04 q19 q20 q68) (by intro K e; obtain ⟨l, t11⟩ := e; kernel_rfl) n_ e
def zg6 (N : Nat) (k : q36) (n : Int) (l1 : Int → (List q03) → (List Bool) → Int → Int → (List UInt8) → Int → (List q00 × Int) → Option q03) : Option q03 :=
 l1 n k.1 k.2.1 0 0 [] 0 ([], 0)
def qt0 (N : Nat) (k : q36) (n : Int) : Option q03 := zg6 N k n (fun n k_l q09 q04 q19 q20 q68 e => q95 (w71 N n k_l q09 q04 q19 q20 q68) N e)
abbrev z89 : List PK := [.val q72, .val (.int .i64), .fn 163 1, .ep 1, .fn 96 0]
noncomputable def zm7 (N : Nat) (k : q36) (n : Int) : Option (RT [q08]) := q22 DR Tryz.prog N (we3 N) qv6 Tryz.f99 (q10 Tryz.f99) (RT [q08]) (qy2 z89 (k, n, ())) [] (q42 [q08])
theorem jv3 (N : Nat) (k : q36) (n : Int) : zm7 N k n = qt0 N k n := by
 have h : zm7 N k n = zg6 N k n (fun n k_l q09 q04 q19 q20 q68 e => q61 (z64 N ) N (w84 n k_l q09 q04 q19 q20 q68 e) (w91 n k_l q09 q04 q19 q20 q68 e)) := by kernel_rfl
 rw [h]
 simp only [qt0, yb1] <;> rfl
def jm4 (m : q36 → Int → Option q03) : Ent := qf5 z89 [q08] fun (x : Els [q72, (.int .i64)]) => m x.1 x.2.1
def ww6 (N : Nat) : Ent := jm4 (qt0 N)
theorem j57 (N : Nat) : q16 Tryz.prog 99 (ww6 N) := q55 (yb4 N) Tryz.func99 rfl (by kernel_rfl) (by kernel_rfl) fun (x : Els [q72, (.int .i64)]) => jv3 N x.1 x.2.1
def ux8 : FH := ⟨[], [], [], [], false, [], []⟩
noncomputable def xi2 (N : Nat) : q52 := tab []
theorem u19 (N : Nat) : q14 Tryz.prog (xi2 N) := q26 _
def j31 (N : Nat) (x : Int) : Option Int :=
 bif decide (x ≥ 4294967296) then
  bif decide ((qm4 .u64 x (32 : Int)) ≥ 65536) then
   bif decide ((qm4 .u64 (qm4 .u64 x (32 : Int)) (16 : Int)) ≥ 256) then
    bif inR (IntKind.u8.wrap (qm4 .u64 (qm4 .u64 (qm4 .u64 x (32 : Int)) (16 : Int)) (8 : Int))) q78.length then
    bif q27 (q38 q78 (IntKind.u8.wrap (qm4 .u64 (qm4 .u64 (qm4 .u64 x (32 : Int)) (16 : Int)) (8 : Int)))) then
    bif q27 (56 + (q38 q78 (IntKind.u8.wrap (qm4 .u64 (qm4 .u64 (qm4 .u64 x (32 : Int)) (16 : Int)) (8 : Int))))) then
    some (56 + (q38 q78 (IntKind.u8.wrap (qm4 .u64 (qm4 .u64 (qm4 .u64 x (32 : Int)) (16 : Int)) (8 : Int)))))
    else none
    else none
    else none
   else
    bif inR (IntKind.u8.wrap (qm4 .u64 (qm4 .u64 x (32 : Int)) (16 : Int))) q78.length then
    bif q27 (q38 q78 (IntKind.u8.wrap (qm4 .u64 (qm4 .u64 x (32 : Int)) (16 : Int)))) then
    bif q27 (48 + (q38 q78 (IntKind.u8.wrap (qm4 .u64 (qm4 .u64 x (32 : Int)) (16 : Int))))) then
    some (48 + (q38 q78 (IntKind.u8.wrap (qm4 .u64 (qm4 .u64 x (32 : Int)) (16 : Int)))))
    else none
    else none
    else none
  else
   bif decide ((qm4 .u64 x (32 : Int)) ≥ 256) then
    bif inR (IntKind.u8.wrap (qm4 .u64 (qm4 .u64 x (32 : Int)) (8 : Int))) q78.length then
    bif q27 (q38 q78 (IntKind.u8.wrap (qm4 .u64 (qm4 .u64 x (32 : Int)) (8 : Int)))) then
    bif q27 (40 + (q38 q78 (IntKind.u8.wrap (qm4 .u64 (qm4 .u64 x (32 : Int)) (8 : Int))))) then
    some (40 + (q38 q78 (IntKind.u8.wrap (qm4 .u64 (qm4 .u64 x (32 : Int)) (8 : Int)))))
    else none
    else none
    else none
   else
    bif inR (IntKind.u8.wrap (qm4 .u64 x (32 : Int))) q78.length then
    bif q27 (q38 q78 (IntKind.u8.wrap (qm4 .u64 x (32 : Int)))) then
    bif q27 (32 + (q38 q78 (IntKind.u8.wrap (qm4 .u64 x (32 : Int))))) then
    some (32 + (q38 q78 (IntKind.u8.wrap (qm4 .u64 x (32 : Int)))))
    else none
    else none
    else none
 else
  bif decide (x ≥ 65536) then
   bif decide ((qm4 .u64 x (16 : Int)) ≥ 256) then
    bif inR (IntKind.u8.wrap (qm4 .u64 (qm4 .u64 x (16 : Int)) (8 : Int))) q78.length then
    bif q27 (q38 q78 (IntKind.u8.wrap (qm4 .u64 (qm4 .u64 x (16 : Int)) (8 : Int)))) then
    bif q27 (24 + (q38 q78 (IntKind.u8.wrap (qm4 .u64 (qm4 .u64 x (16 : Int)) (8 : Int))))) then
    some (24 + (q38 q78 (IntKind.u8.wrap (qm4 .u64 (qm4 .u64 x (16 : Int)) (8 : Int)))))
    else none
    else none
    else none
   else
    bif inR (IntKind.u8.wrap (qm4 .u64 x (16 : Int))) q78.length then
    bif q27 (q38 q78 (IntKind.u8.wrap (qm4 .u64 x (16 : Int)))) then
    bif q27 (16 + (q38 q78 (IntKind.u8.wrap (qm4 .u64 x (16 : Int))))) then
    some (16 + (q38 q78 (IntKind.u8.wrap (qm4 .u64 x (16 : Int)))))
    else none
    else none
    else none
  else
   bif decide (x ≥ 256) then
    bif inR (IntKind.u8.wrap (qm4 .u64 x (8 : Int))) q78.length then
    bif q27 (q38 q78 (IntKind.u8.wrap (qm4 .u64 x (8 : Int)))) then
    bif q27 (8 + (q38 q78 (IntKind.u8.wrap (qm4 .u64 x (8 : Int))))) then
    some (8 + (q38 q78 (IntKind.u8.wrap (qm4 .u64 x (8 : Int)))))
    else none
    else none
    else none
   else
    bif inR (IntKind.u8.wrap x) q78.length then
    bif q27 (q38 q78 (IntKind.u8.wrap x)) then
    bif q27 (0 + (q38 q78 (IntKind.u8.wrap x))) then
    some (0 + (q38 q78 (IntKind.u8.wrap x)))
    else none
    else none
    else none
noncomputable def uy0 (N : Nat) (x : Int) : Option (RT [(.int .i64)]) := q22 DR Tryz.prog N (xi2 N) ux8 Tryz.f288 (q10 Tryz.f288) (RT [(.int .i64)]) (qd6 [(.int .u64)] (x, ())) [] (q42 [(.int .i64)])
theorem vn1 (N : Nat) (x : Int) : uy0 N x = j31 N x := by kernel_rfl
def v29 (m : Int → Option Int) : Ent := q37 [(.int .u64)] [(.int .i64)] fun (x : Els [(.int .u64)]) => m x.1
def yd3 (N : Nat) : Ent := v29 (j31 N)
theorem xt0 (N : Nat) : q16 Tryz.prog 288 (yd3 N) := q15 (u19 N) Tryz.func288 rfl (by kernel_rfl) fun (x : Els [(.int .u64)]) => vn1 N x.1
def jv7 : FH := ⟨[], [], [], [], false, [], []⟩
noncomputable def z20 (N : Nat) : q52 := tab [(288, yd3 N)]
theorem jl1 (N : Nat) : q14 Tryz.prog (z20 N) := q06 (xt0 N) <| q26 _
def ql2 (N : Nat) (x : Int) : Option Int :=
 (j31 N x).bind fun r =>
 bif q27 (64 - r) then
 some (64 - r)
 else none
noncomputable def jt7 (N : Nat) (x : Int) : Option (RT [(.int .i64)]) := q22 DR Tryz.prog N (z20 N) jv7 Tryz.f284 (q10 Tryz.f284) (RT [(.int .i64)]) (qd6 [(.int .u64)] (x, ())) [] (q42 [(.int .i64)])
theorem jd8 (N : Nat) (x : Int) : jt7 N x = ql2 N x := by kernel_rfl
def j11 (m : Int → Option Int) : Ent := q37 [(.int .u64)] [(.int .i64)] fun (x : Els [(.int .u64)]) => m x.1
def wi1 (N : Nat) : Ent := j11 (ql2 N)
theorem zu5 (N : Nat) : q16 Tryz.prog 284 (wi1 N) := q15 (jl1 N) Tryz.func284 rfl (by kernel_rfl) fun (x : Els [(.int .u64)]) => jd8 N x.1
def yy0 : LH := ⟨[(2, .int .u64), (8, .int .u64), (9, .int .u64), (10, .int .u64), (11, .int .u64), (13, .int .u64), (14, .int .u64), (15, .int .u64), (16, .int .u64)], [], []⟩
def ze5 : LH := ⟨[(2, .int .u64), (8, .int .u64), (9, .int .u64), (10, .int .u64), (14, .int .u64), (15, .int .u64), (16, .int .u64), (17, .int .u64), (18, .int .u64)], [], []⟩
def qj8 : FH := ⟨[yy0, ze5], [], [(6, ⟨7, 135, 0, [], []⟩)], [], false, [], []⟩
noncomputable def y14 (N : Nat) : q52 := tab [(284, wi1 N)]
theorem u59 (N : Nat) : q14 Tryz.prog (y14 N) := q06 (zu5 N) <| q26 _
noncomputable def qn6 : Sc := wl4 Tryz.prog qj8
noncomputable def qo1 (N : Nat) : Cfg := ⟨N, y14 N, 0⟩
noncomputable def ws2 (N : Nat) : Exit → List TV → List TOb → Option (Int × Int × Unit) := fin Tryz.prog 0 Tryz.f259.results.toList (q42 [(.int .u64), (.int .u64)])
def wi3 (y1 s yn1 yn0 un32 un1 un0 : Int) (e : Int × Int) : List TV := match e with
 | (q1, rhat) => frm 135 [(2, .int .u64 y1), (8, .int .u64 s), (9, .int .u64 yn1), (10, .int .u64 yn0), (11, .int .u64 un32), (13, .int .u64 un1), (14, .int .u64 un0), (15, .int .u64 q1), (16, .int .u64 rhat)]
def wk3 (y1 s yn1 yn0 un32 un1 un0 : Int) (e : Int × Int) : List TOb := match e with
 | (q1, rhat) => []
def j96 (y1 s yn1 yn0 un0 q1 un212 : Int) (e : Int × Int) : List TV := match e with
 | (rhat3, q02) => frm 135 [(2, .int .u64 y1), (8, .int .u64 s), (9, .int .u64 yn1), (10, .int .u64 yn0), (14, .int .u64 un0), (15, .int .u64 q1), (16, .int .u64 rhat3), (17, .int .u64 un212), (18, .int .u64 q02)]
def jb2 (y1 s yn1 yn0 un0 q1 un212 : Int) (e : Int × Int) : List TOb := match e with
 | (rhat3, q02) => []
def j94 (y1 s yn1 yn0 un0 q12 un211 : Int) (e : Int × Int) : List TV := match e with
 | (rhat2, q01) => frm 135 [(2, .int .u64 y1), (8, .int .u64 s), (9, .int .u64 yn1), (10, .int .u64 yn0), (14, .int .u64 un0), (15, .int .u64 q12), (16, .int .u64 rhat2), (17, .int .u64 un211), (18, .int .u64 q01)]
def jb4 (y1 s yn1 yn0 un0 q12 un211 : Int) (e : Int × Int) : List TOb := match e with
 | (rhat2, q01) => []
def jd5 (y1 s yn1 yn0 un0 q11 un21 : Int) (e : Int × Int) : List TV := match e with
 | (rhat1, q0) => frm 135 [(2, .int .u64 y1), (8, .int .u64 s), (9, .int .u64 yn1), (10, .int .u64 yn0), (14, .int .u64 un0), (15, .int .u64 q11), (16, .int .u64 rhat1), (17, .int .u64 un21), (18, .int .u64 q0)]
def jc5 (y1 s yn1 yn0 un0 q11 un21 : Int) (e : Int × Int) : List TOb := match e with
 | (rhat1, q0) => []
noncomputable def ys7 (N : Nat) : (List TV → List TOb → Option (Int × Int × Unit)) → List TV → List TOb → Option (Int × Int × Unit) := w57 DR qn6 (qo1 N) (ql8 (qc7 (q92 (q07 (q07 (q07 (q07 (q07 (q07 (q07 (q07 (q07 (q07 (q07 (q07 (q07 (q07 (q07 (q07 (q07 (q07 (q10 Tryz.f259)))))))))))))))))))))) ze5 (qj8.loops.drop 2) (qj4 2 (qc5 DR qn6 (qo1 N) (q07 (q07 (q07 (q07 (q07 (q07 (q07 (q07 (q07 (q07 (q07 (q07 (q07 (q07 (q07 (q07 (q07 (q07 (q07 (q10 Tryz.f259)))))))))))))))))))) (qj8.loops.drop 2) (ws2 N)))
def w34 (N : Nat) (y1 s yn1 yn0 un0 q11 un21 : Int) (K1 : (Int × Int) → Option (Int × Int × Unit)) (e : Int × Int) : Option (Int × Int × Unit) :=
 match e with
 | (rhat1, q0) =>
  bif decide (q0 ≥ 4294967296) then
   bif decide ((IntKind.u64.wrap (rhat1 + yn1)) ≥ 4294967296) then
    bif !(decide (s < 0)) then
    some ((IntKind.u64.wrap ((IntKind.u64.wrap (q11 * 4294967296)) + (IntKind.u64.wrap (q0 - 1)))), (qm4 .u64 (IntKind.u64.wrap ((IntKind.u64.wrap ((IntKind.u64.wrap (un21 * 4294967296)) + un0)) - (IntKind.u64.wrap ((IntKind.u64.wrap (q0 - 1)) * y1)))) s), ())
    else none
   else
    K1 ((IntKind.u64.wrap (rhat1 + yn1)), (IntKind.u64.wrap (q0 - 1)))
  else
   bif decide ((IntKind.u64.wrap (q0 * yn0)) > (IntKind.u64.wrap ((IntKind.u64.wrap (4294967296 * rhat1)) + un0))) then
    bif decide ((IntKind.u64.wrap (rhat1 + yn1)) ≥ 4294967296) then
     bif !(decide (s < 0)) then
     some ((IntKind.u64.wrap ((IntKind.u64.wrap (q11 * 4294967296)) + (IntKind.u64.wrap (q0 - 1)))), (qm4 .u64 (IntKind.u64.wrap ((IntKind.u64.wrap ((IntKind.u64.wrap (un21 * 4294967296)) + un0)) - (IntKind.u64.wrap ((IntKind.u64.wrap (q0 - 1)) * y1)))) s), ())
     else none
    else
     K1 ((IntKind.u64.wrap (rhat1 + yn1)), (IntKind.u64.wrap (q0 - 1)))
   else
    bif !(decide (s < 0)) then
    some ((IntKind.u64.wrap ((IntKind.u64.wrap (q11 * 4294967296)) + q0)), (qm4 .u64 (IntKind.u64.wrap ((IntKind.u64.wrap ((IntKind.u64.wrap (un21 * 4294967296)) + un0)) - (IntKind.u64.wrap (q0 * y1)))) s), ())
    else none
theorem ug1 (N : Nat) (y1 s yn1 yn0 un0 q11 un21 : Int) (n_ : Nat) (e : Int × Int) : q61 (ys7 N ) n_ ((jd5 y1 s yn1 yn0 un0 q11 un21) e) ((jc5 y1 s yn1 yn0 un0 q11 un21) e) = q95 (w34 N y1 s yn1 yn0 un0 q11 un21 ) n_ e :=
 q40 (jd5 y1 s yn1 yn0 un0 q11 un21) (jc5 y1 s yn1 yn0 un0 q11 un21) (by intro K e; obtain ⟨rhat1, q0⟩ := e; kernel_rfl) n_ e
noncomputable def yz1 (N : Nat) : (List TV → List TOb → Option (Int × Int × Unit)) → List TV → List TOb → Option (Int × Int × Unit) := w57 DR qn6 (qo1 N) (ql8 (qc7 (q92 (q07 (q07 (q07 (q07 (q07 (q07 (q07 (q07 (q07 (q07 (q07 (q07 (q07 (q07 (q07 (q07 (q07 (q07 (q10 Tryz.f259)))))))))))))))))))))) ze5 (qj8.loops.drop 2) (qj4 2 (qc5 DR qn6 (qo1 N) (q07 (q07 (q07 (q07 (q07 (q07 (q07 (q07 (q07 (q07 (q07 (q07 (q07 (q07 (q07 (q07 (q07 (q07 (q07 (q10 Tryz.f259)))))))))))))))))))) (qj8.loops.drop 2) (ws2 N)))
def x30 (N : Nat) (y1 s yn1 yn0 un0 q12 un211 : Int) (K1 : (Int × Int) → Option (Int × Int × Unit)) (e : Int × Int) : Option (Int × Int × Unit) :=
 match e with
 | (rhat2, q01) =>
  bif decide (q01 ≥ 4294967296) then
   bif decide ((IntKind.u64.wrap (rhat2 + yn1)) ≥ 4294967296) then
    bif !(decide (s < 0)) then
    some ((IntKind.u64.wrap ((IntKind.u64.wrap (q12 * 4294967296)) + (IntKind.u64.wrap (q01 - 1)))), (qm4 .u64 (IntKind.u64.wrap ((IntKind.u64.wrap ((IntKind.u64.wrap (un211 * 4294967296)) + un0)) - (IntKind.u64.wrap ((IntKind.u64.wrap (q01 - 1)) * y1)))) s), ())
    else none
   else
    K1 ((IntKind.u64.wrap (rhat2 + yn1)), (IntKind.u64.wrap (q01 - 1)))
  else
   bif decide ((IntKind.u64.wrap (q01 * yn0)) > (IntKind.u64.wrap ((IntKind.u64.wrap (4294967296 * rhat2)) + un0))) then
    bif decide ((IntKind.u64.wrap (rhat2 + yn1)) ≥ 4294967296) then
     bif !(decide (s < 0)) then
     some ((IntKind.u64.wrap ((IntKind.u64.wrap (q12 * 4294967296)) + (IntKind.u64.wrap (q01 - 1)))), (qm4 .u64 (IntKind.u64.wrap ((IntKind.u64.wrap ((IntKind.u64.wrap (un211 * 4294967296)) + un0)) - (IntKind.u64.wrap ((IntKind.u64.wrap (q01 - 1)) * y1)))) s), ())
     else none
    else
     K1 ((IntKind.u64.wrap (rhat2 + yn1)), (IntKind.u64.wrap (q01 - 1)))
   else
    bif !(decide (s < 0)) then
    some ((IntKind.u64.wrap ((IntKind.u64.wrap (q12 * 4294967296)) + q01)), (qm4 .u64 (IntKind.u64.wrap ((IntKind.u64.wrap ((IntKind.u64.wrap (un211 * 4294967296)) + un0)) - (IntKind.u64.wrap (q01 * y1)))) s), ())
    else none
theorem ue6 (N : Nat) (y1 s yn1 yn0 un0 q12 un211 : Int) (n_ : Nat) (e : Int × Int) : q61 (yz1 N ) n_ ((j94 y1 s yn1 yn0 un0 q12 un211) e) ((jb4 y1 s yn1 yn0 un0 q12 un211) e) = q95 (x30 N y1 s yn1 yn0 un0 q12 un211 ) n_ e :=
 q40 (j94 y1 s yn1 yn0 un0 q12 un211) (jb4 y1 s yn1 yn0 un0 q12 un211) (by intro K e; obtain ⟨rhat2, q01⟩ := e; kernel_rfl) n_ e
noncomputable def x09 (N : Nat) : (List TV → List TOb → Option (Int × Int × Unit)) → List TV → List TOb → Option (Int × Int × Unit) := w57 DR qn6 (qo1 N) (ql8 (qc7 (q92 (q07 (q07 (q07 (q07 (q07 (q07 (q07 (q07 (q07 (q07 (q07 (q07 (q07 (q07 (q07 (q07 (q07 (q07 (q10 Tryz.f259)))))))))))))))))))))) ze5 (qj8.loops.drop 2) (qj4 2 (qc5 DR qn6 (qo1 N) (q07 (q07 (q07 (q07 (q07 (q07 (q07 (q07 (q07 (q07 (q07 (q07 (q07 (q07 (q07 (q07 (q07 (q07 (q07 (q10 Tryz.f259)))))))))))))))))))) (qj8.loops.drop 2) (ws2 N)))
def x36 (N : Nat) (y1 s yn1 yn0 un0 q1 un212 : Int) (K1 : (Int × Int) → Option (Int × Int × Unit)) (e : Int × Int) : Option (Int × Int × Unit) :=
 match e with
 | (rhat3, q02) =>
  bif decide (q02 ≥ 4294967296) then
   bif decide ((IntKind.u64.wrap (rhat3 + yn1)) ≥ 4294967296) then
    bif !(decide (s < 0)) then
    some ((IntKind.u64.wrap ((IntKind.u64.wrap (q1 * 4294967296)) + (IntKind.u64.wrap (q02 - 1)))), (qm4 .u64 (IntKind.u64.wrap ((IntKind.u64.wrap ((IntKind.u64.wrap (un212 * 4294967296)) + un0)) - (IntKind.u64.wrap ((IntKind.u64.wrap (q02 - 1)) * y1)))) s), ())
    else none
   else
    K1 ((IntKind.u64.wrap (rhat3 + yn1)), (IntKind.u64.wrap (q02 - 1)))
  else
   bif decide ((IntKind.u64.wrap (q02 * yn0)) > (IntKind.u64.wrap ((IntKind.u64.wrap (4294967296 * rhat3)) + un0))) then
    bif decide ((IntKind.u64.wrap (rhat3 + yn1)) ≥ 4294967296) then
     bif !(decide (s < 0)) then
     some ((IntKind.u64.wrap ((IntKind.u64.wrap (q1 * 4294967296)) + (IntKind.u64.wrap (q02 - 1)))), (qm4 .u64 (IntKind.u64.wrap ((IntKind.u64.wrap ((IntKind.u64.wrap (un212 * 4294967296)) + un0)) - (IntKind.u64.wrap ((IntKind.u64.wrap (q02 - 1)) * y1)))) s), ())
     else none
    else
     K1 ((IntKind.u64.wrap (rhat3 + yn1)), (IntKind.u64.wrap (q02 - 1)))
   else
    bif !(decide (s < 0)) then
    some ((IntKind.u64.wrap ((IntKind.u64.wrap (q1 * 4294967296)) + q02)), (qm4 .u64 (IntKind.u64.wrap ((IntKind.u64.wrap ((IntKind.u64.wrap (un212 * 4294967296)) + un0)) - (IntKind.u64.wrap (q02 * y1)))) s), ())
    else none
theorem ue3 (N : Nat) (y1 s yn1 yn0 un0 q1 un212 : Int) (n_ : Nat) (e : Int × Int) : q61 (x09 N ) n_ ((j96 y1 s yn1 yn0 un0 q1 un212) e) ((jb2 y1 s yn1 yn0 un0 q1 un212) e) = q95 (x36 N y1 s yn1 yn0 un0 q1 un212 ) n_ e :=
 q40 (j96 y1 s yn1 yn0 un0 q1 un212) (jb2 y1 s yn1 yn0 un0 q1 un212) (by intro K e; obtain ⟨rhat3, q02⟩ := e; kernel_rfl) n_ e
noncomputable def je9 (N : Nat) : (List TV → List TOb → Option (Int × Int × Unit)) → List TV → List TOb → Option (Int × Int × Unit) := w57 DR qn6 (qo1 N) (ql8 (qc7 (q92 (q07 (q07 (q07 (q07 (q07 (q07 (q07 (q07 (q07 (q07 (q07 (q07 (q07 (q07 (q10 Tryz.f259)))))))))))))))))) yy0 (qj8.loops.drop 1) (qj4 0 (qc5 DR qn6 (qo1 N) (q07 (q07 (q07 (q07 (q07 (q07 (q07 (q07 (q07 (q07 (q07 (q07 (q07 (q07 (q07 (q10 Tryz.f259)))))))))))))))) (qj8.loops.drop 1) (ws2 N)))
def zs9 (N : Nat) (y1 s yn1 yn0 un32 un1 un0 : Int) (l2 l3 l4 : Int → Int → Int → Int → Int → Int → Int → (Int × Int) → Option (Int × Int × Unit)) (K0 : (Int × Int) → Option (Int × Int × Unit)) (e : Int × Int) : Option (Int × Int × Unit) :=
 match e with
 | (q1, rhat) =>
  bif decide (q1 ≥ 4294967296) then
   bif decide ((IntKind.u64.wrap (rhat + yn1)) ≥ 4294967296) then
    bif (decide (yn1 ≠ 0) && true) then
    l2 y1 s yn1 yn0 un0 (IntKind.u64.wrap (q1 - 1)) (IntKind.u64.wrap ((IntKind.u64.wrap ((IntKind.u64.wrap (un32 * 4294967296)) + un1)) - (IntKind.u64.wrap ((IntKind.u64.wrap (q1 - 1)) * y1)))) ((IntKind.u64.wrap ((IntKind.u64.wrap ((IntKind.u64.wrap ((IntKind.u64.wrap (un32 * 4294967296)) + un1)) - (IntKind.u64.wrap ((IntKind.u64.wrap (q1 - 1)) * y1)))) - (IntKind.u64.wrap ((IntKind.u64.wrap (Int.tdiv (IntKind.u64.wrap ((IntKind.u64.wrap ((IntKind.u64.wrap (un32 * 4294967296)) + un1)) - (IntKind.u64.wrap ((IntKind.u64.wrap (q1 - 1)) * y1)))) yn1)) * yn1)))), (IntKind.u64.wrap (Int.tdiv (IntKind.u64.wrap ((IntKind.u64.wrap ((IntKind.u64.wrap (un32 * 4294967296)) + un1)) - (IntKind.u64.wrap ((IntKind.u64.wrap (q1 - 1)) * y1)))) yn1)))
    else none
   else
    K0 ((IntKind.u64.wrap (q1 - 1)), (IntKind.u64.wrap (rhat + yn1)))
  else
   bif decide ((IntKind.u64.wrap (q1 * yn0)) > (IntKind.u64.wrap ((IntKind.u64.wrap (4294967296 * rhat)) + un1))) then
    bif decide ((IntKind.u64.wrap (rhat + yn1)) ≥ 4294967296) then
     bif (decide (yn1 ≠ 0) && true) then
     l3 y1 s yn1 yn0 un0 (IntKind.u64.wrap (q1 - 1)) (IntKind.u64.wrap ((IntKind.u64.wrap ((IntKind.u64.wrap (un32 * 4294967296)) + un1)) - (IntKind.u64.wrap ((IntKind.u64.wrap (q1 - 1)) * y1)))) ((IntKind.u64.wrap ((IntKind.u64.wrap ((IntKind.u64.wrap ((IntKind.u64.wrap (un32 * 4294967296)) + un1)) - (IntKind.u64.wrap ((IntKind.u64.wrap (q1 - 1)) * y1)))) - (IntKind.u64.wrap ((IntKind.u64.wrap (Int.tdiv (IntKind.u64.wrap ((IntKind.u64.wrap ((IntKind.u64.wrap (un32 * 4294967296)) + un1)) - (IntKind.u64.wrap ((IntKind.u64.wrap (q1 - 1)) * y1)))) yn1)) * yn1)))), (IntKind.u64.wrap (Int.tdiv (IntKind.u64.wrap ((IntKind.u64.wrap ((IntKind.u64.wrap (un32 * 4294967296)) + un1)) - (IntKind.u64.wrap ((IntKind.u64.wrap (q1 - 1)) * y1)))) yn1)))
     else none
    else
     K0 ((IntKind.u64.wrap (q1 - 1)), (IntKind.u64.wrap (rhat + yn1)))
   else
    bif (decide (yn1 ≠ 0) && true) then
    l4 y1 s yn1 yn0 un0 q1 (IntKind.u64.wrap ((IntKind.u64.wrap ((IntKind.u64.wrap (un32 * 4294967296)) + un1)) - (IntKind.u64.wrap (q1 * y1)))) ((IntKind.u64.wrap ((IntKind.u64.wrap ((IntKind.u64.wrap ((IntKind.u64.wrap (un32 * 4294967296)) + un1)) - (IntKind.u64.wrap (q1 * y1)))) - (IntKind.u64.wrap ((IntKind.u64.wrap (Int.tdiv (IntKind.u64.wrap ((IntKind.u64.wrap ((IntKind.u64.wrap (un32 * 4294967296)) + un1)) - (IntKind.u64.wrap (q1 * y1)))) yn1)) * yn1)))), (IntKind.u64.wrap (Int.tdiv (IntKind.u64.wrap ((IntKind.u64.wrap ((IntKind.u64.wrap (un32 * 4294967296)) + un1)) - (IntKind.u64.wrap (q1 * y1)))) yn1)))
    else none
def ze6 (N : Nat) (y1 s yn1 yn0 un32 un1 un0 : Int) (K0 : (Int × Int) → Option (Int × Int × Unit)) (e : Int × Int) : Option (Int × Int × Unit) := zs9 N y1 s yn1 yn0 un32 un1 un0 (fun y1 s yn1 yn0 un0 q11 un21 e => q95 (w34 N y1 s yn1 yn0 un0 q11 un21) N e) (fun y1 s yn1 yn0 un0 q12 un211 e => q95 (x30 N y1 s yn1 yn0 un0 q12 un211) N e) (fun y1 s yn1 yn0 un0 q1 un212 e => q95 (x36 N y1 s yn1 yn0 un0 q1 un212) N e) K0 e
theorem ud9 (N : Nat) (y1 s yn1 yn0 un32 un1 un0 : Int) (n_ : Nat) (e : Int × Int) : q61 (je9 N ) n_ ((wi3 y1 s yn1 yn0 un32 un1 un0) e) ((wk3 y1 s yn1 yn0 un32 un1 un0) e) = q95 (ze6 N y1 s yn1 yn0 un32 un1 un0 ) n_ e :=
 q40 (wi3 y1 s yn1 yn0 un32 un1 un0) (wk3 y1 s yn1 yn0 un32 un1 un0) (by
  intro K e
  have h : (je9 N ) K ((wi3 y1 s yn1 yn0 un32 un1 un0) e) ((wk3 y1 s yn1 yn0 un32 un1 un0) e) = zs9 N y1 s yn1 yn0 un32 un1 un0 (fun y1 s yn1 yn0 un0 q11 un21 e => q61 (ys7 N ) N (jd5 y1 s yn1 yn0 un0 q11 un21 e) (jc5 y1 s yn1 yn0 un0 q11 un21 e)) (fun y1 s yn1 yn0 un0 q12 un211 e => q61 (yz1 N ) N (j94 y1 s yn1 yn0 un0 q12 un211 e) (jb4 y1 s yn1 yn0 un0 q12 un211 e)) (fun y1 s yn1 yn0 un0 q1 un212 e => q61 (x09 N ) N (j96 y1 s yn1 yn0 un0 q1 un212 e) (jb2 y1 s yn1 yn0 un0 q1 un212 e)) (fun e => K ((wi3 y1 s yn1 yn0 un32 un1 un0) e) ((wk3 y1 s yn1 yn0 un32 un1 un0) e)) e := by obtain ⟨q1, rhat⟩ := e; kernel_rfl
  rw [h]
  simp only [ze6, ug1, ue6, ue3] <;> rfl) n_ e
def jz2 (N : Nat) (hi lo y : Int) (l1 : Int → Int → Int → Int → Int → Int → Int → (Int × Int) → Option (Int × Int × Unit)) : Option (Int × Int × Unit) :=
 bif (y == 0) then none else
 bif decide (y ≤ hi) then none else
 bif (hi == 0) then
  bif (decide (y ≠ 0) && true) then
  bif decide (y ≠ 0) then
  some ((IntKind.u64.wrap (Int.tdiv lo y)), Int.tmod lo y, ())
  else none
  else none
 else
  (ql2 N y).bind fun r =>
  bif !(decide ((IntKind.u64.wrap r) < 0)) then
  bif !(decide ((IntKind.u64.wrap r) < 0)) then
  bif !(decide ((IntKind.u64.wrap (64 - (IntKind.u64.wrap r))) < 0)) then
  bif !(decide ((IntKind.u64.wrap r) < 0)) then
  bif (decide ((qm4 .u64 (uz1 .u64 y (IntKind.u64.wrap r)) (32 : Int)) ≠ 0) && true) then
  l1 (uz1 .u64 y (IntKind.u64.wrap r)) (IntKind.u64.wrap r) (qm4 .u64 (uz1 .u64 y (IntKind.u64.wrap r)) (32 : Int)) (z32 .and .u64 (uz1 .u64 y (IntKind.u64.wrap r)) 4294967295) (z32 .or .u64 (uz1 .u64 hi (IntKind.u64.wrap r)) (qm4 .u64 lo (IntKind.u64.wrap (64 - (IntKind.u64.wrap r))))) (qm4 .u64 (uz1 .u64 lo (IntKind.u64.wrap r)) (32 : Int)) (z32 .and .u64 (uz1 .u64 lo (IntKind.u64.wrap r)) 4294967295) ((IntKind.u64.wrap (Int.tdiv (z32 .or .u64 (uz1 .u64 hi (IntKind.u64.wrap r)) (qm4 .u64 lo (IntKind.u64.wrap (64 - (IntKind.u64.wrap r))))) (qm4 .u64 (uz1 .u64 y (IntKind.u64.wrap r)) (32 : Int)))), (IntKind.u64.wrap ((z32 .or .u64 (uz1 .u64 hi (IntKind.u64.wrap r)) (qm4 .u64 lo (IntKind.u64.wrap (64 - (IntKind.u64.wrap r))))) - (IntKind.u64.wrap ((IntKind.u64.wrap (Int.tdiv (z32 .or .u64 (uz1 .u64 hi (IntKind.u64.wrap r)) (qm4 .u64 lo (IntKind.u64.wrap (64 - (IntKind.u64.wrap r))))) (qm4 .u64 (uz1 .u64 y (IntKind.u64.wrap r)) (32 : Int)))) * (qm4 .u64 (uz1 .u64 y (IntKind.u64.wrap r)) (32 : Int)))))))
  else none
  else none
  else none
  else none
  else none
def zg0 (N : Nat) (hi lo y : Int) : Option (Int × Int × Unit) := jz2 N hi lo y (fun y1 s yn1 yn0 un32 un1 un0 e => q95 (ze6 N y1 s yn1 yn0 un32 un1 un0) N e)
noncomputable def xq4 (N : Nat) (hi lo y : Int) : Option (RT [(.int .u64), (.int .u64)]) := q22 DR Tryz.prog N (y14 N) qj8 Tryz.f259 (q10 Tryz.f259) (RT [(.int .u64), (.int .u64)]) (qd6 [(.int .u64), (.int .u64), (.int .u64)] (hi, lo, y, ())) [] (q42 [(.int .u64), (.int .u64)])
theorem vn2 (N : Nat) (hi lo y : Int) : xq4 N hi lo y = zg0 N hi lo y := by
 have h : xq4 N hi lo y = jz2 N hi lo y (fun y1 s yn1 yn0 un32 un1 un0 e => q61 (je9 N ) N (wi3 y1 s yn1 yn0 un32 un1 un0 e) (wk3 y1 s yn1 yn0 un32 un1 un0 e)) := by kernel_rfl
 rw [h]
 simp only [zg0, ud9] <;> rfl
def vj2 (m : Int → Int → Int → Option (Int × Int × Unit)) : Ent := q37 [(.int .u64), (.int .u64), (.int .u64)] [(.int .u64), (.int .u64)] fun (x : Els [(.int .u64), (.int .u64), (.int .u64)]) => m x.1 x.2.1 x.2.2.1
def ye5 (N : Nat) : Ent := vj2 (zg0 N)
theorem xs4 (N : Nat) : q16 Tryz.prog 259 (ye5 N) := q15 (u59 N) Tryz.func259 rfl (by kernel_rfl) fun (x : Els [(.int .u64), (.int .u64), (.int .u64)]) => vn2 N x.1 x.2.1 x.2.2.1
noncomputable def yg2 (N : Nat) : q52 := tab [(221, wa6 N)]
theorem v83 (N : Nat) : q14 Tryz.prog (yg2 N) := q06 (wb8 N) <| q26 _
noncomputable def jf4 (N : Nat) : Ent := zm5 Tryz.prog N (yg2 N) ⟨[], [], [], [], false, [], []⟩ Tryz.f258 (q10 Tryz.f258)
theorem yy1 (N : Nat) : q16 Tryz.prog 258 (jf4 N) := qc6 (v83 N) Tryz.func258 rfl (by kernel_rfl)
def kt2 : FH := ⟨[], [], [(1, ⟨9, 61, 0, [], []⟩)], [], false, [258], []⟩
noncomputable def vy2 (N : Nat) : q52 := tab [(220, wv5 N), (219, ws9 N), (259, ye5 N), (258, jf4 N)]
theorem k29 (N : Nat) : q14 Tryz.prog (vy2 N) := q06 (ws1 N) <| q06 (z25 N) <| q06 (xs4 N) <| q06 (yy1 N) <| q26 _
def y51 (N : Nat) (a b d : Int) : Option (Int × Int × Unit) :=
 (w50 N a).bind fun r =>
 (w50 N b).bind fun r1 =>
 (qx7 N r r1).bind fun r2 =>
 (w50 N d).bind fun r3 =>
 bif decide (r2.1 ≥ r3) then
  some (0, 9, ())
 else
  (zg0 N r2.1 r2.2.1 r3).bind fun r4 =>
  bif decide (r4.2.1 > (IntKind.u64.wrap (r3 - r4.2.1))) then
   bif ((IntKind.u64.wrap (r4.1 + 1)) == 0) then
    some (0, 9, ())
   else
    (qj9 N (!((!((decide (a < 0)) == (decide (b < 0)))) == (decide (d < 0)))) 0 (IntKind.u64.wrap (r4.1 + 1))).bind fun r5 =>
    some r5
  else
   bif (r4.2.1 == (IntKind.u64.wrap (r3 - r4.2.1))) then
    bif ((z32 .and .u64 r4.1 1) == 1) then
     bif ((IntKind.u64.wrap (r4.1 + 1)) == 0) then
      some (0, 9, ())
     else
      (qj9 N (!((!((decide (a < 0)) == (decide (b < 0)))) == (decide (d < 0)))) 0 (IntKind.u64.wrap (r4.1 + 1))).bind fun r6 =>
      some r6
    else
     (qj9 N (!((!((decide (a < 0)) == (decide (b < 0)))) == (decide (d < 0)))) 0 r4.1).bind fun r7 =>
     some r7
   else
    (qj9 N (!((!((decide (a < 0)) == (decide (b < 0)))) == (decide (d < 0)))) 0 r4.1).bind fun r8 =>
    some r8
noncomputable def ko6 (N : Nat) (a b d : Int) : Option (RT [(.int .i64), (.int .i64)]) := q22 DR Tryz.prog N (vy2 N) kt2 Tryz.f222 (q10 Tryz.f222) (RT [(.int .i64), (.int .i64)]) (qd6 [(.int .i64), (.int .i64), (.int .i64)] (a, b, d, ())) [] (q42 [(.int .i64), (.int .i64)])
theorem uu3 (N : Nat) (a b d : Int) : ko6 N a b d = y51 N a b d := by kernel_rfl
def ub6 (m : Int → Int → Int → Option (Int × Int × Unit)) : Ent := q37 [(.int .i64), (.int .i64), (.int .i64)] [(.int .i64), (.int .i64)] fun (x : Els [(.int .i64), (.int .i64), (.int .i64)]) => m x.1 x.2.1 x.2.2.1
def y17 (N : Nat) : Ent := ub6 (y51 N)
theorem ye4 (N : Nat) : q16 Tryz.prog 222 (y17 N) := q15 (k29 N) Tryz.func222 rfl (by kernel_rfl) fun (x : Els [(.int .i64), (.int .i64), (.int .i64)]) => uu3 N x.1 x.2.1 x.2.2.1
def uh2 : FH := ⟨[], [], [], [], false, [], []⟩
noncomputable def xl9 (N : Nat) : q52 := tab [(222, y17 N)]
theorem ub8 (N : Nat) : q14 Tryz.prog (xl9 N) := q06 (ye4 N) <| q26 _
def zf7 (N : Nat) (a b : Int) : Option (Int × Int × Unit) :=
 (y51 N a b 10000).bind fun r =>
 some r
noncomputable def ui5 (N : Nat) (a b : Int) : Option (RT [(.int .i64), (.int .i64)]) := q22 DR Tryz.prog N (xl9 N) uh2 Tryz.f168 (q10 Tryz.f168) (RT [(.int .i64), (.int .i64)]) (qd6 [(.int .i64), (.int .i64)] (a, b, ())) [] (q42 [(.int .i64), (.int .i64)])
theorem vn7 (N : Nat) (a b : Int) : ui5 N a b = zf7 N a b := by kernel_rfl
def v04 (m : Int → Int → Option (Int × Int × Unit)) : Ent := q37 [(.int .i64), (.int .i64)] [(.int .i64), (.int .i64)] fun (x : Els [(.int .i64), (.int .i64)]) => m x.1 x.2.1
def yd1 (N : Nat) : Ent := v04 (zf7 N)
theorem xq6 (N : Nat) : q16 Tryz.prog 168 (yd1 N) := q15 (ub8 N) Tryz.func168 rfl (by kernel_rfl) fun (x : Els [(.int .i64), (.int .i64)]) => vn7 N x.1 x.2.1
def ua6 : FH := ⟨[], [], [(8, ⟨16, 54, 0, [], []⟩)], [], false, [], []⟩
noncomputable def x26 (N : Nat) : q52 := tab [(217, qs2 N), (168, yd1 N), (218, qx0 N), (167, yg5 N)]
theorem vq2 (N : Nat) : q14 Tryz.prog (x26 N) := q06 (qs4 N) <| q06 (xq6 N) <| q06 (qy8 N) <| q06 (yw5 N) <| q26 _
def yp1 (N : Nat) (a b : q00) : Option OX3 :=
 (qa2 N ([a, b] : List q00)).bind fun r =>
 bif r.2.1 then
  some ((0, 0, [], ()), r.2.2.1, ())
 else
  bif (r.2.2.1 != 0) then
   some ((0, 0, [], ()), r.2.2.1, ())
  else
   bif inR 0 r.1.length then
   bif (((q25 r.1 0 q32).1) == 2) then
    bif inR 0 r.1.length then
    bif inR 1 r.1.length then
    (zf7 N ((q25 r.1 0 q32).2.1) ((q25 r.1 1 q32).2.1)).bind fun r1 =>
    bif (r1.2.1 != 0) then
     some ((0, 0, [], ()), r1.2.1, ())
    else
     bif inR 0 r.1.length then
     some (((q25 r.1 0 q32).1, r1.1, [], ()), 0, ())
     else none
    else none
    else none
   else
    bif inR 0 r.1.length then
    bif inR 1 r.1.length then
    (yj7 N ((q25 r.1 0 q32).2.1) ((q25 r.1 1 q32).2.1)).bind fun r2 =>
    bif (r2.2.1 != 0) then
     some ((0, 0, [], ()), r2.2.1, ())
    else
     bif inR 0 r.1.length then
     some (((q25 r.1 0 q32).1, r2.1, [], ()), 0, ())
     else none
    else none
    else none
   else none
abbrev yf4 : List PK := [.val q05, .val q05, .fn 167 0, .fn 168 0]
noncomputable def ug2 (N : Nat) (a b : q00) : Option (RT [q05, (.int .i64)]) := q22 DR Tryz.prog N (x26 N) ua6 Tryz.f164 (q10 Tryz.f164) (RT [q05, (.int .i64)]) (qy2 yf4 (a, b, ())) [] (q42 [q05, (.int .i64)])
theorem va9 (N : Nat) (a b : q00) : ug2 N a b = yp1 N a b := by kernel_rfl
def xv6 (m : q00 → q00 → Option OX3) : Ent := qf5 yf4 [q05, (.int .i64)] fun (x : Els [q05, q05]) => m x.1 x.2.1
def jo5 (N : Nat) : Ent := xv6 (yp1 N)
theorem x94 (N : Nat) : q16 Tryz.prog 164 (jo5 N) := q55 (vq2 N) Tryz.func164 rfl (by kernel_rfl) (by kernel_rfl) fun (x : Els [q05, q05]) => va9 N x.1 x.2.1
def kb8 : FH := ⟨[], [], [], [], false, [], []⟩
noncomputable def ve2 (N : Nat) : q52 := tab [(164, jo5 N)]
theorem um0 (N : Nat) : q14 Tryz.prog (ve2 N) := q06 (x94 N) <| q26 _
def zy6 (N : Nat) (a b : q00) : Option OX3 :=
 (yp1 N a b).bind fun r =>
 some r
noncomputable def k69 (N : Nat) (a b : q00) : Option (RT [q05, (.int .i64)]) := q22 DR Tryz.prog N (ve2 N) kb8 Tryz.f97 (q10 Tryz.f97) (RT [q05, (.int .i64)]) (qd6 [q05, q05] (a, b, ())) [] (q42 [q05, (.int .i64)])
theorem u91 (N : Nat) (a b : q00) : k69 N a b = zy6 N a b := by kernel_rfl
def vp2 (m : q00 → q00 → Option OX3) : Ent := q37 [q05, q05] [q05, (.int .i64)] fun (x : Els [q05, q05]) => m x.1 x.2.1
def yx9 (N : Nat) : Ent := vp2 (zy6 N)
theorem vi8 (N : Nat) : q16 Tryz.prog 97 (yx9 N) := q15 (um0 N) Tryz.func97 rfl (by kernel_rfl) fun (x : Els [q05, q05]) => u91 N x.1 x.2.1
noncomputable def za1 (N : Nat) : q52 := tab [(97, yx9 N), (101, qh2 N)]
theorem jv0 (N : Nat) : q14 Tryz.prog (za1 N) := q06 (vi8 N) <| q06 (qe5 N) <| q26 _
noncomputable def wm5 (N : Nat) : Ent := zm5 Tryz.prog N (za1 N) ⟨[], [], [(1, ⟨10, 15, 0, [], []⟩)], [], false, [], []⟩ Tryz.f163 (q10 Tryz.f163)
theorem j12 (N : Nat) : q16 Tryz.prog 163 (wm5 N) := qc6 (jv0 N) Tryz.func163 rfl (by kernel_rfl)
def z68 : LH := ⟨[(2, .asis), (3, .asis), (6, .asis), (7, .own q05 507 26 3), (10, .int .i64), (11, .int .i64)], [], [.cells [.lst q08, .lst .bool], .cells [.int .u8, .int .i64, .str, .int .i64]]⟩
def qu3 : FH := ⟨[z68], [], [], [], false, [], []⟩
noncomputable def we8 (N : Nat) : q52 := tab [(153, q58 N), (163, wm5 N)]
theorem y92 (N : Nat) : q14 Tryz.prog (we8 N) := q06 (q53 N) <| q06 (j12 N) <| q26 _
noncomputable def zc6 : Sc := wl4 Tryz.prog qu3
noncomputable def z50 (N : Nat) : Cfg := ⟨N, we8 N, 0⟩
noncomputable def ju7 (N : Nat) : Exit → List TV → List TOb → Option q03 := fin Tryz.prog 0 Tryz.f99.results.toList (q42 [q08])
def w78 (n : Int) (k_l : List q03) (q09 : List Bool) (q04 q19 : Int) (q20 : List UInt8) (q68 : Int) (e : List q00 × Int) : List TV := match e with
 | (l, t11) => frm 30 [(2, .func (.func 163) [.ep [.func (.func 97) []] 0]), (3, .ref 0 0), (6, .ref 1 0), (7, .tl q05 l (.own 507 26 3)), (10, .int .i64 n), (11, .int .i64 t11)]
def wa3 (n : Int) (k_l : List q03) (q09 : List Bool) (q04 q19 : Int) (q20 : List UInt8) (q68 : Int) (e : List q00 × Int) : List TOb := match e with
 | (l, t11) => [.cells [.tl q08 k_l .unk, .tl .bool q09 .unk] 118 true, .cells [.int .u8 q04, .int .i64 q19, .str q20, .int .i64 q68] 115 true]
noncomputable def z77 (N : Nat) : (List TV → List TOb → Option q03) → List TV → List TOb → Option q03 := w57 DR zc6 (z50 N) (ql8 (qc7 (q07 (q92 (q07 (q07 (q10 Tryz.f99))))))) z68 (qu3.loops.drop 1) (qj4 0 (qc5 DR zc6 (z50 N) (q07 (q07 (q07 (q10 Tryz.f99)))) (qu3.loops.drop 1) (ju7 N)))
def w82 (N : Nat) (n : Int) (k_l : List q03) (q09 : List Bool) (q04 q19 : Int) (q20 : List UInt8) (q68 : Int) (K0 : (List q00 × Int) → Option q03) (e : List q00 × Int) : Option q03 :=
 match e with
 | (l, t11) =>
  bif decide (t11 < n) then
   (q64 N (k_l, q09, ()) t11).bind fun r =>
   bif (r.2.1 != 0) then
    some r
   else
    bif qz1 (l.length + ([r.1] : List q00).length) 4398046511104 then
    bif q27 (t11 + 1) then
    K0 ((l ++ ([r.1] : List q00)), t11 + 1)
    else none
    else none
  else
   bif inR 0 l.length then
   bif inR 1 l.length then
   (zy6 N (q25 l 0 q32) (q25 l 1 q32)).bind fun r1 =>
   (qd1 N r1.1 r1.2.1).bind fun r2 =>
   some r2
   else none
   else none
theorem yb2 (N : Nat) (n : Int) (k_l : List q03) (q09 : List Bool) (q04 q19 : Int) (q20 : List UInt8) (q68 : Int) (n_ : Nat) (e : List q00 × Int) : q61 (z77 N ) n_ ((w78 n k_l q09 q04 q19 q20 q68) e) ((wa3 n k_l q09 q04 q19 q20 q68) e) = q95 (w82 N n k_l q09 q04 q19 q20 q68 ) n_ e :=
 q40 (w78 n k_l q09 q04 q19 q20 q68) (wa3 n k_l q09 q04 q19 q20 q68) (by intro K e; obtain ⟨l, t11⟩ := e; kernel_rfl) n_ e
def zg9 (N : Nat) (k : q36) (n : Int) (l1 : Int → (List q03) → (List Bool) → Int → Int → (List UInt8) → Int → (List q00 × Int) → Option q03) : Option q03 :=
 l1 n k.1 k.2.1 0 0 [] 0 ([], 0)
def qr7 (N : Nat) (k : q36) (n : Int) : Option q03 := zg9 N k n (fun n k_l q09 q04 q19 q20 q68 e => q95 (w82 N n k_l q09 q04 q19 q20 q68) N e)
abbrev zc5 : List PK := [.val q72, .val (.int .i64), .fn 163 1, .ep 1, .fn 97 0]
noncomputable def zj5 (N : Nat) (k : q36) (n : Int) : Option (RT [q08]) := q22 DR Tryz.prog N (we8 N) qu3 Tryz.f99 (q10 Tryz.f99) (RT [q08]) (qy2 zc5 (k, n, ())) [] (q42 [q08])
theorem jr0 (N : Nat) (k : q36) (n : Int) : zj5 N k n = qr7 N k n := by
 have h : zj5 N k n = zg9 N k n (fun n k_l q09 q04 q19 q20 q68 e => q61 (z77 N ) N (w78 n k_l q09 q04 q19 q20 q68 e) (wa3 n k_l q09 q04 q19 q20 q68 e)) := by kernel_rfl
 rw [h]
 simp only [qr7, yb2] <;> rfl
def ji1 (m : q36 → Int → Option q03) : Ent := qf5 zc5 [q08] fun (x : Els [q72, (.int .i64)]) => m x.1 x.2.1
def wt2 (N : Nat) : Ent := ji1 (qr7 N)
theorem j60 (N : Nat) : q16 Tryz.prog 99 (wt2 N) := q55 (y92 N) Tryz.func99 rfl (by kernel_rfl) (by kernel_rfl) fun (x : Els [q72, (.int .i64)]) => jr0 N x.1 x.2.1
def un2 : FH := ⟨[], [], [], [], false, [], []⟩
noncomputable def xn5 (N : Nat) : q52 := tab [(222, y17 N)]
theorem u31 (N : Nat) : q14 Tryz.prog (xn5 N) := q06 (ye4 N) <| q26 _
def zf6 (N : Nat) (a b : Int) : Option (Int × Int × Unit) :=
 bif (b == 0) then
  some (0, 10, ())
 else
  (y51 N a 10000 b).bind fun r =>
  some r
noncomputable def ug9 (N : Nat) (a b : Int) : Option (RT [(.int .i64), (.int .i64)]) := q22 DR Tryz.prog N (xn5 N) un2 Tryz.f170 (q10 Tryz.f170) (RT [(.int .i64), (.int .i64)]) (qd6 [(.int .i64), (.int .i64)] (a, b, ())) [] (q42 [(.int .i64), (.int .i64)])
theorem vr5 (N : Nat) (a b : Int) : ug9 N a b = zf6 N a b := by kernel_rfl
def vj3 (m : Int → Int → Option (Int × Int × Unit)) : Ent := q37 [(.int .i64), (.int .i64)] [(.int .i64), (.int .i64)] fun (x : Els [(.int .i64), (.int .i64)]) => m x.1 x.2.1
def ye3 (N : Nat) : Ent := vj3 (zf6 N)
theorem xw1 (N : Nat) : q16 Tryz.prog 170 (ye3 N) := q15 (u31 N) Tryz.func170 rfl (by kernel_rfl) fun (x : Els [(.int .i64), (.int .i64)]) => vr5 N x.1 x.2.1
def num_Quo_H : FH := ⟨[], [], [], [], false, [], []⟩
noncomputable def uq6 (N : Nat) : q52 := tab [(220, wv5 N), (221, wa6 N)]
theorem kk5 (N : Nat) : q14 Tryz.prog (uq6 N) := q06 (ws1 N) <| q06 (wb8 N) <| q26 _
def xa2 (N : Nat) (a b : Int) : Option (Int × Int × Unit) :=
 bif (b == 0) then
  some (0, 10, ())
 else
  (w50 N a).bind fun r =>
  (w50 N b).bind fun r1 =>
  bif (decide (r1 ≠ 0) && true) then
  (qj9 N (!((decide (a < 0)) == (decide (b < 0)))) 0 (IntKind.u64.wrap (Int.tdiv r r1))).bind fun r2 =>
  some r2
  else none
noncomputable def num_Quo_C (N : Nat) (a b : Int) : Option (RT [(.int .i64), (.int .i64)]) := q22 DR Tryz.prog N (uq6 N) num_Quo_H Tryz.f169 (q10 Tryz.f169) (RT [(.int .i64), (.int .i64)]) (qd6 [(.int .i64), (.int .i64)] (a, b, ())) [] (q42 [(.int .i64), (.int .i64)])
theorem k04 (N : Nat) (a b : Int) : num_Quo_C N a b = xa2 N a b := by kernel_rfl
def ui9 (m : Int → Int → Option (Int × Int × Unit)) : Ent := q37 [(.int .i64), (.int .i64)] [(.int .i64), (.int .i64)] fun (x : Els [(.int .i64), (.int .i64)]) => m x.1 x.2.1
def v07 (N : Nat) : Ent := ui9 (xa2 N)
theorem uc3 (N : Nat) : q16 Tryz.prog 169 (v07 N) := q15 (kk5 N) Tryz.func169 rfl (by kernel_rfl) fun (x : Els [(.int .i64), (.int .i64)]) => k04 N x.1 x.2.1
def u58 : FH := ⟨[], [], [(8, ⟨16, 54, 0, [], []⟩)], [], false, [], []⟩
noncomputable def yx3 (N : Nat) : q52 := tab [(217, qs2 N), (170, ye3 N), (218, qx0 N), (169, v07 N)]
theorem vn8 (N : Nat) : q14 Tryz.prog (yx3 N) := q06 (qs4 N) <| q06 (xw1 N) <| q06 (qy8 N) <| q06 (uc3 N) <| q26 _
def yp5 (N : Nat) (a b : q00) : Option OX3 :=
 (qa2 N ([a, b] : List q00)).bind fun r =>
 bif r.2.1 then
  some ((0, 0, [], ()), r.2.2.1, ())
 else
  bif (r.2.2.1 != 0) then
   some ((0, 0, [], ()), r.2.2.1, ())
  else
   bif inR 0 r.1.length then
   bif (((q25 r.1 0 q32).1) == 2) then
    bif inR 0 r.1.length then
    bif inR 1 r.1.length then
    (zf6 N ((q25 r.1 0 q32).2.1) ((q25 r.1 1 q32).2.1)).bind fun r1 =>
    bif (r1.2.1 != 0) then
     some ((0, 0, [], ()), r1.2.1, ())
    else
     bif inR 0 r.1.length then
     some (((q25 r.1 0 q32).1, r1.1, [], ()), 0, ())
     else none
    else none
    else none
   else
    bif inR 0 r.1.length then
    bif inR 1 r.1.length then
    (xa2 N ((q25 r.1 0 q32).2.1) ((q25 r.1 1 q32).2.1)).bind fun r2 =>
    bif (r2.2.1 != 0) then
     some ((0, 0, [], ()), r2.2.1, ())
    else
     bif inR 0 r.1.length then
     some (((q25 r.1 0 q32).1, r2.1, [], ()), 0, ())
     else none
    else none
    else none
   else none
abbrev yd4 : List PK := [.val q05, .val q05, .fn 169 0, .fn 170 0]
noncomputable def uc7 (N : Nat) (a b : q00) : Option (RT [q05, (.int .i64)]) := q22 DR Tryz.prog N (yx3 N) u58 Tryz.f164 (q10 Tryz.f164) (RT [q05, (.int .i64)]) (qy2 yd4 (a, b, ())) [] (q42 [q05, (.int .i64)])
theorem va7 (N : Nat) (a b : q00) : uc7 N a b = yp5 N a b := by kernel_rfl
def xs7 (m : q00 → q00 → Option OX3) : Ent := qf5 yd4 [q05, (.int .i64)] fun (x : Els [q05, q05]) => m x.1 x.2.1
def y08 (N : Nat) : Ent := xs7 (yp5 N)
theorem x93 (N : Nat) : q16 Tryz.prog 164 (y08 N) := q55 (vn8 N) Tryz.func164 rfl (by kernel_rfl) (by kernel_rfl) fun (x : Els [q05, q05]) => va7 N x.1 x.2.1
def k91 : FH := ⟨[], [], [], [], false, [], []⟩
noncomputable def vf8 (N : Nat) : q52 := tab [(164, y08 N)]
theorem ui0 (N : Nat) : q14 Tryz.prog (vf8 N) := q06 (x93 N) <| q26 _
def zy3 (N : Nat) (a b : q00) : Option OX3 :=
 (yp5 N a b).bind fun r =>
 some r
noncomputable def k72 (N : Nat) (a b : q00) : Option (RT [q05, (.int .i64)]) := q22 DR Tryz.prog N (vf8 N) k91 Tryz.f98 (q10 Tryz.f98) (RT [q05, (.int .i64)]) (qd6 [q05, q05] (a, b, ())) [] (q42 [q05, (.int .i64)])
theorem u09 (N : Nat) (a b : q00) : k72 N a b = zy3 N a b := by kernel_rfl
def vq6 (m : q00 → q00 → Option OX3) : Ent := q37 [q05, q05] [q05, (.int .i64)] fun (x : Els [q05, q05]) => m x.1 x.2.1
def ys1 (N : Nat) : Ent := vq6 (zy3 N)
theorem va2 (N : Nat) : q16 Tryz.prog 98 (ys1 N) := q15 (ui0 N) Tryz.func98 rfl (by kernel_rfl) fun (x : Els [q05, q05]) => u09 N x.1 x.2.1
noncomputable def zc7 (N : Nat) : q52 := tab [(98, ys1 N), (101, qh2 N)]
theorem jo3 (N : Nat) : q14 Tryz.prog (zc7 N) := q06 (va2 N) <| q06 (qe5 N) <| q26 _
noncomputable def wm1 (N : Nat) : Ent := zm5 Tryz.prog N (zc7 N) ⟨[], [], [(1, ⟨10, 15, 0, [], []⟩)], [], false, [], []⟩ Tryz.f163 (q10 Tryz.f163)
theorem zw0 (N : Nat) : q16 Tryz.prog 163 (wm1 N) := qc6 (jo3 N) Tryz.func163 rfl (by kernel_rfl)
def wx5 : LH := ⟨[(2, .asis), (3, .asis), (6, .asis), (7, .own q05 507 26 3), (10, .int .i64), (11, .int .i64)], [], [.cells [.lst q08, .lst .bool], .cells [.int .u8, .int .i64, .str, .int .i64]]⟩
def qq6 : FH := ⟨[wx5], [], [], [], false, [], []⟩
noncomputable def w59 (N : Nat) : q52 := tab [(153, q58 N), (163, wm1 N)]
theorem y03 (N : Nat) : q14 Tryz.prog (w59 N) := q06 (q53 N) <| q06 (zw0 N) <| q26 _
noncomputable def ww3 : Sc := wl4 Tryz.prog qq6
noncomputable def z15 (N : Nat) : Cfg := ⟨N, w59 N, 0⟩
noncomputable def jl9 (N : Nat) : Exit → List TV → List TOb → Option q03 := fin Tryz.prog 0 Tryz.f99.results.toList (q42 [q08])
def w14 (n : Int) (k_l : List q03) (q09 : List Bool) (q04 q19 : Int) (q20 : List UInt8) (q68 : Int) (e : List q00 × Int) : List TV := match e with
 | (l, t11) => frm 30 [(2, .func (.func 163) [.ep [.func (.func 98) []] 0]), (3, .ref 0 0), (6, .ref 1 0), (7, .tl q05 l (.own 507 26 3)), (10, .int .i64 n), (11, .int .i64 t11)]
def w17 (n : Int) (k_l : List q03) (q09 : List Bool) (q04 q19 : Int) (q20 : List UInt8) (q68 : Int) (e : List q00 × Int) : List TOb := match e with
 | (l, t11) => [.cells [.tl q08 k_l .unk, .tl .bool q09 .unk] 118 true, .cells [.int .u8 q04, .int .i64 q19, .str q20, .int .i64 q68] 115 true]
noncomputable def ww9 (N : Nat) : (List TV → List TOb → Option q03) → List TV → List TOb → Option q03 := w57 DR ww3 (z15 N) (ql8 (qc7 (q07 (q92 (q07 (q07 (q10 Tryz.f99))))))) wx5 (qq6.loops.drop 1) (qj4 0 (qc5 DR ww3 (z15 N) (q07 (q07 (q07 (q10 Tryz.f99)))) (qq6.loops.drop 1) (jl9 N)))
def w25 (N : Nat) (n : Int) (k_l : List q03) (q09 : List Bool) (q04 q19 : Int) (q20 : List UInt8) (q68 : Int) (K0 : (List q00 × Int) → Option q03) (e : List q00 × Int) : Option q03 :=
 match e with
 | (l, t11) =>
  bif decide (t11 < n) then
   (q64 N (k_l, q09, ()) t11).bind fun r =>
   bif (r.2.1 != 0) then
    some r
   else
    bif qz1 (l.length + ([r.1] : List q00).length) 4398046511104 then
    bif q27 (t11 + 1) then
    K0 ((l ++ ([r.1] : List q00)), t11 + 1)
    else none
    else none
  else
   bif inR 0 l.length then
   bif inR 1 l.length then
   (zy3 N (q25 l 0 q32) (q25 l 1 q32)).bind fun r1 =>
   (qd1 N r1.1 r1.2.1).bind fun r2 =>
   some r2
   else none
   else none
theorem ju9 (N : Nat) (n : Int) (k_l : List q03) (q09 : List Bool) (q04 q19 : Int) (q20 : List UInt8) (q68 : Int) (n_ : Nat) (e : List q00 × Int) : q61 (ww9 N ) n_ ((w14 n k_l q09 q04 q19 q20 q68) e) ((w17 n k_l q09 q04 q19 q20 q68) e) = q95 (w25 N n k_l q09 q04 q19 q20 q68 ) n_ e :=
 q40 (w14 n k_l q09 q04 q19 q20 q68) (w17 n k_l q09 q04 q19 q20 q68) (by intro K e; obtain ⟨l, t11⟩ := e; kernel_rfl) n_ e
def z80 (N : Nat) (k : q36) (n : Int) (l1 : Int → (List q03) → (List Bool) → Int → Int → (List UInt8) → Int → (List q00 × Int) → Option q03) : Option q03 :=
 l1 n k.1 k.2.1 0 0 [] 0 ([], 0)
def qo2 (N : Nat) (k : q36) (n : Int) : Option q03 := z80 N k n (fun n k_l q09 q04 q19 q20 q68 e => q95 (w25 N n k_l q09 q04 q19 q20 q68) N e)
abbrev wz8 : List PK := [.val q72, .val (.int .i64), .fn 163 1, .ep 1, .fn 98 0]
noncomputable def zb9 (N : Nat) (k : q36) (n : Int) : Option (RT [q08]) := q22 DR Tryz.prog N (w59 N) qq6 Tryz.f99 (q10 Tryz.f99) (RT [q08]) (qy2 wz8 (k, n, ())) [] (q42 [q08])
theorem jj5 (N : Nat) (k : q36) (n : Int) : zb9 N k n = qo2 N k n := by
 have h : zb9 N k n = z80 N k n (fun n k_l q09 q04 q19 q20 q68 e => q61 (ww9 N ) N (w14 n k_l q09 q04 q19 q20 q68 e) (w17 n k_l q09 q04 q19 q20 q68 e)) := by kernel_rfl
 rw [h]
 simp only [qo2, ju9] <;> rfl
def j66 (m : q36 → Int → Option q03) : Ent := qf5 wz8 [q08] fun (x : Els [q72, (.int .i64)]) => m x.1 x.2.1
def wm8 (N : Nat) : Ent := j66 (qo2 N)
theorem zy8 (N : Nat) : q16 Tryz.prog 99 (wm8 N) := q55 (y03 N) Tryz.func99 rfl (by kernel_rfl) (by kernel_rfl) fun (x : Els [q72, (.int .i64)]) => jj5 N x.1 x.2.1
def k60 : FH := ⟨[], [], [], [], false, [], []⟩
noncomputable def xz3 (N : Nat) : q52 := tab [(96, j87 N)]
theorem ul1 (N : Nat) : q14 Tryz.prog (xz3 N) := q06 (jw6 N) <| q26 _
def zx1 (N : Nat) (a : q00) : Option OX3 :=
 (zi4 N ((vk4 (iMin a.1 (2 : Int)) (1 : Int)), 0, [], ()) a).bind fun r =>
 some r
noncomputable def k32 (N : Nat) (a : q00) : Option (RT [q05, (.int .i64)]) := q22 DR Tryz.prog N (xz3 N) k60 Tryz.f102 (q10 Tryz.f102) (RT [q05, (.int .i64)]) (qd6 [q05] (a, ())) [] (q42 [q05, (.int .i64)])
theorem ue0 (N : Nat) (a : q00) : k32 N a = zx1 N a := by kernel_rfl
def vp8 (m : q00 → Option OX3) : Ent := q37 [q05] [q05, (.int .i64)] fun (x : Els [q05]) => m x.1
def j62 (N : Nat) : Ent := vp8 (zx1 N)
theorem js5 (N : Nat) : q16 Tryz.prog 102 (j62 N) := q15 (ul1 N) Tryz.func102 rfl (by kernel_rfl) fun (x : Els [q05]) => ue0 N x.1
def vd8 : FH := ⟨[], [], [], [], false, [], []⟩
noncomputable def y04 (N : Nat) : q52 := tab [(102, j62 N), (101, qh2 N)]
theorem xt8 (N : Nat) : q14 Tryz.prog (y04 N) := q06 (js5 N) <| q06 (qe5 N) <| q26 _
def wh6 (N : Nat) (l : List q00) : Option q03 :=
 bif inR 0 l.length then
 (zx1 N (q25 l 0 q32)).bind fun r =>
 (qd1 N r.1 r.2.1).bind fun r1 =>
 some r1
 else none
noncomputable def v71 (N : Nat) (l : List q00) : Option (RT [q08]) := q22 DR Tryz.prog N (y04 N) vd8 Tryz.f100 (q10 Tryz.f100) (RT [q08]) (qd6 [(.list q05)] (l, ())) [] (q42 [q08])
theorem x63 (N : Nat) (l : List q00) : v71 N l = wh6 N l := by kernel_rfl
def yt4 (m : (List q00) → Option q03) : Ent := q37 [(.list q05)] [q08] fun (x : Els [(.list q05)]) => m x.1
def zv8 (N : Nat) : Ent := yt4 (wh6 N)
theorem yn8 (N : Nat) : q16 Tryz.prog 100 (zv8 N) := q15 (xt8 N) Tryz.func100 rfl (by kernel_rfl) fun (x : Els [(.list q05)]) => x63 N x.1
def wy1 : LH := ⟨[(2, .asis), (3, .asis), (6, .asis), (7, .own q05 507 26 3), (10, .int .i64), (11, .int .i64)], [], [.cells [.lst q08, .lst .bool], .cells [.int .u8, .int .i64, .str, .int .i64]]⟩
def qq8 : FH := ⟨[wy1], [], [], [], false, [], []⟩
noncomputable def w93 (N : Nat) : q52 := tab [(153, q58 N), (100, zv8 N)]
theorem y01 (N : Nat) : q14 Tryz.prog (w93 N) := q06 (q53 N) <| q06 (yn8 N) <| q26 _
noncomputable def wy3 : Sc := wl4 Tryz.prog qq8
noncomputable def wy8 (N : Nat) : Cfg := ⟨N, w93 N, 0⟩
noncomputable def jl6 (N : Nat) : Exit → List TV → List TOb → Option q03 := fin Tryz.prog 0 Tryz.f99.results.toList (q42 [q08])
def w15 (n : Int) (k_l : List q03) (q09 : List Bool) (q04 q19 : Int) (q20 : List UInt8) (q68 : Int) (e : List q00 × Int) : List TV := match e with
 | (l, t11) => frm 30 [(2, .func (.func 100) []), (3, .ref 0 0), (6, .ref 1 0), (7, .tl q05 l (.own 507 26 3)), (10, .int .i64 n), (11, .int .i64 t11)]
def w09 (n : Int) (k_l : List q03) (q09 : List Bool) (q04 q19 : Int) (q20 : List UInt8) (q68 : Int) (e : List q00 × Int) : List TOb := match e with
 | (l, t11) => [.cells [.tl q08 k_l .unk, .tl .bool q09 .unk] 118 true, .cells [.int .u8 q04, .int .i64 q19, .str q20, .int .i64 q68] 115 true]
noncomputable def z05 (N : Nat) : (List TV → List TOb → Option q03) → List TV → List TOb → Option q03 := w57 DR wy3 (wy8 N) (ql8 (qc7 (q07 (q92 (q07 (q07 (q10 Tryz.f99))))))) wy1 (qq8.loops.drop 1) (qj4 0 (qc5 DR wy3 (wy8 N) (q07 (q07 (q07 (q10 Tryz.f99)))) (qq8.loops.drop 1) (jl6 N)))
def qz9 (N : Nat) (n : Int) (k_l : List q03) (q09 : List Bool) (q04 q19 : Int) (q20 : List UInt8) (q68 : Int) (K0 : (List q00 × Int) → Option q03) (e : List q00 × Int) : Option q03 :=
 match e with
 | (l, t11) =>
  bif decide (t11 < n) then
   (q64 N (k_l, q09, ()) t11).bind fun r =>
   bif (r.2.1 != 0) then
    some r
   else
    bif qz1 (l.length + ([r.1] : List q00).length) 4398046511104 then
    bif q27 (t11 + 1) then
    K0 ((l ++ ([r.1] : List q00)), t11 + 1)
    else none
    else none
  else
   (wh6 N l).bind fun r1 =>
   some r1
theorem y00 (N : Nat) (n : Int) (k_l : List q03) (q09 : List Bool) (q04 q19 : Int) (q20 : List UInt8) (q68 : Int) (n_ : Nat) (e : List q00 × Int) : q61 (z05 N ) n_ ((w15 n k_l q09 q04 q19 q20 q68) e) ((w09 n k_l q09 q04 q19 q20 q68) e) = q95 (qz9 N n k_l q09 q04 q19 q20 q68 ) n_ e :=
 q40 (w15 n k_l q09 q04 q19 q20 q68) (w09 n k_l q09 q04 q19 q20 q68) (by intro K e; obtain ⟨l, t11⟩ := e; kernel_rfl) n_ e
def z90 (N : Nat) (k : q36) (n : Int) (l1 : Int → (List q03) → (List Bool) → Int → Int → (List UInt8) → Int → (List q00 × Int) → Option q03) : Option q03 :=
 l1 n k.1 k.2.1 0 0 [] 0 ([], 0)
def qn8 (N : Nat) (k : q36) (n : Int) : Option q03 := z90 N k n (fun n k_l q09 q04 q19 q20 q68 e => q95 (qz9 N n k_l q09 q04 q19 q20 q68) N e)
abbrev wy2 : List PK := [.val q72, .val (.int .i64), .fn 100 0]
noncomputable def zc8 (N : Nat) (k : q36) (n : Int) : Option (RT [q08]) := q22 DR Tryz.prog N (w93 N) qq8 Tryz.f99 (q10 Tryz.f99) (RT [q08]) (qy2 wy2 (k, n, ())) [] (q42 [q08])
theorem jk6 (N : Nat) (k : q36) (n : Int) : zc8 N k n = qn8 N k n := by
 have h : zc8 N k n = z90 N k n (fun n k_l q09 q04 q19 q20 q68 e => q61 (z05 N ) N (w15 n k_l q09 q04 q19 q20 q68 e) (w09 n k_l q09 q04 q19 q20 q68 e)) := by kernel_rfl
 rw [h]
 simp only [qn8, y00] <;> rfl
def j65 (m : q36 → Int → Option q03) : Ent := qf5 wy2 [q08] fun (x : Els [q72, (.int .i64)]) => m x.1 x.2.1
def wl6 (N : Nat) : Ent := j65 (qn8 N)
theorem zw3 (N : Nat) : q16 Tryz.prog 99 (wl6 N) := q55 (y01 N) Tryz.func99 rfl (by kernel_rfl) (by kernel_rfl) fun (x : Els [q72, (.int .i64)]) => jk6 N x.1 x.2.1
def yf1 : LH := ⟨[(0, .int .i64), (4, .asis), (9, .asis), (33, .lst q05), (34, .int .i64), (35, .int .i64)], [], [.cells [.int .u8, .int .i64, .str], .cells [.int .u8, .int .i64, .str]]⟩
def zd7 : FH := ⟨[yf1], [], [], [], false, [], []⟩
noncomputable def jd0 (N : Nat) : q52 := tab [(217, qs2 N), (223, w02 N)]
theorem vp4 (N : Nat) : q14 Tryz.prog (jd0 N) := q06 (qs4 N) <| q06 (wi2 N) <| q26 _
noncomputable def yf2 : Sc := wl4 Tryz.prog zd7
noncomputable def yg1 (N : Nat) : Cfg := ⟨N, jd0 N, 0⟩
noncomputable def vb3 (N : Nat) : Exit → List TV → List TOb → Option OX3 := fin Tryz.prog 0 Tryz.f171.results.toList (q42 [q05, (.int .i64)])
def zs7 (c : Int) (t33 : List q00) (t34 wj7 kh4 : Int) (kh6 : List UInt8) (e : Int × Int × Int × List UInt8) : List TV := match e with
 | (t35, out_Kind, out_N, out_S) => frm 49 [(0, .int .i64 c), (4, .ref 0 0), (9, .ref 1 0), (33, .tl q05 t33 .unk), (34, .int .i64 t34), (35, .int .i64 t35)]
def zs8 (c : Int) (t33 : List q00) (t34 wj7 kh4 : Int) (kh6 : List UInt8) (e : Int × Int × Int × List UInt8) : List TOb := match e with
 | (t35, out_Kind, out_N, out_S) => [.cells [.int .u8 wj7, .int .i64 kh4, .str kh6] 26 true, .cells [.int .u8 out_Kind, .int .i64 out_N, .str out_S] 26 true]
noncomputable def yf6 (N : Nat) : (List TV → List TOb → Option OX3) → List TV → List TOb → Option OX3 := w57 DR yf2 (yg1 N) (ql8 (qc7 (q07 (q92 (q07 (q07 (q07 (q07 (q10 Tryz.f171))))))))) yf1 (zd7.loops.drop 1) (qj4 0 (qc5 DR yf2 (yg1 N) (q07 (q07 (q07 (q07 (q07 (q10 Tryz.f171)))))) (zd7.loops.drop 1) (vb3 N)))
def zu2 (N : Nat) (c : Int) (t33 : List q00) (t34 wj7 kh4 : Int) (kh6 : List UInt8) (K0 : (Int × Int × Int × List UInt8) → Option OX3) (e : Int × Int × Int × List UInt8) : Option OX3 :=
 match e with
 | (t35, out_Kind, out_N, out_S) =>
  bif decide (t35 < t34) then
   bif inR t35 t33.length then
   (qk0 N ((q25 t33 t35 q32).2.1) out_N).bind fun r1 =>
   bif (r1 == c) then
    bif q27 (t35 + 1) then
    K0 (t35 + 1, (q25 t33 t35 q32).1, (q25 t33 t35 q32).2.1, (q25 t33 t35 q32).2.2.1)
    else none
   else
    bif q27 (t35 + 1) then
    K0 (t35 + 1, out_Kind, out_N, out_S)
    else none
   else none
  else
   some ((out_Kind, out_N, out_S, ()), 0, ())
theorem vn3 (N : Nat) (c : Int) (t33 : List q00) (t34 wj7 kh4 : Int) (kh6 : List UInt8) (n_ : Nat) (e : Int × Int × Int × List UInt8) : q61 (yf6 N ) n_ ((zs7 c t33 t34 wj7 kh4 kh6) e) ((zs8 c t33 t34 wj7 kh4 kh6) e) = q95 (zu2 N c t33 t34 wj7 kh4 kh6 ) n_ e :=
 q40 (zs7 c t33 t34 wj7 kh4 kh6) (zs8 c t33 t34 wj7 kh4 kh6) (by intro K e; obtain ⟨t35, out_Kind, out_N, out_S⟩ := e; kernel_rfl) n_ e
def jb5 (N : Nat) (c : Int) (l : List q00) (l1 : Int → (List q00) → Int → Int → Int → (List UInt8) → (Int × Int × Int × List UInt8) → Option OX3) : Option OX3 :=
 (qa2 N l).bind fun r =>
 bif r.2.1 then
  some ((0, 0, [], ()), r.2.2.1, ())
 else
  bif (r.2.2.1 != 0) then
   some ((0, 0, [], ()), r.2.2.1, ())
  else
   bif ((r.1.length : Int) == 0) then
    some ((0, 0, [], ()), r.2.2.1, ())
   else
    bif inR 0 r.1.length then
    l1 c r.1 (r.1.length : Int) 0 0 [] (0, (q25 r.1 0 q32).1, (q25 r.1 0 q32).2.1, (q25 r.1 0 q32).2.2.1)
    else none
def qf6 (N : Nat) (c : Int) (l : List q00) : Option OX3 := jb5 N c l (fun c t33 t34 wj7 kh4 kh6 e => q95 (zu2 N c t33 t34 wj7 kh4 kh6) N e)
noncomputable def ys0 (N : Nat) (c : Int) (l : List q00) : Option (RT [q05, (.int .i64)]) := q22 DR Tryz.prog N (jd0 N) zd7 Tryz.f171 (q10 Tryz.f171) (RT [q05, (.int .i64)]) (qd6 [(.int .i64), (.list q05)] (c, l, ())) [] (q42 [q05, (.int .i64)])
theorem v50 (N : Nat) (c : Int) (l : List q00) : ys0 N c l = qf6 N c l := by
 have h : ys0 N c l = jb5 N c l (fun c t33 t34 wj7 kh4 kh6 e => q61 (yf6 N ) N (zs7 c t33 t34 wj7 kh4 kh6 e) (zs8 c t33 t34 wj7 kh4 kh6 e)) := by kernel_rfl
 rw [h]
 simp only [qf6, vn3] <;> rfl
def xt4 (m : Int → (List q00) → Option OX3) : Ent := q37 [(.int .i64), (.list q05)] [q05, (.int .i64)] fun (x : Els [(.int .i64), (.list q05)]) => m x.1 x.2.1
def zh8 (N : Nat) : Ent := xt4 (qf6 N)
theorem j07 (N : Nat) : q16 Tryz.prog 171 (zh8 N) := q15 (vp4 N) Tryz.func171 rfl (by kernel_rfl) fun (x : Els [(.int .i64), (.list q05)]) => v50 N x.1 x.2.1
def u60 : FH := ⟨[], [], [], [], false, [], []⟩
noncomputable def x33 (N : Nat) : q52 := tab [(171, zh8 N)]
theorem vo9 (N : Nat) : q14 Tryz.prog (x33 N) := q06 (j07 N) <| q26 _
def j88 (N : Nat) (l : List q00) : Option OX3 :=
 (qf6 N (-1) l).bind fun r =>
 some r
noncomputable def ua4 (N : Nat) (l : List q00) : Option (RT [q05, (.int .i64)]) := q22 DR Tryz.prog N (x33 N) u60 Tryz.f104 (q10 Tryz.f104) (RT [q05, (.int .i64)]) (qd6 [(.list q05)] (l, ())) [] (q42 [q05, (.int .i64)])
theorem vg4 (N : Nat) (l : List q00) : ua4 N l = j88 N l := by kernel_rfl
def xs8 (m : (List q00) → Option OX3) : Ent := q37 [(.list q05)] [q05, (.int .i64)] fun (x : Els [(.list q05)]) => m x.1
def y21 (N : Nat) : Ent := xs8 (j88 N)
theorem x88 (N : Nat) : q16 Tryz.prog 104 (y21 N) := q15 (vo9 N) Tryz.func104 rfl (by kernel_rfl) fun (x : Els [(.list q05)]) => vg4 N x.1
def vc0 : FH := ⟨[], [], [], [], false, [], []⟩
noncomputable def jt5 (N : Nat) : q52 := tab [(104, y21 N), (101, qh2 N)]
theorem xv9 (N : Nat) : q14 Tryz.prog (jt5 N) := q06 (x88 N) <| q06 (qe5 N) <| q26 _
def wj2 (N : Nat) (l : List q00) : Option q03 :=
 (j88 N l).bind fun r =>
 (qd1 N r.1 r.2.1).bind fun r1 =>
 some r1
noncomputable def vh0 (N : Nat) (l : List q00) : Option (RT [q08]) := q22 DR Tryz.prog N (jt5 N) vc0 Tryz.f103 (q10 Tryz.f103) (RT [q08]) (qd6 [(.list q05)] (l, ())) [] (q42 [q08])
theorem xf0 (N : Nat) (l : List q00) : vh0 N l = wj2 N l := by kernel_rfl
def yt1 (m : (List q00) → Option q03) : Ent := q37 [(.list q05)] [q08] fun (x : Els [(.list q05)]) => m x.1
def j05 (N : Nat) : Ent := yt1 (wj2 N)
theorem yq7 (N : Nat) : q16 Tryz.prog 103 (j05 N) := q15 (xv9 N) Tryz.func103 rfl (by kernel_rfl) fun (x : Els [(.list q05)]) => xf0 N x.1
def wv6 : LH := ⟨[(2, .asis), (3, .asis), (6, .asis), (7, .own q05 507 26 3), (10, .int .i64), (11, .int .i64)], [], [.cells [.lst q08, .lst .bool], .cells [.int .u8, .int .i64, .str, .int .i64]]⟩
def qq5 : FH := ⟨[wv6], [], [], [], false, [], []⟩
noncomputable def w79 (N : Nat) : q52 := tab [(153, q58 N), (103, j05 N)]
theorem jw2 (N : Nat) : q14 Tryz.prog (w79 N) := q06 (q53 N) <| q06 (yq7 N) <| q26 _
noncomputable def wz3 : Sc := wl4 Tryz.prog qq5
noncomputable def z04 (N : Nat) : Cfg := ⟨N, w79 N, 0⟩
noncomputable def jm6 (N : Nat) : Exit → List TV → List TOb → Option q03 := fin Tryz.prog 0 Tryz.f99.results.toList (q42 [q08])
def w13 (n : Int) (k_l : List q03) (q09 : List Bool) (q04 q19 : Int) (q20 : List UInt8) (q68 : Int) (e : List q00 × Int) : List TV := match e with
 | (l, t11) => frm 30 [(2, .func (.func 103) []), (3, .ref 0 0), (6, .ref 1 0), (7, .tl q05 l (.own 507 26 3)), (10, .int .i64 n), (11, .int .i64 t11)]
def w27 (n : Int) (k_l : List q03) (q09 : List Bool) (q04 q19 : Int) (q20 : List UInt8) (q68 : Int) (e : List q00 × Int) : List TOb := match e with
 | (l, t11) => [.cells [.tl q08 k_l .unk, .tl .bool q09 .unk] 118 true, .cells [.int .u8 q04, .int .i64 q19, .str q20, .int .i64 q68] 115 true]
noncomputable def wy4 (N : Nat) : (List TV → List TOb → Option q03) → List TV → List TOb → Option q03 := w57 DR wz3 (z04 N) (ql8 (qc7 (q07 (q92 (q07 (q07 (q10 Tryz.f99))))))) wv6 (qq5.loops.drop 1) (qj4 0 (qc5 DR wz3 (z04 N) (q07 (q07 (q07 (q10 Tryz.f99)))) (qq5.loops.drop 1) (jm6 N)))
def w16 (N : Nat) (n : Int) (k_l : List q03) (q09 : List Bool) (q04 q19 : Int) (q20 : List UInt8) (q68 : Int) (K0 : (List q00 × Int) → Option q03) (e : List q00 × Int) : Option q03 :=
 match e with
 | (l, t11) =>
  bif decide (t11 < n) then
   (q64 N (k_l, q09, ()) t11).bind fun r =>
   bif (r.2.1 != 0) then
    some r
   else
    bif qz1 (l.length + ([r.1] : List q00).length) 4398046511104 then
    bif q27 (t11 + 1) then
    K0 ((l ++ ([r.1] : List q00)), t11 + 1)
    else none
    else none
  else
   (wj2 N l).bind fun r1 =>
   some r1
theorem jv5 (N : Nat) (n : Int) (k_l : List q03) (q09 : List Bool) (q04 q19 : Int) (q20 : List UInt8) (q68 : Int) (n_ : Nat) (e : List q00 × Int) : q61 (wy4 N ) n_ ((w13 n k_l q09 q04 q19 q20 q68) e) ((w27 n k_l q09 q04 q19 q20 q68) e) = q95 (w16 N n k_l q09 q04 q19 q20 q68 ) n_ e :=
 q40 (w13 n k_l q09 q04 q19 q20 q68) (w27 n k_l q09 q04 q19 q20 q68) (by intro K e; obtain ⟨l, t11⟩ := e; kernel_rfl) n_ e
def z67 (N : Nat) (k : q36) (n : Int) (l1 : Int → (List q03) → (List Bool) → Int → Int → (List UInt8) → Int → (List q00 × Int) → Option q03) : Option q03 :=
 l1 n k.1 k.2.1 0 0 [] 0 ([], 0)
def qi0 (N : Nat) (k : q36) (n : Int) : Option q03 := z67 N k n (fun n k_l q09 q04 q19 q20 q68 e => q95 (w16 N n k_l q09 q04 q19 q20 q68) N e)
abbrev wt3 : List PK := [.val q72, .val (.int .i64), .fn 103 0]
noncomputable def z52 (N : Nat) (k : q36) (n : Int) : Option (RT [q08]) := q22 DR Tryz.prog N (w79 N) qq5 Tryz.f99 (q10 Tryz.f99) (RT [q08]) (qy2 wt3 (k, n, ())) [] (q42 [q08])
theorem jj8 (N : Nat) (k : q36) (n : Int) : z52 N k n = qi0 N k n := by
 have h : z52 N k n = z67 N k n (fun n k_l q09 q04 q19 q20 q68 e => q61 (wy4 N ) N (w13 n k_l q09 q04 q19 q20 q68 e) (w27 n k_l q09 q04 q19 q20 q68 e)) := by kernel_rfl
 rw [h]
 simp only [qi0, jv5] <;> rfl
def j64 (m : q36 → Int → Option q03) : Ent := qf5 wt3 [q08] fun (x : Els [q72, (.int .i64)]) => m x.1 x.2.1
def wl7 (N : Nat) : Ent := j64 (qi0 N)
theorem j03 (N : Nat) : q16 Tryz.prog 99 (wl7 N) := q55 (jw2 N) Tryz.func99 rfl (by kernel_rfl) (by kernel_rfl) fun (x : Els [q72, (.int .i64)]) => jj8 N x.1 x.2.1
def ul3 : FH := ⟨[], [], [], [], false, [], []⟩
noncomputable def xk7 (N : Nat) : q52 := tab [(171, zh8 N)]
theorem u72 (N : Nat) : q14 Tryz.prog (xk7 N) := q06 (j07 N) <| q26 _
def y53 (N : Nat) (l : List q00) : Option OX3 :=
 (qf6 N 1 l).bind fun r =>
 some r
noncomputable def uj6 (N : Nat) (l : List q00) : Option (RT [q05, (.int .i64)]) := q22 DR Tryz.prog N (xk7 N) ul3 Tryz.f106 (q10 Tryz.f106) (RT [q05, (.int .i64)]) (qd6 [(.list q05)] (l, ())) [] (q42 [q05, (.int .i64)])
theorem vm7 (N : Nat) (l : List q00) : uj6 N l = y53 N l := by kernel_rfl
def v22 (m : (List q00) → Option OX3) : Ent := q37 [(.list q05)] [q05, (.int .i64)] fun (x : Els [(.list q05)]) => m x.1
def yg4 (N : Nat) : Ent := v22 (y53 N)
theorem xr6 (N : Nat) : q16 Tryz.prog 106 (yg4 N) := q15 (u72 N) Tryz.func106 rfl (by kernel_rfl) fun (x : Els [(.list q05)]) => vm7 N x.1
def v36 : FH := ⟨[], [], [], [], false, [], []⟩
noncomputable def y27 (N : Nat) : q52 := tab [(106, yg4 N), (101, qh2 N)]
theorem xu9 (N : Nat) : q14 Tryz.prog (y27 N) := q06 (xr6 N) <| q06 (qe5 N) <| q26 _
def wh2 (N : Nat) (l : List q00) : Option q03 :=
 (y53 N l).bind fun r =>
 (qd1 N r.1 r.2.1).bind fun r1 =>
 some r1
noncomputable def vi7 (N : Nat) (l : List q00) : Option (RT [q08]) := q22 DR Tryz.prog N (y27 N) v36 Tryz.f105 (q10 Tryz.f105) (RT [q08]) (qd6 [(.list q05)] (l, ())) [] (q42 [q08])
theorem x77 (N : Nat) (l : List q00) : vi7 N l = wh2 N l := by kernel_rfl
def x06 (m : (List q00) → Option q03) : Ent := q37 [(.list q05)] [q08] fun (x : Els [(.list q05)]) => m x.1
def j27 (N : Nat) : Ent := x06 (wh2 N)
theorem yo5 (N : Nat) : q16 Tryz.prog 105 (j27 N) := q15 (xu9 N) Tryz.func105 rfl (by kernel_rfl) fun (x : Els [(.list q05)]) => x77 N x.1
def wx8 : LH := ⟨[(2, .asis), (3, .asis), (6, .asis), (7, .own q05 507 26 3), (10, .int .i64), (11, .int .i64)], [], [.cells [.lst q08, .lst .bool], .cells [.int .u8, .int .i64, .str, .int .i64]]⟩
def qq2 : FH := ⟨[wx8], [], [], [], false, [], []⟩
noncomputable def wa0 (N : Nat) : q52 := tab [(153, q58 N), (105, j27 N)]
theorem y46 (N : Nat) : q14 Tryz.prog (wa0 N) := q06 (q53 N) <| q06 (yo5 N) <| q26 _
noncomputable def z08 : Sc := wl4 Tryz.prog qq2
noncomputable def ww8 (N : Nat) : Cfg := ⟨N, wa0 N, 0⟩
noncomputable def jm0 (N : Nat) : Exit → List TV → List TOb → Option q03 := fin Tryz.prog 0 Tryz.f99.results.toList (q42 [q08])
def w04 (n : Int) (k_l : List q03) (q09 : List Bool) (q04 q19 : Int) (q20 : List UInt8) (q68 : Int) (e : List q00 × Int) : List TV := match e with
 | (l, t11) => frm 30 [(2, .func (.func 105) []), (3, .ref 0 0), (6, .ref 1 0), (7, .tl q05 l (.own 507 26 3)), (10, .int .i64 n), (11, .int .i64 t11)]
def w19 (n : Int) (k_l : List q03) (q09 : List Bool) (q04 q19 : Int) (q20 : List UInt8) (q68 : Int) (e : List q00 × Int) : List TOb := match e with
 | (l, t11) => [.cells [.tl q08 k_l .unk, .tl .bool q09 .unk] 118 true, .cells [.int .u8 q04, .int .i64 q19, .str q20, .int .i64 q68] 115 true]
noncomputable def wx4 (N : Nat) : (List TV → List TOb → Option q03) → List TV → List TOb → Option q03 := w57 DR z08 (ww8 N) (ql8 (qc7 (q07 (q92 (q07 (q07 (q10 Tryz.f99))))))) wx8 (qq2.loops.drop 1) (qj4 0 (qc5 DR z08 (ww8 N) (q07 (q07 (q07 (q10 Tryz.f99)))) (qq2.loops.drop 1) (jm0 N)))
def w06 (N : Nat) (n : Int) (k_l : List q03) (q09 : List Bool) (q04 q19 : Int) (q20 : List UInt8) (q68 : Int) (K0 : (List q00 × Int) → Option q03) (e : List q00 × Int) : Option q03 :=
 match e with
 | (l, t11) =>
  bif decide (t11 < n) then
   (q64 N (k_l, q09, ()) t11).bind fun r =>
   bif (r.2.1 != 0) then
    some r
   else
    bif qz1 (l.length + ([r.1] : List q00).length) 4398046511104 then
    bif q27 (t11 + 1) then
    K0 ((l ++ ([r.1] : List q00)), t11 + 1)
    else none
    else none
  else
   (wh2 N l).bind fun r1 =>
   some r1
theorem jo8 (N : Nat) (n : Int) (k_l : List q03) (q09 : List Bool) (q04 q19 : Int) (q20 : List UInt8) (q68 : Int) (n_ : Nat) (e : List q00 × Int) : q61 (wx4 N ) n_ ((w04 n k_l q09 q04 q19 q20 q68) e) ((w19 n k_l q09 q04 q19 q20 q68) e) = q95 (w06 N n k_l q09 q04 q19 q20 q68 ) n_ e :=
 q40 (w04 n k_l q09 q04 q19 q20 q68) (w19 n k_l q09 q04 q19 q20 q68) (by intro K e; obtain ⟨l, t11⟩ := e; kernel_rfl) n_ e
def z97 (N : Nat) (k : q36) (n : Int) (l1 : Int → (List q03) → (List Bool) → Int → Int → (List UInt8) → Int → (List q00 × Int) → Option q03) : Option q03 :=
 l1 n k.1 k.2.1 0 0 [] 0 ([], 0)
def qh8 (N : Nat) (k : q36) (n : Int) : Option q03 := z97 N k n (fun n k_l q09 q04 q19 q20 q68 e => q95 (w06 N n k_l q09 q04 q19 q20 q68) N e)
abbrev wx2 : List PK := [.val q72, .val (.int .i64), .fn 105 0]
noncomputable def z55 (N : Nat) (k : q36) (n : Int) : Option (RT [q08]) := q22 DR Tryz.prog N (wa0 N) qq2 Tryz.f99 (q10 Tryz.f99) (RT [q08]) (qy2 wx2 (k, n, ())) [] (q42 [q08])
theorem ji3 (N : Nat) (k : q36) (n : Int) : z55 N k n = qh8 N k n := by
 have h : z55 N k n = z97 N k n (fun n k_l q09 q04 q19 q20 q68 e => q61 (wx4 N ) N (w04 n k_l q09 q04 q19 q20 q68 e) (w19 n k_l q09 q04 q19 q20 q68 e)) := by kernel_rfl
 rw [h]
 simp only [qh8, jo8] <;> rfl
def jb9 (m : q36 → Int → Option q03) : Ent := qf5 wx2 [q08] fun (x : Els [q72, (.int .i64)]) => m x.1 x.2.1
def wm0 (N : Nat) : Ent := jb9 (qh8 N)
theorem j26 (N : Nat) : q16 Tryz.prog 99 (wm0 N) := q55 (y46 N) Tryz.func99 rfl (by kernel_rfl) (by kernel_rfl) fun (x : Els [q72, (.int .i64)]) => ji3 N x.1 x.2.1
def kr4 : FH := ⟨[], [], [], [], false, [], []⟩
noncomputable def vx9 (N : Nat) : q52 := tab [(159, qd9 N), (76, q97 N), (102, j62 N), (101, qh2 N)]
theorem k50 (N : Nat) : q14 Tryz.prog (vx9 N) := q06 (qc9 N) <| q06 (q87 N) <| q06 (js5 N) <| q06 (qe5 N) <| q26 _
def y52 (N : Nat) (l : List q00) : Option q03 :=
 (qb3 N 1 2 l).bind fun r =>
 bif (!r) then
  (qe0 N 8).bind fun r1 =>
  some r1
 else
  bif inR 0 l.length then
  bif decide (((q25 l 0 q32).2.1) < 0) then
   bif inR 0 l.length then
   (zx1 N (q25 l 0 q32)).bind fun r2 =>
   (qd1 N r2.1 r2.2.1).bind fun r3 =>
   some r3
   else none
  else
   bif inR 0 l.length then
   some ((q25 l 0 q32), 0, ())
   else none
  else none
noncomputable def kl0 (N : Nat) (l : List q00) : Option (RT [q08]) := q22 DR Tryz.prog N (vx9 N) kr4 Tryz.f107 (q10 Tryz.f107) (RT [q08]) (qd6 [(.list q05)] (l, ())) [] (q42 [q08])
theorem ut4 (N : Nat) (l : List q00) : kl0 N l = y52 N l := by kernel_rfl
def u81 (m : (List q00) → Option q03) : Ent := q37 [(.list q05)] [q08] fun (x : Els [(.list q05)]) => m x.1
def xp5 (N : Nat) : Ent := u81 (y52 N)
theorem vo3 (N : Nat) : q16 Tryz.prog 107 (xp5 N) := q15 (k50 N) Tryz.func107 rfl (by kernel_rfl) fun (x : Els [(.list q05)]) => ut4 N x.1
end Go.Proofs.YtgicljncknbgcaaGreat.Abs
