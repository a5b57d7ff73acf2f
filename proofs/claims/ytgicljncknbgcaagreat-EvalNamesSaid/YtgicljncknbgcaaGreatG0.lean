/- The functions of the program, told on typed values, printed by a program: each tells what the reckoning of its body tells. -/
import Derived.Test.YtgicljncknbgcaaGreatL7
import Derived.Test.YtgicljncknbgcaaGreatLA
import Derived.Test.YtgicljncknbgcaaGreatProg
set_option linter.unusedVariables false
set_option linter.unusedSimpArgs false
set_option linter.unusedSectionVars false
namespace Go.Proofs.YtgicljncknbgcaaGreat.Abs
set_option maxRecDepth 100000
open Go Go.Proofs
def q05 : Ty := .st [(.int .u8), (.int .i64), .str]
abbrev q00 : Type := Int × Int × (List UInt8) × Unit
def q32 : q00 := (0, 0, [], ())
def q70 : Ty := .st [.str, q05]
abbrev q31 : Type := (List UInt8) × q00 × Unit
def wk7 : q31 := ([], q32, ())
def w86 : Ty := .st [(.int .i64), (.int .i64)]
abbrev qv3 : Type := Int × Int × Unit
def d_Place : qv3 := (0, 0, ())
def q82 : Ty := .st [(.int .u8), q05, .str, (.list (.int .i64)), w86]
abbrev q24 : Type := Int × q00 × (List UInt8) × (List Int) × qv3 × Unit
def qp5 : q24 := (0, q32, [], [], d_Place, ())
def qd3 : Ty := .st [(.int .u8), .str, q05, w86]
abbrev q45 : Type := Int × (List UInt8) × q00 × qv3 × Unit
def q34 : q45 := (0, [], q32, d_Place, ())
def ql6 : Ty := .st [.bool, (.list (.int .i64))]
abbrev qa6 : Type := Bool × (List Int) × Unit
def q08 : Ty := .st [q05, (.int .i64)]
abbrev q03 : Type := q00 × Int × Unit
def ws3 : q03 := (q32, 0, ())
def q72 : Ty := .st [(.list q08), (.list .bool)]
abbrev q36 : Type := (List q03) × (List Bool) × Unit
abbrev OX0 : Type := ((((List q45) × Int × Int × (List q24) × Int × Int × Unit) × Unit) × (Int × Unit))
abbrev OX1 : Type := (((List q45) × Int × Int × (List q24) × Int × Int × Unit) × Unit)
abbrev OX2 : Type := ((List q45) × Int × Int × (List q24) × Int × Int × Unit)
abbrev OX3 : Type := (q00 × Int × Unit)
abbrev OX4 : Type := (qa6 × Bool × Bool × Unit)
abbrev OX5 : Type := (List q45 × Int × Int × List q24 × Int × Int × List Int)
abbrev OX6 : Type := ((List q45) × qv3 × Int × Unit)
abbrev OX7 : Type := ((List q00) × Bool × Int × Unit)
abbrev OX8 : Type := (Int × List q45 × Int × Int × List q24 × Int × Int)
def q78 : List UInt8 := 0 :: 1 :: 2 :: 2 :: 3 :: 3 :: 3 :: 3 :: 4 :: 4 :: 4 :: 4 :: 4 :: 4 :: 4 :: 4 :: 5 :: 5 :: 5 :: 5 :: 5 :: 5 :: 5 :: 5 :: 5 :: 5 :: 5 :: 5 :: 5 :: 5 :: 5 :: 5 :: 6 :: 6 :: 6 :: 6 :: 6 :: 6 :: 6 :: 6 :: 6 :: 6 :: 6 :: 6 :: 6 :: 6 :: 6 :: 6 :: 6 :: 6 :: 6 :: 6 :: 6 :: 6 :: 6 :: 6 :: 6 :: 6 :: 6 :: 6 :: 6 :: 6 :: 6 :: 6 :: 7 :: 7 :: 7 :: 7 :: 7 :: 7 :: 7 :: 7 :: 7 :: 7 :: 7 :: 7 :: 7 :: 7 :: 7 :: 7 :: 7 :: 7 :: 7 :: 7 :: 7 :: 7 :: 7 :: 7 :: 7 :: 7 :: 7 :: 7 :: 7 :: 7 :: 7 :: 7 :: 7 :: 7 :: 7 :: 7 :: 7 :: 7 :: 7 :: 7 :: 7 :: 7 :: 7 :: 7 :: 7 :: 7 :: 7 :: 7 :: 7 :: 7 :: 7 :: 7 :: 7 :: 7 :: 7 :: 7 :: 7 :: 7 :: 7 :: 7 :: 7 :: 7 :: 7 :: 7 :: 8 :: 8 :: 8 :: 8 :: 8 :: 8 :: 8 :: 8 :: 8 :: 8 :: 8 :: 8 :: 8 :: 8 :: 8 :: 8 :: 8 :: 8 :: 8 :: 8 :: 8 :: 8 :: 8 :: 8 :: 8 :: 8 :: 8 :: 8 :: 8 :: 8 :: 8 :: 8 :: 8 :: 8 :: 8 :: 8 :: 8 :: 8 :: 8 :: 8 :: 8 :: 8 :: 8 :: 8 :: 8 :: 8 :: 8 :: 8 :: 8 :: 8 :: 8 :: 8 :: 8 :: 8 :: 8 :: 8 :: 8 :: 8 :: 8 :: 8 :: 8 :: 8 :: 8 :: 8 :: 8 :: 8 :: 8 :: 8 :: 8 :: 8 :: 8 :: 8 :: 8 :: 8 :: 8 :: 8 :: 8 :: 8 :: 8 :: 8 :: 8 :: 8 :: 8 :: 8 :: 8 :: 8 :: 8 :: 8 :: 8 :: 8 :: 8 :: 8 :: 8 :: 8 :: 8 :: 8 :: 8 :: 8 :: 8 :: 8 :: 8 :: 8 :: 8 :: 8 :: 8 :: 8 :: 8 :: 8 :: 8 :: 8 :: 8 :: 8 :: 8 :: 8 :: 8 :: 8 :: 8 :: 8 :: 8 :: 8 :: 8 :: 8 :: 8 :: 8 :: 8 :: 8 :: 8 :: 8 :: []
def kq3 : FH := ⟨[], [], [], [], false, [], []⟩
noncomputable def vt8 (N : Nat) : q52 := tab []
theorem k34 (N : Nat) : q14 Tryz.prog (vt8 N) := q26 _
def y56 (N : Nat) (c : Int) : Option Bool :=
 bif decide (c ≥ 97) then
  some (decide (c ≤ 122))
 else
  some false
noncomputable def kp8 (N : Nat) (c : Int) : Option (RT [.bool]) := q22 DR Tryz.prog N (vt8 N) kq3 Tryz.f200 (q10 Tryz.f200) (RT [.bool]) (qd6 [(.int .u8)] (c, ())) [] (q42 [.bool])
theorem uw2 (N : Nat) (c : Int) : kp8 N c = y56 N c := by kernel_rfl
def uc6 (m : Int → Option Bool) : Ent := q37 [(.int .u8)] [.bool] fun (x : Els [(.int .u8)]) => m x.1
def xi3 (N : Nat) : Ent := uc6 (y56 N)
theorem vk5 (N : Nat) : q16 Tryz.prog 200 (xi3 N) := q15 (k34 N) Tryz.func200 rfl (by kernel_rfl) fun (x : Els [(.int .u8)]) => uw2 N x.1
def kp4 : FH := ⟨[], [], [], [], false, [], []⟩
noncomputable def vt2 (N : Nat) : q52 := tab []
theorem k59 (N : Nat) : q14 Tryz.prog (vt2 N) := q26 _
def wk0 (N : Nat) (c : Int) : Option Bool :=
 bif decide (c ≥ 48) then
  some (decide (c ≤ 57))
 else
  some false
noncomputable def kp1 (N : Nat) (c : Int) : Option (RT [.bool]) := q22 DR Tryz.prog N (vt2 N) kp4 Tryz.f136 (q10 Tryz.f136) (RT [.bool]) (qd6 [(.int .u8)] (c, ())) [] (q42 [.bool])
theorem uw5 (N : Nat) (c : Int) : kp1 N c = wk0 N c := by kernel_rfl
def u71 (m : Int → Option Bool) : Ent := q37 [(.int .u8)] [.bool] fun (x : Els [(.int .u8)]) => m x.1
def zr2 (N : Nat) : Ent := u71 (wk0 N)
theorem zt7 (N : Nat) : q16 Tryz.prog 136 (zr2 N) := q15 (k59 N) Tryz.func136 rfl (by kernel_rfl) fun (x : Els [(.int .u8)]) => uw5 N x.1
def uv2 : LH := ⟨[(0, .str), (1, .int .i64)], [], []⟩
def xw5 : FH := ⟨[uv2], [], [], [], false, [], []⟩
noncomputable def u32 (N : Nat) : q52 := tab [(200, xi3 N), (136, zr2 N)]
theorem r6_run_Ts (N : Nat) : q14 Tryz.prog (u32 N) := q06 (vk5 N) <| q06 (zt7 N) <| q26 _
noncomputable def uj8 : Sc := wl4 Tryz.prog xw5
noncomputable def uk9 (N : Nat) : Cfg := ⟨N, u32 N, 0⟩
noncomputable def kl9 (N : Nat) : Exit → List TV → List TOb → Option Int := fin Tryz.prog 0 Tryz.f135.results.toList (q42 [(.int .i64)])
def vj1 (s : List UInt8) (e : Int) : List TV := match e with
 | at_1 => frm 36 [(0, .str s), (1, .int .i64 at_1)]
def vd7 (s : List UInt8) (e : Int) : List TOb := match e with
 | at_1 => []
noncomputable def uh5 (N : Nat) : (List TV → List TOb → Option Int) → List TV → List TOb → Option Int := w57 DR uj8 (uk9 N) (ql8 (qc7 (q92 (q07 (q07 (q10 Tryz.f135)))))) uv2 (xw5.loops.drop 1) (qj4 0 (qc5 DR uj8 (uk9 N) (q07 (q07 (q07 (q10 Tryz.f135)))) (xw5.loops.drop 1) (kl9 N)))
def yy2 (N : Nat) (s : List UInt8) (K0 : Int → Option Int) (e : Int) : Option Int :=
 match e with
 | at_1 =>
  bif decide (at_1 < (s.length : Int)) then
   bif inR at_1 s.length then
   (y56 N (q38 s at_1)).bind fun r1 =>
   bif r1 then
    bif q27 (at_1 + 1) then
    K0 (at_1 + 1)
    else none
   else
    bif inR at_1 s.length then
    (wk0 N (q38 s at_1)).bind fun r2 =>
    bif r2 then
     bif q27 (at_1 + 1) then
     K0 (at_1 + 1)
     else none
    else
     some at_1
    else none
   else none
  else
   some at_1
theorem r6_run_l1 (N : Nat) (s : List UInt8) (n_ : Nat) (e : Int) : q61 (uh5 N ) n_ ((vj1 s) e) ((vd7 s) e) = q95 (yy2 N s ) n_ e :=
 q40 (vj1 s) (vd7 s) (by intro K e; kernel_rfl) n_ e
def u03 (N : Nat) (s : List UInt8) (at_ : Int) (l1 : (List UInt8) → Int → Option Int) : Option Int :=
 bif decide (at_ ≥ (s.length : Int)) then
  some at_
 else
  bif inR at_ s.length then
  (y56 N (q38 s at_)).bind fun r =>
  bif (!r) then
   some at_
  else
   l1 s at_
  else none
def va5 (N : Nat) (s : List UInt8) (at_ : Int) : Option Int := u03 N s at_ (fun s e => q95 (yy2 N s) N e)
noncomputable def kd4 (N : Nat) (s : List UInt8) (at_ : Int) : Option (RT [(.int .i64)]) := q22 DR Tryz.prog N (u32 N) xw5 Tryz.f135 (q10 Tryz.f135) (RT [(.int .i64)]) (qd6 [.str, (.int .i64)] (s, at_, ())) [] (q42 [(.int .i64)])
theorem kq6 (N : Nat) (s : List UInt8) (at_ : Int) : kd4 N s at_ = va5 N s at_ := by
 have h : kd4 N s at_ = u03 N s at_ (fun s e => q61 (uh5 N ) N (vj1 s e) (vd7 s e)) := by kernel_rfl
 rw [h]
 simp only [va5, r6_run_l1] <;> rfl
def k68 (m : (List UInt8) → Int → Option Int) : Ent := q37 [.str, (.int .i64)] [(.int .i64)] fun (x : Els [.str, (.int .i64)]) => m x.1 x.2.1
def vv7 (N : Nat) : Ent := k68 (va5 N)
theorem uk5 (N : Nat) : q16 Tryz.prog 135 (vv7 N) := q15 (r6_run_Ts N) Tryz.func135 rfl (by kernel_rfl) fun (x : Els [.str, (.int .i64)]) => kq6 N x.1 x.2.1
def xm5 : LH := ⟨[(0, .str), (1, .int .i64)], [], []⟩
def jw8 : LH := ⟨[(0, .str), (1, .int .i64)], [], []⟩
def w01 : FH := ⟨[xm5, jw8], [], [], [], false, [], []⟩
noncomputable def yj4 (N : Nat) : q52 := tab [(136, zr2 N)]
theorem uh9 (N : Nat) : q14 Tryz.prog (yj4 N) := q06 (zt7 N) <| q26 _
noncomputable def wg1 : Sc := wl4 Tryz.prog w01
noncomputable def wf4 (N : Nat) : Cfg := ⟨N, yj4 N, 0⟩
noncomputable def ja1 (N : Nat) : Exit → List TV → List TOb → Option Int := fin Tryz.prog 0 Tryz.f137.results.toList (q42 [(.int .i64)])
def wv8 (s : List UInt8) (e : Int) : List TV := match e with
 | at_1 => frm 52 [(0, .str s), (1, .int .i64 at_1)]
def wv4 (s : List UInt8) (e : Int) : List TOb := match e with
 | at_1 => []
def jt2 (s : List UInt8) (e : Int) : List TV := match e with
 | at_3 => frm 52 [(0, .str s), (1, .int .i64 at_3)]
def js0 (s : List UInt8) (e : Int) : List TOb := match e with
 | at_3 => []
def y29 (s : List UInt8) (e : Int) : List TV := match e with
 | at_2 => frm 52 [(0, .str s), (1, .int .i64 at_2)]
def jv1 (s : List UInt8) (e : Int) : List TOb := match e with
 | at_2 => []
noncomputable def xj8 (N : Nat) : (List TV → List TOb → Option Int) → List TV → List TOb → Option Int := w57 DR wg1 (wf4 N) (ql8 (qc7 (q92 (q07 (q07 (q07 (q07 (q10 Tryz.f137)))))))) jw8 (w01.loops.drop 2) (qj4 2 (qc5 DR wg1 (wf4 N) (q07 (q07 (q07 (q07 (q07 (q10 Tryz.f137)))))) (w01.loops.drop 2) (ja1 N)))
def zq2 (N : Nat) (s : List UInt8) (K1 : Int → Option Int) (e : Int) : Option Int :=
 match e with
 | at_2 =>
  bif decide (at_2 < (s.length : Int)) then
   bif inR at_2 s.length then
   (wk0 N (q38 s at_2)).bind fun r2 =>
   bif r2 then
    bif q27 (at_2 + 1) then
    K1 (at_2 + 1)
    else none
   else
    some at_2
   else none
  else
   some at_2
theorem uq3 (N : Nat) (s : List UInt8) (n_ : Nat) (e : Int) : q61 (xj8 N ) n_ ((y29 s) e) ((jv1 s) e) = q95 (zq2 N s ) n_ e :=
 q40 (y29 s) (jv1 s) (by intro K e; kernel_rfl) n_ e
noncomputable def xk4 (N : Nat) : (List TV → List TOb → Option Int) → List TV → List TOb → Option Int := w57 DR wg1 (wf4 N) (ql8 (qc7 (q92 (q07 (q07 (q07 (q07 (q10 Tryz.f137)))))))) jw8 (w01.loops.drop 2) (qj4 2 (qc5 DR wg1 (wf4 N) (q07 (q07 (q07 (q07 (q07 (q10 Tryz.f137)))))) (w01.loops.drop 2) (ja1 N)))
def zr3 (N : Nat) (s : List UInt8) (K1 : Int → Option Int) (e : Int) : Option Int :=
 match e with
 | at_3 =>
  bif decide (at_3 < (s.length : Int)) then
   bif inR at_3 s.length then
   (wk0 N (q38 s at_3)).bind fun r4 =>
   bif r4 then
    bif q27 (at_3 + 1) then
    K1 (at_3 + 1)
    else none
   else
    some at_3
   else none
  else
   some at_3
theorem uq2 (N : Nat) (s : List UInt8) (n_ : Nat) (e : Int) : q61 (xk4 N ) n_ ((jt2 s) e) ((js0 s) e) = q95 (zr3 N s ) n_ e :=
 q40 (jt2 s) (js0 s) (by intro K e; kernel_rfl) n_ e
noncomputable def js7 (N : Nat) : (List TV → List TOb → Option Int) → List TV → List TOb → Option Int := w57 DR wg1 (wf4 N) (ql8 (qc7 (q92 (q07 (q10 Tryz.f137))))) xm5 (w01.loops.drop 1) (qj4 0 (qc5 DR wg1 (wf4 N) (q07 (q07 (q10 Tryz.f137))) (w01.loops.drop 1) (ja1 N)))
def j78 (N : Nat) (s : List UInt8) (l2 l3 : (List UInt8) → Int → Option Int) (K0 : Int → Option Int) (e : Int) : Option Int :=
 match e with
 | at_1 =>
  bif decide (at_1 < (s.length : Int)) then
   bif inR at_1 s.length then
   (wk0 N (q38 s at_1)).bind fun r =>
   bif r then
    bif q27 (at_1 + 1) then
    K0 (at_1 + 1)
    else none
   else
    bif q27 (at_1 + 1) then
    bif decide ((at_1 + 1) ≥ (s.length : Int)) then
     some at_1
    else
     bif inR at_1 s.length then
     bif ((q38 s at_1) != 46) then
      some at_1
     else
      bif q27 (at_1 + 1) then
      bif inR (at_1 + 1) s.length then
      (wk0 N (q38 s (at_1 + 1))).bind fun r1 =>
      bif (!r1) then
       some at_1
      else
       bif q27 (at_1 + 1) then
       l2 s (at_1 + 1)
       else none
      else none
      else none
     else none
    else none
   else none
  else
   bif q27 (at_1 + 1) then
   bif decide ((at_1 + 1) ≥ (s.length : Int)) then
    some at_1
   else
    bif inR at_1 s.length then
    bif ((q38 s at_1) != 46) then
     some at_1
    else
     bif q27 (at_1 + 1) then
     bif inR (at_1 + 1) s.length then
     (wk0 N (q38 s (at_1 + 1))).bind fun r3 =>
     bif (!r3) then
      some at_1
     else
      bif q27 (at_1 + 1) then
      l3 s (at_1 + 1)
      else none
     else none
     else none
    else none
   else none
def zp3 (N : Nat) (s : List UInt8) (K0 : Int → Option Int) (e : Int) : Option Int := j78 N s (fun s e => q95 (zq2 N s) N e) (fun s e => q95 (zr3 N s) N e) K0 e
theorem ur5 (N : Nat) (s : List UInt8) (n_ : Nat) (e : Int) : q61 (js7 N ) n_ ((wv8 s) e) ((wv4 s) e) = q95 (zp3 N s ) n_ e :=
 q40 (wv8 s) (wv4 s) (by
  intro K e
  have h : (js7 N ) K ((wv8 s) e) ((wv4 s) e) = j78 N s (fun s e => q61 (xj8 N ) N (y29 s e) (jv1 s e)) (fun s e => q61 (xk4 N ) N (jt2 s e) (js0 s e)) (fun e => K ((wv8 s) e) ((wv4 s) e)) e := by kernel_rfl
  rw [h]
  simp only [zp3, uq3, uq2] <;> rfl) n_ e
def yo1 (N : Nat) (s : List UInt8) (at_ : Int) (l1 : (List UInt8) → Int → Option Int) : Option Int :=
 l1 s at_
def zy4 (N : Nat) (s : List UInt8) (at_ : Int) : Option Int := yo1 N s at_ (fun s e => q95 (zp3 N s) N e)
noncomputable def v40 (N : Nat) (s : List UInt8) (at_ : Int) : Option (RT [(.int .i64)]) := q22 DR Tryz.prog N (yj4 N) w01 Tryz.f137 (q10 Tryz.f137) (RT [(.int .i64)]) (qd6 [.str, (.int .i64)] (s, at_, ())) [] (q42 [(.int .i64)])
theorem u87 (N : Nat) (s : List UInt8) (at_ : Int) : v40 N s at_ = zy4 N s at_ := by
 have h : v40 N s at_ = yo1 N s at_ (fun s e => q61 (js7 N ) N (wv8 s e) (wv4 s e)) := by kernel_rfl
 rw [h]
 simp only [zy4, ur5] <;> rfl
def vo0 (m : (List UInt8) → Int → Option Int) : Ent := q37 [.str, (.int .i64)] [(.int .i64)] fun (x : Els [.str, (.int .i64)]) => m x.1 x.2.1
def x16 (N : Nat) : Ent := vo0 (zy4 N)
theorem vh7 (N : Nat) : q16 Tryz.prog 137 (x16 N) := q15 (uh9 N) Tryz.func137 rfl (by kernel_rfl) fun (x : Els [.str, (.int .i64)]) => u87 N x.1 x.2.1
def kc1 : LH := ⟨[(0, .int .i64), (2, .asis), (3, .bool), (4, .own (.int .i64) 504 3 1)], [], [.cells [.bool, .lst (.int .i64)]]⟩
def ua0 : FH := ⟨[kc1], [], [], [], false, [], []⟩
noncomputable def k74 (N : Nat) : q52 := tab []
theorem r1_Of_Ts (N : Nat) : q14 Tryz.prog (k74 N) := q26 _
noncomputable def ke6 : Sc := wl4 Tryz.prog ua0
noncomputable def kh0 (N : Nat) : Cfg := ⟨N, k74 N, 0⟩
noncomputable def r1_Of_fin (N : Nat) : Exit → List TV → List TOb → Option qa6 := fin Tryz.prog 0 Tryz.f209.results.toList (q42 [ql6])
def ud2 (neg qa9 : Bool) (z21 : List Int) (e : Int × List Int) : List TV := match e with
 | (n1, d) => frm 25 [(0, .int .i64 n1), (2, .ref 0 0), (3, .bool neg), (4, .tl (.int .i64) d (.own 504 3 1))]
def u67 (neg qa9 : Bool) (z21 : List Int) (e : Int × List Int) : List TOb := match e with
 | (n1, d) => [.cells [.bool qa9, .tl (.int .i64) z21 .unk] 265 true]
noncomputable def kj7 (N : Nat) : (List TV → List TOb → Option qa6) → List TV → List TOb → Option qa6 := w57 DR ke6 (kh0 N) (ql8 (qc7 (q92 (q07 (q07 (q07 (q10 Tryz.f209))))))) kc1 (ua0.loops.drop 1) (qj4 0 (qc5 DR ke6 (kh0 N) (q07 (q07 (q07 (q07 (q10 Tryz.f209))))) (ua0.loops.drop 1) (r1_Of_fin N)))
def u54 (N : Nat) (neg qa9 : Bool) (z21 : List Int) (K0 : (Int × List Int) → Option qa6) (e : Int × List Int) : Option qa6 :=
 match e with
 | (n1, d) =>
  bif (n1 != 0) then
   bif decide ((Int.tmod n1 10000) < 0) then
    bif q27 (0 - (Int.tmod n1 10000)) then
    bif qz1 (d.length + [0 - (Int.tmod n1 10000)].length) 17592186044416 then
    bif q27 (Int.tdiv n1 10000) then
    K0 (Int.tdiv n1 10000, (d ++ [0 - (Int.tmod n1 10000)]))
    else none
    else none
    else none
   else
    bif qz1 (d.length + [Int.tmod n1 10000].length) 17592186044416 then
    bif q27 (Int.tdiv n1 10000) then
    K0 (Int.tdiv n1 10000, (d ++ [Int.tmod n1 10000]))
    else none
    else none
  else
   some (neg, d, ())
theorem r1_Of_l1 (N : Nat) (neg qa9 : Bool) (z21 : List Int) (n_ : Nat) (e : Int × List Int) : q61 (kj7 N ) n_ ((ud2 neg qa9 z21) e) ((u67 neg qa9 z21) e) = q95 (u54 N neg qa9 z21 ) n_ e :=
 q40 (ud2 neg qa9 z21) (u67 neg qa9 z21) (by intro K e; obtain ⟨n1, d⟩ := e; kernel_rfl) n_ e
def k24 (N : Nat) (n : Int) (l1 : Bool → Bool → (List Int) → (Int × List Int) → Option qa6) : Option qa6 :=
 l1 (decide (n < 0)) false [] (n, [])
def qy9 (N : Nat) (n : Int) : Option qa6 := k24 N n (fun neg qa9 z21 e => q95 (u54 N neg qa9 z21) N e)
noncomputable def r1_Of_C (N : Nat) (n : Int) : Option (RT [ql6]) := q22 DR Tryz.prog N (k74 N) ua0 Tryz.f209 (q10 Tryz.f209) (RT [ql6]) (qd6 [(.int .i64)] (n, ())) [] (q42 [ql6])
theorem r1_Of_run (N : Nat) (n : Int) : r1_Of_C N n = qy9 N n := by
 have h : r1_Of_C N n = k24 N n (fun neg qa9 z21 e => q61 (kj7 N ) N (ud2 neg qa9 z21 e) (u67 neg qa9 z21 e)) := by kernel_rfl
 rw [h]
 simp only [qy9, r1_Of_l1] <;> rfl
def kk4 (m : Int → Option qa6) : Ent := q37 [(.int .i64)] [ql6] fun (x : Els [(.int .i64)]) => m x.1
def zv9 (N : Nat) : Ent := kk4 (qy9 N)
theorem zm2 (N : Nat) : q16 Tryz.prog 209 (zv9 N) := q15 (r1_Of_Ts N) Tryz.func209 rfl (by kernel_rfl) fun (x : Els [(.int .i64)]) => r1_Of_run N x.1
def kf7 : LH := ⟨[(0, .lst (.int .i64)), (1, .lst (.int .i64)), (5, .own (.int .i64) 505 3 1), (6, .int .i64), (7, .int .i64)], [], []⟩
def u62 : FH := ⟨[kf7], [], [], [], false, [], []⟩
noncomputable def k42 (N : Nat) : q52 := tab []
theorem r1_up_Ts (N : Nat) : q14 Tryz.prog (k42 N) := q26 _
noncomputable def kf1 : Sc := wl4 Tryz.prog u62
noncomputable def kc6 (N : Nat) : Cfg := ⟨N, k42 N, 0⟩
noncomputable def r1_up_fin (N : Nat) : Exit → List TV → List TOb → Option (List Int) := fin Tryz.prog 0 Tryz.f276.results.toList (q42 [(.list (.int .i64))])
def ua7 (a b : List Int) (e : List Int × Int × Int) : List TV := match e with
 | (out, more, i) => frm 52 [(0, .tl (.int .i64) a .unk), (1, .tl (.int .i64) b .unk), (5, .tl (.int .i64) out (.own 505 3 1)), (6, .int .i64 more), (7, .int .i64 i)]
def u08 (a b : List Int) (e : List Int × Int × Int) : List TOb := match e with
 | (out, more, i) => []
noncomputable def kh1 (N : Nat) : (List TV → List TOb → Option (List Int)) → List TV → List TOb → Option (List Int) := w57 DR kf1 (kc6 N) (ql8 (qc7 (q07 (q92 (q07 (q07 (q07 (q10 Tryz.f276)))))))) kf7 (u62.loops.drop 1) (qj4 0 (qc5 DR kf1 (kc6 N) (q07 (q07 (q07 (q07 (q10 Tryz.f276))))) (u62.loops.drop 1) (r1_up_fin N)))
def u66 (N : Nat) (a b : List Int) (K0 : (List Int × Int × Int) → Option (List Int)) (e : List Int × Int × Int) : Option (List Int) :=
 match e with
 | (out, more, i) =>
  bif decide (i < (a.length : Int)) then
   bif decide (i < (a.length : Int)) then
    bif inR i a.length then
    bif q27 (more + (q25 a i 0)) then
    bif decide (i < (b.length : Int)) then
     bif inR i b.length then
     bif q27 ((more + (q25 a i 0)) + (q25 b i 0)) then
     bif qz1 (out.length + [Int.tmod ((more + (q25 a i 0)) + (q25 b i 0)) 10000].length) 17592186044416 then
     bif q27 (Int.tdiv ((more + (q25 a i 0)) + (q25 b i 0)) 10000) then
     bif q27 (i + 1) then
     K0 ((out ++ [Int.tmod ((more + (q25 a i 0)) + (q25 b i 0)) 10000]), Int.tdiv ((more + (q25 a i 0)) + (q25 b i 0)) 10000, i + 1)
     else none
     else none
     else none
     else none
     else none
    else
     bif qz1 (out.length + [Int.tmod (more + (q25 a i 0)) 10000].length) 17592186044416 then
     bif q27 (Int.tdiv (more + (q25 a i 0)) 10000) then
     bif q27 (i + 1) then
     K0 ((out ++ [Int.tmod (more + (q25 a i 0)) 10000]), Int.tdiv (more + (q25 a i 0)) 10000, i + 1)
     else none
     else none
     else none
    else none
    else none
   else
    bif decide (i < (b.length : Int)) then
     bif inR i b.length then
     bif q27 (more + (q25 b i 0)) then
     bif qz1 (out.length + [Int.tmod (more + (q25 b i 0)) 10000].length) 17592186044416 then
     bif q27 (Int.tdiv (more + (q25 b i 0)) 10000) then
     bif q27 (i + 1) then
     K0 ((out ++ [Int.tmod (more + (q25 b i 0)) 10000]), Int.tdiv (more + (q25 b i 0)) 10000, i + 1)
     else none
     else none
     else none
     else none
     else none
    else
     bif qz1 (out.length + [Int.tmod more 10000].length) 17592186044416 then
     bif q27 (Int.tdiv more 10000) then
     bif q27 (i + 1) then
     K0 ((out ++ [Int.tmod more 10000]), Int.tdiv more 10000, i + 1)
     else none
     else none
     else none
  else
   bif decide (i < (b.length : Int)) then
    bif decide (i < (a.length : Int)) then
     bif inR i a.length then
     bif q27 (more + (q25 a i 0)) then
     bif decide (i < (b.length : Int)) then
      bif inR i b.length then
      bif q27 ((more + (q25 a i 0)) + (q25 b i 0)) then
      bif qz1 (out.length + [Int.tmod ((more + (q25 a i 0)) + (q25 b i 0)) 10000].length) 17592186044416 then
      bif q27 (Int.tdiv ((more + (q25 a i 0)) + (q25 b i 0)) 10000) then
      bif q27 (i + 1) then
      K0 ((out ++ [Int.tmod ((more + (q25 a i 0)) + (q25 b i 0)) 10000]), Int.tdiv ((more + (q25 a i 0)) + (q25 b i 0)) 10000, i + 1)
      else none
      else none
      else none
      else none
      else none
     else
      bif qz1 (out.length + [Int.tmod (more + (q25 a i 0)) 10000].length) 17592186044416 then
      bif q27 (Int.tdiv (more + (q25 a i 0)) 10000) then
      bif q27 (i + 1) then
      K0 ((out ++ [Int.tmod (more + (q25 a i 0)) 10000]), Int.tdiv (more + (q25 a i 0)) 10000, i + 1)
      else none
      else none
      else none
     else none
     else none
    else
     bif decide (i < (b.length : Int)) then
      bif inR i b.length then
      bif q27 (more + (q25 b i 0)) then
      bif qz1 (out.length + [Int.tmod (more + (q25 b i 0)) 10000].length) 17592186044416 then
      bif q27 (Int.tdiv (more + (q25 b i 0)) 10000) then
      bif q27 (i + 1) then
      K0 ((out ++ [Int.tmod (more + (q25 b i 0)) 10000]), Int.tdiv (more + (q25 b i 0)) 10000, i + 1)
      else none
      else none
      else none
      else none
      else none
     else
      bif qz1 (out.length + [Int.tmod more 10000].length) 17592186044416 then
      bif q27 (Int.tdiv more 10000) then
      bif q27 (i + 1) then
      K0 ((out ++ [Int.tmod more 10000]), Int.tdiv more 10000, i + 1)
      else none
      else none
      else none
   else
    bif decide (more > 0) then
     bif decide (i < (a.length : Int)) then
      bif inR i a.length then
      bif q27 (more + (q25 a i 0)) then
      bif decide (i < (b.length : Int)) then
       bif inR i b.length then
       bif q27 ((more + (q25 a i 0)) + (q25 b i 0)) then
       bif qz1 (out.length + [Int.tmod ((more + (q25 a i 0)) + (q25 b i 0)) 10000].length) 17592186044416 then
       bif q27 (Int.tdiv ((more + (q25 a i 0)) + (q25 b i 0)) 10000) then
       bif q27 (i + 1) then
       K0 ((out ++ [Int.tmod ((more + (q25 a i 0)) + (q25 b i 0)) 10000]), Int.tdiv ((more + (q25 a i 0)) + (q25 b i 0)) 10000, i + 1)
       else none
       else none
       else none
       else none
       else none
      else
       bif qz1 (out.length + [Int.tmod (more + (q25 a i 0)) 10000].length) 17592186044416 then
       bif q27 (Int.tdiv (more + (q25 a i 0)) 10000) then
       bif q27 (i + 1) then
       K0 ((out ++ [Int.tmod (more + (q25 a i 0)) 10000]), Int.tdiv (more + (q25 a i 0)) 10000, i + 1)
       else none
       else none
       else none
      else none
      else none
     else
      bif decide (i < (b.length : Int)) then
       bif inR i b.length then
       bif q27 (more + (q25 b i 0)) then
       bif qz1 (out.length + [Int.tmod (more + (q25 b i 0)) 10000].length) 17592186044416 then
       bif q27 (Int.tdiv (more + (q25 b i 0)) 10000) then
       bif q27 (i + 1) then
       K0 ((out ++ [Int.tmod (more + (q25 b i 0)) 10000]), Int.tdiv (more + (q25 b i 0)) 10000, i + 1)
       else none
       else none
       else none
       else none
       else none
      else
       bif qz1 (out.length + [Int.tmod more 10000].length) 17592186044416 then
       bif q27 (Int.tdiv more 10000) then
       bif q27 (i + 1) then
       K0 ((out ++ [Int.tmod more 10000]), Int.tdiv more 10000, i + 1)
       else none
       else none
       else none
    else
     some out
theorem r1_up_l1 (N : Nat) (a b : List Int) (n_ : Nat) (e : List Int × Int × Int) : q61 (kh1 N ) n_ ((ua7 a b) e) ((u08 a b) e) = q95 (u66 N a b ) n_ e :=
 q40 (ua7 a b) (u08 a b) (by intro K e; obtain ⟨out, more, i⟩ := e; kernel_rfl) n_ e
def k30 (N : Nat) (a b : List Int) (l1 : (List Int) → (List Int) → (List Int × Int × Int) → Option (List Int)) : Option (List Int) :=
 l1 a b ([], 0, 0)
def k38 (N : Nat) (a b : List Int) : Option (List Int) := k30 N a b (fun a b e => q95 (u66 N a b) N e)
noncomputable def r1_up_C (N : Nat) (a b : List Int) : Option (RT [(.list (.int .i64))]) := q22 DR Tryz.prog N (k42 N) u62 Tryz.f276 (q10 Tryz.f276) (RT [(.list (.int .i64))]) (qd6 [(.list (.int .i64)), (.list (.int .i64))] (a, b, ())) [] (q42 [(.list (.int .i64))])
theorem r1_up_run (N : Nat) (a b : List Int) : r1_up_C N a b = k38 N a b := by
 have h : r1_up_C N a b = k30 N a b (fun a b e => q61 (kh1 N ) N (ua7 a b e) (u08 a b e)) := by kernel_rfl
 rw [h]
 simp only [k38, r1_up_l1] <;> rfl
def km9 (m : (List Int) → (List Int) → Option (List Int)) : Ent := q37 [(.list (.int .i64)), (.list (.int .i64))] [(.list (.int .i64))] fun (x : Els [(.list (.int .i64)), (.list (.int .i64))]) => m x.1 x.2.1
def xz8 (N : Nat) : Ent := km9 (k38 N)
theorem vf0 (N : Nat) : q16 Tryz.prog 276 (xz8 N) := q15 (r1_up_Ts N) Tryz.func276 rfl (by kernel_rfl) fun (x : Els [(.list (.int .i64)), (.list (.int .i64))]) => r1_up_run N x.1 x.2.1
def vx6 : LH := ⟨[(0, .bool), (1, .lst (.int .i64)), (4, .asis)], [], [.cells [.bool, .lst (.int .i64)]]⟩
def x44 : FH := ⟨[vx6], [], [], [], false, [], []⟩
noncomputable def v09 (N : Nat) : q52 := tab []
theorem kn9 (N : Nat) : q14 Tryz.prog (v09 N) := q26 _
noncomputable def vx2 : Sc := wl4 Tryz.prog x44
noncomputable def vw3 (N : Nat) : Cfg := ⟨N, v09 N, 0⟩
noncomputable def k58 (N : Nat) : Exit → List TV → List TOb → Option qa6 := fin Tryz.prog 0 Tryz.f268.results.toList (q42 [ql6])
def xc7 (neg q63 : Bool) (ql7 e : List Int) : List TV := match e with
 | d1 => frm 30 [(0, .bool neg), (1, .tl (.int .i64) d1 .unk), (4, .ref 0 0)]
def x78 (neg q63 : Bool) (ql7 e : List Int) : List TOb := match e with
 | d1 => [.cells [.bool q63, .tl (.int .i64) ql7 .unk] 265 true]
noncomputable def vy7 (N : Nat) : (List TV → List TOb → Option qa6) → List TV → List TOb → Option qa6 := w57 DR vx2 (vw3 N) (ql8 (qc7 (q92 (q07 (q10 Tryz.f268))))) vx6 (x44.loops.drop 1) (qj4 0 (qc5 DR vx2 (vw3 N) (q07 (q07 (q10 Tryz.f268))) (x44.loops.drop 1) (k58 N)))
def xc5 (N : Nat) (neg q63 : Bool) (ql7 : List Int) (K0 : (List Int) → Option qa6) (e : List Int) : Option qa6 :=
 match e with
 | d1 =>
  bif decide ((d1.length : Int) > 0) then
   bif q27 ((d1.length : Int) - 1) then
   bif inR ((d1.length : Int) - 1) d1.length then
   bif ((q25 d1 ((d1.length : Int) - 1) 0) == 0) then
    bif q27 ((d1.length : Int) - 1) then
    bif upTo ((d1.length : Int) - 1) d1.length then
    K0 (d1.take ((d1.length : Int) - 1).toNat)
    else none
    else none
   else
    bif neg then
     some (decide ((d1.length : Int) > 0), d1, ())
    else
     some (false, d1, ())
   else none
   else none
  else
   bif neg then
    some (decide ((d1.length : Int) > 0), d1, ())
   else
    some (false, d1, ())
theorem kr7 (N : Nat) (neg q63 : Bool) (ql7 : List Int) (n_ : Nat) (e : List Int) : q61 (vy7 N ) n_ ((xc7 neg q63 ql7) e) ((x78 neg q63 ql7) e) = q95 (xc5 N neg q63 ql7 ) n_ e :=
 q40 (xc7 neg q63 ql7) (x78 neg q63 ql7) (by intro K e; kernel_rfl) n_ e
def v23 (N : Nat) (neg : Bool) (d : List Int) (l1 : Bool → Bool → (List Int) → (List Int) → Option qa6) : Option qa6 :=
 l1 neg false [] d
def wh5 (N : Nat) (neg : Bool) (d : List Int) : Option qa6 := v23 N neg d (fun neg q63 ql7 e => q95 (xc5 N neg q63 ql7) N e)
noncomputable def ux5 (N : Nat) (neg : Bool) (d : List Int) : Option (RT [ql6]) := q22 DR Tryz.prog N (v09 N) x44 Tryz.f268 (q10 Tryz.f268) (RT [ql6]) (qd6 [.bool, (.list (.int .i64))] (neg, d, ())) [] (q42 [ql6])
theorem k36 (N : Nat) (neg : Bool) (d : List Int) : ux5 N neg d = wh5 N neg d := by
 have h : ux5 N neg d = v23 N neg d (fun neg q63 ql7 e => q61 (vy7 N ) N (xc7 neg q63 ql7 e) (x78 neg q63 ql7 e)) := by kernel_rfl
 rw [h]
 simp only [wh5, kr7] <;> rfl
def us4 (m : Bool → (List Int) → Option qa6) : Ent := q37 [.bool, (.list (.int .i64))] [ql6] fun (x : Els [.bool, (.list (.int .i64))]) => m x.1 x.2.1
def zi6 (N : Nat) : Ent := us4 (wh5 N)
theorem ze0 (N : Nat) : q16 Tryz.prog 268 (zi6 N) := q15 (kn9 N) Tryz.func268 rfl (by kernel_rfl) fun (x : Els [.bool, (.list (.int .i64))]) => k36 N x.1 x.2.1
def xz2 : LH := ⟨[(2, .asis), (3, .asis), (4, .asis), (5, .asis), (6, .int .i64)], [], [.cells [.bool, .lst (.int .i64)], .cells [.bool, .lst (.int .i64)], .cells [.bool, .lst (.int .i64)], .cells [.bool, .lst (.int .i64)]]⟩
def um5 : LH := ⟨[(2, .asis), (3, .asis), (4, .asis), (5, .asis), (6, .int .i64), (7, .own (.int .i64) 507 3 1), (8, .int .i64), (9, .int .i64)], [], [.cells [.bool, .lst (.int .i64)], .cells [.bool, .lst (.int .i64)], .cells [.bool, .lst (.int .i64)], .cells [.bool, .lst (.int .i64)]]⟩
def zp6 : FH := ⟨[xz2, um5], [], [(11, ⟨12, 69, 0, [], []⟩)], [], false, [], []⟩
noncomputable def ub4 (N : Nat) : q52 := tab [(276, xz8 N), (268, zi6 N)]
theorem r1_Mul_Ts (N : Nat) : q14 Tryz.prog (ub4 N) := q06 (vf0 N) <| q06 (ze0 N) <| q26 _
noncomputable def zy2 : Sc := wl4 Tryz.prog zp6
noncomputable def zi7 (N : Nat) : Cfg := ⟨N, ub4 N, 0⟩
noncomputable def vw6 (N : Nat) : Exit → List TV → List TOb → Option qa6 := fin Tryz.prog 0 Tryz.f247.results.toList (q42 [ql6])
def j38 (q33 : Bool) (x_D : List Int) (qa5 : Bool) (y_D : List Int) (q63 : Bool) (ql7 : List Int) (e : Int × Bool × List Int) : List TV := match e with
 | (i, qt7, zo0) => frm 69 [(2, .ref 0 0), (3, .ref 1 0), (4, .ref 2 0), (5, .ref 3 0), (6, .int .i64 i)]
def zy5 (q33 : Bool) (x_D : List Int) (qa5 : Bool) (y_D : List Int) (q63 : Bool) (ql7 : List Int) (e : Int × Bool × List Int) : List TOb := match e with
 | (i, qt7, zo0) => [.cells [.bool q33, .tl (.int .i64) x_D .unk] 265 true, .cells [.bool qa5, .tl (.int .i64) y_D .unk] 265 true, .cells [.bool q63, .tl (.int .i64) ql7 .unk] 265 true, .cells [.bool qt7, .tl (.int .i64) zo0 .unk] 265 true]
def v02 (i : Int) (q33 : Bool) (x_D : List Int) (qa5 : Bool) (y_D : List Int) (q63 : Bool) (ql7 : List Int) (qt7 : Bool) (zo0 : List Int) (e : List Int × Int × Int) : List TV := match e with
 | (row, more, k) => frm 69 [(2, .ref 0 0), (3, .ref 1 0), (4, .ref 2 0), (5, .ref 3 0), (6, .int .i64 i), (7, .tl (.int .i64) row (.own 507 3 1)), (8, .int .i64 more), (9, .int .i64 k)]
def vk0 (i : Int) (q33 : Bool) (x_D : List Int) (qa5 : Bool) (y_D : List Int) (q63 : Bool) (ql7 : List Int) (qt7 : Bool) (zo0 : List Int) (e : List Int × Int × Int) : List TOb := match e with
 | (row, more, k) => [.cells [.bool q33, .tl (.int .i64) x_D .unk] 265 true, .cells [.bool qa5, .tl (.int .i64) y_D .unk] 265 true, .cells [.bool q63, .tl (.int .i64) ql7 .unk] 265 true, .cells [.bool qt7, .tl (.int .i64) zo0 .unk] 265 true]
noncomputable def uj9 (N : Nat) (K0r : List TV → List TOb → Option qa6) : (List TV → List TOb → Option qa6) → List TV → List TOb → Option qa6 := w57 DR zy2 (zi7 N) (ql8 (qc7 (q07 (q92 (q07 (q07 (qc7 (q92 (q07 (ql8 (qc7 (q07 (q92 (q07 (q07 (q10 Tryz.f247)))))))))))))))) um5 (zp6.loops.drop 2) (qj4 2 (qc5 DR zy2 (zi7 N) (q07 (q07 (q07 (qc7 (q92 (q07 (ql8 (qc7 (q07 (q92 (q07 (q07 (q10 Tryz.f247))))))))))))) (zp6.loops.drop 2) (qj4 1 (qc5 DR zy2 (zi7 N) (q07 (q07 (ql8 (qc7 (q07 (q92 (q07 (q07 (q10 Tryz.f247))))))))) (zp6.loops.drop 2) (u83 (zi7 N) xz2 (qj4 0 (qc5 DR zy2 (zi7 N) (q07 (q07 (q07 (q10 Tryz.f247)))) (zp6.loops.drop 2) (vw6 N))) K0r)))))
def v77 (N : Nat) (i : Int) (q33 : Bool) (x_D : List Int) (qa5 : Bool) (y_D : List Int) (q63 : Bool) (ql7 : List Int) (qt7 : Bool) (zo0 : List Int) (K0 : (Int × Bool × List Int) → Option qa6) (K1 : (List Int × Int × Int) → Option qa6) (e : List Int × Int × Int) : Option qa6 :=
 match e with
 | (row, more, k) =>
  bif decide (k < (x_D.length : Int)) then
   bif decide (k < (x_D.length : Int)) then
    bif inR k x_D.length then
    bif inR i y_D.length then
    bif q27 ((q25 x_D k 0) * (q25 y_D i 0)) then
    bif q27 (more + ((q25 x_D k 0) * (q25 y_D i 0))) then
    bif qz1 (row.length + [Int.tmod (more + ((q25 x_D k 0) * (q25 y_D i 0))) 10000].length) 17592186044416 then
    bif q27 (Int.tdiv (more + ((q25 x_D k 0) * (q25 y_D i 0))) 10000) then
    bif q27 (k + 1) then
    K1 ((row ++ [Int.tmod (more + ((q25 x_D k 0) * (q25 y_D i 0))) 10000]), Int.tdiv (more + ((q25 x_D k 0) * (q25 y_D i 0))) 10000, k + 1)
    else none
    else none
    else none
    else none
    else none
    else none
    else none
   else
    bif qz1 (row.length + [Int.tmod more 10000].length) 17592186044416 then
    bif q27 (Int.tdiv more 10000) then
    bif q27 (k + 1) then
    K1 ((row ++ [Int.tmod more 10000]), Int.tdiv more 10000, k + 1)
    else none
    else none
    else none
  else
   bif decide (more > 0) then
    bif decide (k < (x_D.length : Int)) then
     bif inR k x_D.length then
     bif inR i y_D.length then
     bif q27 ((q25 x_D k 0) * (q25 y_D i 0)) then
     bif q27 (more + ((q25 x_D k 0) * (q25 y_D i 0))) then
     bif qz1 (row.length + [Int.tmod (more + ((q25 x_D k 0) * (q25 y_D i 0))) 10000].length) 17592186044416 then
     bif q27 (Int.tdiv (more + ((q25 x_D k 0) * (q25 y_D i 0))) 10000) then
     bif q27 (k + 1) then
     K1 ((row ++ [Int.tmod (more + ((q25 x_D k 0) * (q25 y_D i 0))) 10000]), Int.tdiv (more + ((q25 x_D k 0) * (q25 y_D i 0))) 10000, k + 1)
     else none
     else none
     else none
     else none
     else none
     else none
     else none
    else
     bif qz1 (row.length + [Int.tmod more 10000].length) 17592186044416 then
     bif q27 (Int.tdiv more 10000) then
     bif q27 (k + 1) then
     K1 ((row ++ [Int.tmod more 10000]), Int.tdiv more 10000, k + 1)
     else none
     else none
     else none
   else
    (k38 N zo0 row).bind fun r =>
    (wh5 N false r).bind fun r1 =>
    bif q27 (i + 1) then
    K0 (i + 1, r1.1, r1.2.1)
    else none
theorem r1_Mul_l2 (N : Nat) (i : Int) (q33 : Bool) (x_D : List Int) (qa5 : Bool) (y_D : List Int) (q63 : Bool) (ql7 : List Int) (qt7 : Bool) (zo0 : List Int) (K0r : List TV → List TOb → Option qa6) (n_ : Nat) (e : List Int × Int × Int) : q61 (uj9 N K0r) n_ ((v02 i q33 x_D qa5 y_D q63 ql7 qt7 zo0) e) ((vk0 i q33 x_D qa5 y_D q63 ql7 qt7 zo0) e) = q95 (v77 N i q33 x_D qa5 y_D q63 ql7 qt7 zo0 (fun a => K0r (j38 q33 x_D qa5 y_D q63 ql7 a) (zy5 q33 x_D qa5 y_D q63 ql7 a))) n_ e :=
 q40 (v02 i q33 x_D qa5 y_D q63 ql7 qt7 zo0) (vk0 i q33 x_D qa5 y_D q63 ql7 qt7 zo0) (by intro K e; obtain ⟨row, more, k⟩ := e; kernel_rfl) n_ e
noncomputable def va3 (N : Nat) : (List TV → List TOb → Option qa6) → List TV → List TOb → Option qa6 := w57 DR zy2 (zi7 N) (ql8 (qc7 (q07 (q92 (q07 (q07 (q10 Tryz.f247))))))) xz2 (zp6.loops.drop 1) (qj4 0 (qc5 DR zy2 (zi7 N) (q07 (q07 (q07 (q10 Tryz.f247)))) (zp6.loops.drop 2) (vw6 N)))
def xd1 (N : Nat) (q33 : Bool) (x_D : List Int) (qa5 : Bool) (y_D : List Int) (q63 : Bool) (ql7 : List Int) (l2 : Int → Bool → (List Int) → Bool → (List Int) → Bool → (List Int) → Bool → (List Int) → (List Int × Int × Int) → Option qa6) (K0 : (Int × Bool × List Int) → Option qa6) (e : Int × Bool × List Int) : Option qa6 :=
 match e with
 | (i, qt7, zo0) =>
  bif decide (i < (y_D.length : Int)) then
   bif jn4 8 i i then
   l2 i q33 x_D qa5 y_D q63 ql7 qt7 zo0 ((List.replicate i.toNat 0), 0, 0)
   else none
  else
   (wh5 N (!(q33 == qa5)) zo0).bind fun r2 =>
   some r2
def yv2 (N : Nat) (q33 : Bool) (x_D : List Int) (qa5 : Bool) (y_D : List Int) (q63 : Bool) (ql7 : List Int) (K0 : (Int × Bool × List Int) → Option qa6) (e : Int × Bool × List Int) : Option qa6 := xd1 N q33 x_D qa5 y_D q63 ql7 (fun i q33 x_D qa5 y_D q63 ql7 qt7 zo0 e => q95 (v77 N i q33 x_D qa5 y_D q63 ql7 qt7 zo0 K0) N e) K0 e
theorem r1_Mul_l1 (N : Nat) (q33 : Bool) (x_D : List Int) (qa5 : Bool) (y_D : List Int) (q63 : Bool) (ql7 : List Int) (n_ : Nat) (e : Int × Bool × List Int) : q61 (va3 N ) n_ ((j38 q33 x_D qa5 y_D q63 ql7) e) ((zy5 q33 x_D qa5 y_D q63 ql7) e) = q95 (yv2 N q33 x_D qa5 y_D q63 ql7 ) n_ e :=
 q40 (j38 q33 x_D qa5 y_D q63 ql7) (zy5 q33 x_D qa5 y_D q63 ql7) (by
  intro K e
  have h : (va3 N ) K ((j38 q33 x_D qa5 y_D q63 ql7) e) ((zy5 q33 x_D qa5 y_D q63 ql7) e) = xd1 N q33 x_D qa5 y_D q63 ql7 (fun i q33 x_D qa5 y_D q63 ql7 qt7 zo0 e => q61 (uj9 N K) N (v02 i q33 x_D qa5 y_D q63 ql7 qt7 zo0 e) (vk0 i q33 x_D qa5 y_D q63 ql7 qt7 zo0 e)) (fun e => K ((j38 q33 x_D qa5 y_D q63 ql7) e) ((zy5 q33 x_D qa5 y_D q63 ql7) e)) e := by obtain ⟨i, qt7, zo0⟩ := e; kernel_rfl
  rw [h]
  simp only [yv2, r1_Mul_l2] <;> rfl) n_ e
def u74 (N : Nat) (x y : qa6) (l1 : Bool → (List Int) → Bool → (List Int) → Bool → (List Int) → (Int × Bool × List Int) → Option qa6) : Option qa6 :=
 l1 x.1 x.2.1 y.1 y.2.1 false [] (0, false, [])
def wf9 (N : Nat) (x y : qa6) : Option qa6 := u74 N x y (fun q33 x_D qa5 y_D q63 ql7 e => q95 (yv2 N q33 x_D qa5 y_D q63 ql7) N e)
noncomputable def kj2 (N : Nat) (x y : qa6) : Option (RT [ql6]) := q22 DR Tryz.prog N (ub4 N) zp6 Tryz.f247 (q10 Tryz.f247) (RT [ql6]) (qd6 [ql6, ql6] (x, y, ())) [] (q42 [ql6])
theorem kr2 (N : Nat) (x y : qa6) : kj2 N x y = wf9 N x y := by
 have h : kj2 N x y = u74 N x y (fun q33 x_D qa5 y_D q63 ql7 e => q61 (va3 N ) N (j38 q33 x_D qa5 y_D q63 ql7 e) (zy5 q33 x_D qa5 y_D q63 ql7 e)) := by kernel_rfl
 rw [h]
 simp only [wf9, r1_Mul_l1] <;> rfl
def kb0 (m : qa6 → qa6 → Option qa6) : Ent := q37 [ql6, ql6] [ql6] fun (x : Els [ql6, ql6]) => m x.1 x.2.1
def x80 (N : Nat) : Ent := kb0 (wf9 N)
theorem xm3 (N : Nat) : q16 Tryz.prog 247 (x80 N) := q15 (r1_Mul_Ts N) Tryz.func247 rfl (by kernel_rfl) fun (x : Els [ql6, ql6]) => kr2 N x.1 x.2.1
def kf8 : LH := ⟨[(0, .lst (.int .i64)), (1, .lst (.int .i64)), (5, .int .i64)], [], []⟩
def u33 : FH := ⟨[kf8], [], [(6, ⟨8, 41, 0, [], []⟩), (7, ⟨8, 41, 0, [], []⟩)], [], false, [], []⟩
noncomputable def k62 (N : Nat) : q52 := tab []
theorem r1_by_Ts (N : Nat) : q14 Tryz.prog (k62 N) := q26 _
noncomputable def ki8 : Sc := wl4 Tryz.prog u33
noncomputable def ki4 (N : Nat) : Cfg := ⟨N, k62 N, 0⟩
noncomputable def r1_by_fin (N : Nat) : Exit → List TV → List TOb → Option Int := fin Tryz.prog 0 Tryz.f277.results.toList (q42 [(.int .i64)])
def ud1 (a b : List Int) (e : Int) : List TV := match e with
 | i => frm 41 [(0, .tl (.int .i64) a .unk), (1, .tl (.int .i64) b .unk), (5, .int .i64 i)]
def u48 (a b : List Int) (e : Int) : List TOb := match e with
 | i => []
noncomputable def kj4 (N : Nat) : (List TV → List TOb → Option Int) → List TV → List TOb → Option Int := w57 DR ki8 (ki4 N) (ql8 (qc7 (q07 (q92 (q07 (q07 (q10 Tryz.f277))))))) kf8 (u33.loops.drop 1) (qj4 0 (qc5 DR ki8 (ki4 N) (q07 (q07 (q07 (q10 Tryz.f277)))) (u33.loops.drop 1) (r1_by_fin N)))
def u36 (N : Nat) (a b : List Int) (K0 : Int → Option Int) (e : Int) : Option Int :=
 match e with
 | i =>
  bif decide (i ≥ 0) then
   bif inR i a.length then
   bif inR i b.length then
   bif ((q25 a i 0) != (q25 b i 0)) then
    bif inR i a.length then
    bif inR i b.length then
    bif q27 ((q25 a i 0) - (q25 b i 0)) then
    some ((q25 a i 0) - (q25 b i 0))
    else none
    else none
    else none
   else
    bif q27 (i - 1) then
    K0 (i - 1)
    else none
   else none
   else none
  else
   some 0
theorem r1_by_l1 (N : Nat) (a b : List Int) (n_ : Nat) (e : Int) : q61 (kj4 N ) n_ ((ud1 a b) e) ((u48 a b) e) = q95 (u36 N a b ) n_ e :=
 q40 (ud1 a b) (u48 a b) (by intro K e; kernel_rfl) n_ e
def kc0 (N : Nat) (a b : List Int) (l1 : (List Int) → (List Int) → Int → Option Int) : Option Int :=
 bif ((a.length : Int) != (b.length : Int)) then
  bif q27 ((a.length : Int) - (b.length : Int)) then
  some ((a.length : Int) - (b.length : Int))
  else none
 else
  bif q27 ((a.length : Int) - 1) then
  l1 a b ((a.length : Int) - 1)
  else none
def kk8 (N : Nat) (a b : List Int) : Option Int := kc0 N a b (fun a b e => q95 (u36 N a b) N e)
noncomputable def r1_by_C (N : Nat) (a b : List Int) : Option (RT [(.int .i64)]) := q22 DR Tryz.prog N (k62 N) u33 Tryz.f277 (q10 Tryz.f277) (RT [(.int .i64)]) (qd6 [(.list (.int .i64)), (.list (.int .i64))] (a, b, ())) [] (q42 [(.int .i64)])
theorem r1_by_run (N : Nat) (a b : List Int) : r1_by_C N a b = kk8 N a b := by
 have h : r1_by_C N a b = kc0 N a b (fun a b e => q61 (kj4 N ) N (ud1 a b e) (u48 a b e)) := by kernel_rfl
 rw [h]
 simp only [kk8, r1_by_l1] <;> rfl
def kr1 (m : (List Int) → (List Int) → Option Int) : Ent := q37 [(.list (.int .i64)), (.list (.int .i64))] [(.int .i64)] fun (x : Els [(.list (.int .i64)), (.list (.int .i64))]) => m x.1 x.2.1
def up8 (N : Nat) : Ent := kr1 (kk8 N)
theorem k06 (N : Nat) : q16 Tryz.prog 277 (up8 N) := q15 (r1_by_Ts N) Tryz.func277 rfl (by kernel_rfl) fun (x : Els [(.list (.int .i64)), (.list (.int .i64))]) => r1_by_run N x.1 x.2.1
def vz2 : LH := ⟨[(0, .lst (.int .i64)), (1, .lst (.int .i64)), (5, .own (.int .i64) 505 3 1), (6, .int .i64), (7, .int .i64)], [], []⟩
def x39 : FH := ⟨[vz2], [], [], [], false, [], []⟩
noncomputable def vh4 (N : Nat) : q52 := tab []
theorem kk1 (N : Nat) : q14 Tryz.prog (vh4 N) := q26 _
noncomputable def vx7 : Sc := wl4 Tryz.prog x39
noncomputable def vy8 (N : Nat) : Cfg := ⟨N, vh4 N, 0⟩
noncomputable def k84 (N : Nat) : Exit → List TV → List TOb → Option (List Int) := fin Tryz.prog 0 Tryz.f278.results.toList (q42 [(.list (.int .i64))])
def xd5 (a b : List Int) (e : List Int × Int × Int) : List TV := match e with
 | (out, owed, i) => frm 40 [(0, .tl (.int .i64) a .unk), (1, .tl (.int .i64) b .unk), (5, .tl (.int .i64) out (.own 505 3 1)), (6, .int .i64 owed), (7, .int .i64 i)]
def x69 (a b : List Int) (e : List Int × Int × Int) : List TOb := match e with
 | (out, owed, i) => []
noncomputable def vs4 (N : Nat) : (List TV → List TOb → Option (List Int)) → List TV → List TOb → Option (List Int) := w57 DR vx7 (vy8 N) (ql8 (qc7 (q07 (q92 (q07 (q07 (q07 (q10 Tryz.f278)))))))) vz2 (x39.loops.drop 1) (qj4 0 (qc5 DR vx7 (vy8 N) (q07 (q07 (q07 (q07 (q10 Tryz.f278))))) (x39.loops.drop 1) (k84 N)))
def x74 (N : Nat) (a b : List Int) (K0 : (List Int × Int × Int) → Option (List Int)) (e : List Int × Int × Int) : Option (List Int) :=
 match e with
 | (out, owed, i) =>
  bif decide (i < (a.length : Int)) then
   bif inR i a.length then
   bif q27 ((q25 a i 0) - owed) then
   bif decide (i < (b.length : Int)) then
    bif inR i b.length then
    bif q27 (((q25 a i 0) - owed) - (q25 b i 0)) then
    bif decide ((((q25 a i 0) - owed) - (q25 b i 0)) < 0) then
     bif q27 ((((q25 a i 0) - owed) - (q25 b i 0)) + 10000) then
     bif qz1 (out.length + [(((q25 a i 0) - owed) - (q25 b i 0)) + 10000].length) 17592186044416 then
     bif q27 (i + 1) then
     K0 ((out ++ [(((q25 a i 0) - owed) - (q25 b i 0)) + 10000]), 1, i + 1)
     else none
     else none
     else none
    else
     bif qz1 (out.length + [((q25 a i 0) - owed) - (q25 b i 0)].length) 17592186044416 then
     bif q27 (i + 1) then
     K0 ((out ++ [((q25 a i 0) - owed) - (q25 b i 0)]), 0, i + 1)
     else none
     else none
    else none
    else none
   else
    bif decide (((q25 a i 0) - owed) < 0) then
     bif q27 (((q25 a i 0) - owed) + 10000) then
     bif qz1 (out.length + [((q25 a i 0) - owed) + 10000].length) 17592186044416 then
     bif q27 (i + 1) then
     K0 ((out ++ [((q25 a i 0) - owed) + 10000]), 1, i + 1)
     else none
     else none
     else none
    else
     bif qz1 (out.length + [(q25 a i 0) - owed].length) 17592186044416 then
     bif q27 (i + 1) then
     K0 ((out ++ [(q25 a i 0) - owed]), 0, i + 1)
     else none
     else none
   else none
   else none
  else
   some out
theorem kq4 (N : Nat) (a b : List Int) (n_ : Nat) (e : List Int × Int × Int) : q61 (vs4 N ) n_ ((xd5 a b) e) ((x69 a b) e) = q95 (x74 N a b ) n_ e :=
 q40 (xd5 a b) (x69 a b) (by intro K e; obtain ⟨out, owed, i⟩ := e; kernel_rfl) n_ e
def v63 (N : Nat) (a b : List Int) (l1 : (List Int) → (List Int) → (List Int × Int × Int) → Option (List Int)) : Option (List Int) :=
 l1 a b ([], 0, 0)
def yj8 (N : Nat) (a b : List Int) : Option (List Int) := v63 N a b (fun a b e => q95 (x74 N a b) N e)
noncomputable def un5 (N : Nat) (a b : List Int) : Option (RT [(.list (.int .i64))]) := q22 DR Tryz.prog N (vh4 N) x39 Tryz.f278 (q10 Tryz.f278) (RT [(.list (.int .i64))]) (qd6 [(.list (.int .i64)), (.list (.int .i64))] (a, b, ())) [] (q42 [(.list (.int .i64))])
theorem k95 (N : Nat) (a b : List Int) : un5 N a b = yj8 N a b := by
 have h : un5 N a b = v63 N a b (fun a b e => q61 (vs4 N ) N (xd5 a b e) (x69 a b e)) := by kernel_rfl
 rw [h]
 simp only [yj8, kq4] <;> rfl
def uy4 (m : (List Int) → (List Int) → Option (List Int)) : Ent := q37 [(.list (.int .i64)), (.list (.int .i64))] [(.list (.int .i64))] fun (x : Els [(.list (.int .i64)), (.list (.int .i64))]) => m x.1 x.2.1
def v68 (N : Nat) : Ent := uy4 (yj8 N)
theorem uc1 (N : Nat) : q16 Tryz.prog 278 (v68 N) := q15 (kk1 N) Tryz.func278 rfl (by kernel_rfl) fun (x : Els [(.list (.int .i64)), (.list (.int .i64))]) => k95 N x.1 x.2.1
def r1_Add_H : FH := ⟨[], [], [(2, ⟨7, 40, 0, [], []⟩), (4, ⟨7, 40, 0, [], []⟩), (5, ⟨7, 40, 0, [], []⟩)], [], false, [], []⟩
noncomputable def ke2 (N : Nat) : q52 := tab [(276, xz8 N), (268, zi6 N), (277, up8 N), (278, v68 N)]
theorem r1_Add_Ts (N : Nat) : q14 Tryz.prog (ke2 N) := q06 (vf0 N) <| q06 (ze0 N) <| q06 (k06 N) <| q06 (uc1 N) <| q26 _
def zi0 (N : Nat) (x y : qa6) : Option qa6 :=
 bif (x.1 == y.1) then
  (k38 N x.2.1 y.2.1).bind fun r =>
  (wh5 N x.1 r).bind fun r1 =>
  some r1
 else
  (kk8 N x.2.1 y.2.1).bind fun r2 =>
  bif decide (r2 ≥ 0) then
   (yj8 N x.2.1 y.2.1).bind fun r3 =>
   (wh5 N x.1 r3).bind fun r4 =>
   some r4
  else
   (yj8 N y.2.1 x.2.1).bind fun r5 =>
   (wh5 N y.1 r5).bind fun r6 =>
   some r6
noncomputable def r1_Add_C (N : Nat) (x y : qa6) : Option (RT [ql6]) := q22 DR Tryz.prog N (ke2 N) r1_Add_H Tryz.f246 (q10 Tryz.f246) (RT [ql6]) (qd6 [ql6, ql6] (x, y, ())) [] (q42 [ql6])
theorem kt3 (N : Nat) (x y : qa6) : r1_Add_C N x y = zi0 N x y := by kernel_rfl
def k44 (m : qa6 → qa6 → Option qa6) : Ent := q37 [ql6, ql6] [ql6] fun (x : Els [ql6, ql6]) => m x.1 x.2.1
def xe7 (N : Nat) : Ent := k44 (zi0 N)
theorem xm4 (N : Nat) : q16 Tryz.prog 246 (xe7 N) := q15 (r1_Add_Ts N) Tryz.func246 rfl (by kernel_rfl) fun (x : Els [ql6, ql6]) => kt3 N x.1 x.2.1
def r1_Neg_H : FH := ⟨[], [], [], [], false, [], []⟩
noncomputable def kd0 (N : Nat) : q52 := tab [(268, zi6 N)]
theorem r1_Neg_Ts (N : Nat) : q14 Tryz.prog (kd0 N) := q06 (ze0 N) <| q26 _
def wj9 (N : Nat) (x : qa6) : Option qa6 :=
 (wh5 N (!x.1) x.2.1).bind fun r =>
 some r
noncomputable def r1_Neg_C (N : Nat) (x : qa6) : Option (RT [ql6]) := q22 DR Tryz.prog N (kd0 N) r1_Neg_H Tryz.f248 (q10 Tryz.f248) (RT [ql6]) (qd6 [ql6] (x, ())) [] (q42 [ql6])
theorem km1 (N : Nat) (x : qa6) : r1_Neg_C N x = wj9 N x := by kernel_rfl
def k83 (m : qa6 → Option qa6) : Ent := q37 [ql6] [ql6] fun (x : Els [ql6]) => m x.1
def xd0 (N : Nat) : Ent := k83 (wj9 N)
theorem xo4 (N : Nat) : q16 Tryz.prog 248 (xd0 N) := q15 (r1_Neg_Ts N) Tryz.func248 rfl (by kernel_rfl) fun (x : Els [ql6]) => km1 N x.1
def zq6 : LH := ⟨[(0, .str), (2, .asis), (5, .asis), (6, .int .i64), (7, .int .i64), (8, .bool), (9, .int .i64)], [], [.cells [.bool, .lst (.int .i64)], .cells [.bool, .lst (.int .i64)]]⟩
def zr6 : LH := ⟨[(0, .str), (2, .asis), (5, .asis), (7, .int .i64), (8, .bool), (9, .int .i64), (10, .int .i64), (11, .int .i64)], [], [.cells [.bool, .lst (.int .i64)], .cells [.bool, .lst (.int .i64)]]⟩
def qe1 : FH := ⟨[zq6, zr6], [], [(12, ⟨8, 110, 0, [], []⟩), (21, ⟨2, 110, 0, [], []⟩)], [], false, [], []⟩
noncomputable def yh4 (N : Nat) : q52 := tab [(209, zv9 N), (247, x80 N), (246, xe7 N), (248, xd0 N)]
theorem uk2 (N : Nat) : q14 Tryz.prog (yh4 N) := q06 (zm2 N) <| q06 (xm3 N) <| q06 (xm4 N) <| q06 (xo4 N) <| q26 _
noncomputable def qf3 : Sc := wl4 Tryz.prog qe1
noncomputable def qf1 (N : Nat) : Cfg := ⟨N, yh4 N, 0⟩
noncomputable def w38 (N : Nat) : Exit → List TV → List TOb → Option OX4 := fin Tryz.prog 0 Tryz.f201.results.toList (q42 [ql6, .bool, .bool])
def wz6 (s : List UInt8) (neg2 : Bool) (first2 : Int) (qb2 : Bool) (qy1 : List Int) (e : Int × Int × Bool × List Int) : List TV := match e with
 | (at_2, point2, x_Neg4, x_D4) => frm 110 [(0, .str s), (2, .ref 0 0), (5, .ref 1 0), (6, .int .i64 at_2), (7, .int .i64 point2), (8, .bool neg2), (9, .int .i64 first2)]
def wx6 (s : List UInt8) (neg2 : Bool) (first2 : Int) (qb2 : Bool) (qy1 : List Int) (e : Int × Int × Bool × List Int) : List TOb := match e with
 | (at_2, point2, x_Neg4, x_D4) => [.cells [.bool qb2, .tl (.int .i64) qy1 .unk] 265 true, .cells [.bool x_Neg4, .tl (.int .i64) x_D4 .unk] 265 true]
def jn5 (s : List UInt8) (point2 : Int) (neg2 : Bool) (first2 : Int) (qb2 : Bool) (qy1 : List Int) (e : Int × Bool × List Int) : List TV := match e with
 | (n2, x_Neg5, x_D5) => frm 110 [(0, .str s), (2, .ref 0 0), (5, .ref 1 0), (7, .int .i64 point2), (8, .bool neg2), (9, .int .i64 first2), (10, .int .i64 point2), (11, .int .i64 n2)]
def jn9 (s : List UInt8) (point2 : Int) (neg2 : Bool) (first2 : Int) (qb2 : Bool) (qy1 : List Int) (e : Int × Bool × List Int) : List TOb := match e with
 | (n2, x_Neg5, x_D5) => [.cells [.bool qb2, .tl (.int .i64) qy1 .unk] 265 true, .cells [.bool x_Neg5, .tl (.int .i64) x_D5 .unk] 265 true]
def wu5 (s : List UInt8) (neg1 : Bool) (first1 : Int) (qb1 : Bool) (qy3 : List Int) (e : Int × Int × Bool × List Int) : List TV := match e with
 | (at_1, point1, x_Neg2, x_D2) => frm 110 [(0, .str s), (2, .ref 0 0), (5, .ref 1 0), (6, .int .i64 at_1), (7, .int .i64 point1), (8, .bool neg1), (9, .int .i64 first1)]
def wx7 (s : List UInt8) (neg1 : Bool) (first1 : Int) (qb1 : Bool) (qy3 : List Int) (e : Int × Int × Bool × List Int) : List TOb := match e with
 | (at_1, point1, x_Neg2, x_D2) => [.cells [.bool qb1, .tl (.int .i64) qy3 .unk] 265 true, .cells [.bool x_Neg2, .tl (.int .i64) x_D2 .unk] 265 true]
def jo7 (s : List UInt8) (point1 : Int) (neg1 : Bool) (first1 : Int) (qb1 : Bool) (qy3 : List Int) (e : Int × Bool × List Int) : List TV := match e with
 | (n1, x_Neg3, x_D3) => frm 110 [(0, .str s), (2, .ref 0 0), (5, .ref 1 0), (7, .int .i64 point1), (8, .bool neg1), (9, .int .i64 first1), (10, .int .i64 point1), (11, .int .i64 n1)]
def jv4 (s : List UInt8) (point1 : Int) (neg1 : Bool) (first1 : Int) (qb1 : Bool) (qy3 : List Int) (e : Int × Bool × List Int) : List TOb := match e with
 | (n1, x_Neg3, x_D3) => [.cells [.bool qb1, .tl (.int .i64) qy3 .unk] 265 true, .cells [.bool x_Neg3, .tl (.int .i64) x_D3 .unk] 265 true]
def z16 (s : List UInt8) (neg : Bool) (first : Int) (qa9 : Bool) (z21 : List Int) (e : Int × Int × Bool × List Int) : List TV := match e with
 | (at_, point, q33, x_D) => frm 110 [(0, .str s), (2, .ref 0 0), (5, .ref 1 0), (6, .int .i64 at_), (7, .int .i64 point), (8, .bool neg), (9, .int .i64 first)]
def z01 (s : List UInt8) (neg : Bool) (first : Int) (qa9 : Bool) (z21 : List Int) (e : Int × Int × Bool × List Int) : List TOb := match e with
 | (at_, point, q33, x_D) => [.cells [.bool qa9, .tl (.int .i64) z21 .unk] 265 true, .cells [.bool q33, .tl (.int .i64) x_D .unk] 265 true]
def jy0 (s : List UInt8) (point : Int) (neg : Bool) (first : Int) (qa9 : Bool) (z21 : List Int) (e : Int × Bool × List Int) : List TV := match e with
 | (n, x_Neg1, x_D1) => frm 110 [(0, .str s), (2, .ref 0 0), (5, .ref 1 0), (7, .int .i64 point), (8, .bool neg), (9, .int .i64 first), (10, .int .i64 point), (11, .int .i64 n)]
def ju1 (s : List UInt8) (point : Int) (neg : Bool) (first : Int) (qa9 : Bool) (z21 : List Int) (e : Int × Bool × List Int) : List TOb := match e with
 | (n, x_Neg1, x_D1) => [.cells [.bool qa9, .tl (.int .i64) z21 .unk] 265 true, .cells [.bool x_Neg1, .tl (.int .i64) x_D1 .unk] 265 true]
noncomputable def xp2 (N : Nat) : (List TV → List TOb → Option OX4) → List TV → List TOb → Option OX4 := w57 DR qf3 (qf1 N) (ql8 (qc7 (q07 (q07 (q07 (yq9 (q07 (q92 (q07 (q07 (q07 (q07 (q07 (q07 (q07 (q10 Tryz.f201)))))))))))))))) zr6 (qe1.loops.drop 2) (qj4 2 (qc5 DR qf3 (qf1 N) (q07 (q07 (q07 (q07 (q07 (q07 (q07 (q07 (q10 Tryz.f201))))))))) (qe1.loops.drop 2) (w38 N)))
def zo3 (N : Nat) (s : List UInt8) (point : Int) (neg : Bool) (first : Int) (qa9 : Bool) (z21 : List Int) (K1 : (Int × Bool × List Int) → Option OX4) (e : Int × Bool × List Int) : Option OX4 :=
 match e with
 | (n, x_Neg1, x_D1) =>
  bif decide (n < 4) then
   (qy9 N 10).bind fun r12 =>
   (wf9 N (x_Neg1, x_D1, ()) r12).bind fun r13 =>
   bif q27 (n + 1) then
   K1 (n + 1, r13.1, r13.2.1)
   else none
  else
   bif (point == first) then
    some ((x_Neg1, x_D1, ()), false, false, ())
   else
    bif inR first s.length then
    bif ((q38 s first) == 48) then
     bif q27 (first + 1) then
     bif decide (point > (first + 1)) then
      some ((x_Neg1, x_D1, ()), false, false, ())
     else
      bif neg then
       (wj9 N (x_Neg1, x_D1, ())).bind fun r14 =>
       some (r14, decide (point ≥ 0), true, ())
      else
       some ((x_Neg1, x_D1, ()), decide (point ≥ 0), true, ())
     else none
    else
     bif neg then
      (wj9 N (x_Neg1, x_D1, ())).bind fun r15 =>
      some (r15, decide (point ≥ 0), true, ())
     else
      some ((x_Neg1, x_D1, ()), decide (point ≥ 0), true, ())
    else none
theorem ul5 (N : Nat) (s : List UInt8) (point : Int) (neg : Bool) (first : Int) (qa9 : Bool) (z21 : List Int) (n_ : Nat) (e : Int × Bool × List Int) : q61 (xp2 N ) n_ ((jy0 s point neg first qa9 z21) e) ((ju1 s point neg first qa9 z21) e) = q95 (zo3 N s point neg first qa9 z21 ) n_ e :=
 q40 (jy0 s point neg first qa9 z21) (ju1 s point neg first qa9 z21) (by intro K e; obtain ⟨n, x_Neg1, x_D1⟩ := e; kernel_rfl) n_ e
noncomputable def jp9 (N : Nat) : (List TV → List TOb → Option OX4) → List TV → List TOb → Option OX4 := w57 DR qf3 (qf1 N) (ql8 (qc7 (q92 (q07 (q07 (q07 (q07 (q07 (q10 Tryz.f201))))))))) zq6 (qe1.loops.drop 1) (qj4 0 (qc5 DR qf3 (qf1 N) (q07 (q07 (q07 (q07 (q07 (q07 (q10 Tryz.f201))))))) (qe1.loops.drop 1) (w38 N)))
def jc0 (N : Nat) (s : List UInt8) (neg : Bool) (first : Int) (qa9 : Bool) (z21 : List Int) (l2 : (List UInt8) → Int → Bool → Int → Bool → (List Int) → (Int × Bool × List Int) → Option OX4) (K0 : (Int × Int × Bool × List Int) → Option OX4) (e : Int × Int × Bool × List Int) : Option OX4 :=
 match e with
 | (at_, point, q33, x_D) =>
  bif decide (at_ < (s.length : Int)) then
   bif inR at_ s.length then
   bif ((q38 s at_) == 46) then
    bif decide (point < 0) then
     bif decide (at_ > first) then
      bif q27 (at_ + 1) then
      K0 (at_ + 1, at_, q33, x_D)
      else none
     else
      bif inR at_ s.length then
      bif decide ((q38 s at_) < 48) then
       some ((q33, x_D, ()), false, false, ())
      else
       bif inR at_ s.length then
       bif decide ((q38 s at_) > 57) then
        some ((q33, x_D, ()), false, false, ())
       else
        (qy9 N 10).bind fun r =>
        (wf9 N (q33, x_D, ()) r).bind fun r1 =>
        bif inR at_ s.length then
        bif q27 (IntKind.u8.wrap ((q38 s at_) - 48)) then
        (qy9 N (IntKind.u8.wrap ((q38 s at_) - 48))).bind fun r2 =>
        (zi0 N r1 r2).bind fun r3 =>
        bif q27 (at_ + 1) then
        K0 (at_ + 1, point, r3.1, r3.2.1)
        else none
        else none
        else none
       else none
      else none
    else
     bif inR at_ s.length then
     bif decide ((q38 s at_) < 48) then
      some ((q33, x_D, ()), false, false, ())
     else
      bif inR at_ s.length then
      bif decide ((q38 s at_) > 57) then
       some ((q33, x_D, ()), false, false, ())
      else
       (qy9 N 10).bind fun r4 =>
       (wf9 N (q33, x_D, ()) r4).bind fun r5 =>
       bif inR at_ s.length then
       bif q27 (IntKind.u8.wrap ((q38 s at_) - 48)) then
       (qy9 N (IntKind.u8.wrap ((q38 s at_) - 48))).bind fun r6 =>
       (zi0 N r5 r6).bind fun r7 =>
       bif q27 (at_ + 1) then
       K0 (at_ + 1, point, r7.1, r7.2.1)
       else none
       else none
       else none
      else none
     else none
   else
    bif inR at_ s.length then
    bif decide ((q38 s at_) < 48) then
     some ((q33, x_D, ()), false, false, ())
    else
     bif inR at_ s.length then
     bif decide ((q38 s at_) > 57) then
      some ((q33, x_D, ()), false, false, ())
     else
      (qy9 N 10).bind fun r8 =>
      (wf9 N (q33, x_D, ()) r8).bind fun r9 =>
      bif inR at_ s.length then
      bif q27 (IntKind.u8.wrap ((q38 s at_) - 48)) then
      (qy9 N (IntKind.u8.wrap ((q38 s at_) - 48))).bind fun r10 =>
      (zi0 N r9 r10).bind fun r11 =>
      bif q27 (at_ + 1) then
      K0 (at_ + 1, point, r11.1, r11.2.1)
      else none
      else none
      else none
     else none
    else none
   else none
  else
   bif decide (point ≥ 0) then
    bif q27 ((s.length : Int) - point) then
    bif q27 (((s.length : Int) - point) - 1) then
    bif decide ((((s.length : Int) - point) - 1) < 1) then
     some ((q33, x_D, ()), false, false, ())
    else
     bif decide ((((s.length : Int) - point) - 1) > 4) then
      some ((q33, x_D, ()), false, false, ())
     else
      l2 s point neg first qa9 z21 (((s.length : Int) - point) - 1, q33, x_D)
    else none
    else none
   else
    bif ((s.length : Int) == first) then
     some ((q33, x_D, ()), false, false, ())
    else
     bif inR first s.length then
     bif ((q38 s first) == 48) then
      bif q27 (first + 1) then
      bif decide ((s.length : Int) > (first + 1)) then
       some ((q33, x_D, ()), false, false, ())
      else
       bif neg then
        (wj9 N (q33, x_D, ())).bind fun r16 =>
        some (r16, decide (point ≥ 0), true, ())
       else
        some ((q33, x_D, ()), decide (point ≥ 0), true, ())
      else none
     else
      bif neg then
       (wj9 N (q33, x_D, ())).bind fun r17 =>
       some (r17, decide (point ≥ 0), true, ())
      else
       some ((q33, x_D, ()), decide (point ≥ 0), true, ())
     else none
def w08 (N : Nat) (s : List UInt8) (neg : Bool) (first : Int) (qa9 : Bool) (z21 : List Int) (K0 : (Int × Int × Bool × List Int) → Option OX4) (e : Int × Int × Bool × List Int) : Option OX4 := jc0 N s neg first qa9 z21 (fun s point neg first qa9 z21 e => q95 (zo3 N s point neg first qa9 z21) N e) K0 e
theorem uk7 (N : Nat) (s : List UInt8) (neg : Bool) (first : Int) (qa9 : Bool) (z21 : List Int) (n_ : Nat) (e : Int × Int × Bool × List Int) : q61 (jp9 N ) n_ ((z16 s neg first qa9 z21) e) ((z01 s neg first qa9 z21) e) = q95 (w08 N s neg first qa9 z21 ) n_ e :=
 q40 (z16 s neg first qa9 z21) (z01 s neg first qa9 z21) (by
  intro K e
  have h : (jp9 N ) K ((z16 s neg first qa9 z21) e) ((z01 s neg first qa9 z21) e) = jc0 N s neg first qa9 z21 (fun s point neg first qa9 z21 e => q61 (xp2 N ) N (jy0 s point neg first qa9 z21 e) (ju1 s point neg first qa9 z21 e)) (fun e => K ((z16 s neg first qa9 z21) e) ((z01 s neg first qa9 z21) e)) e := by obtain ⟨at_, point, q33, x_D⟩ := e; kernel_rfl
  rw [h]
  simp only [w08, ul5] <;> rfl) n_ e
noncomputable def xq1 (N : Nat) : (List TV → List TOb → Option OX4) → List TV → List TOb → Option OX4 := w57 DR qf3 (qf1 N) (ql8 (qc7 (q07 (q07 (q07 (yq9 (q07 (q92 (q07 (q07 (q07 (q07 (q07 (q07 (q07 (q10 Tryz.f201)))))))))))))))) zr6 (qe1.loops.drop 2) (qj4 2 (qc5 DR qf3 (qf1 N) (q07 (q07 (q07 (q07 (q07 (q07 (q07 (q07 (q10 Tryz.f201))))))))) (qe1.loops.drop 2) (w38 N)))
def xm0 (N : Nat) (s : List UInt8) (point1 : Int) (neg1 : Bool) (first1 : Int) (qb1 : Bool) (qy3 : List Int) (K1 : (Int × Bool × List Int) → Option OX4) (e : Int × Bool × List Int) : Option OX4 :=
 match e with
 | (n1, x_Neg3, x_D3) =>
  bif decide (n1 < 4) then
   (qy9 N 10).bind fun r30 =>
   (wf9 N (x_Neg3, x_D3, ()) r30).bind fun r31 =>
   bif q27 (n1 + 1) then
   K1 (n1 + 1, r31.1, r31.2.1)
   else none
  else
   bif (point1 == first1) then
    some ((x_Neg3, x_D3, ()), false, false, ())
   else
    bif inR first1 s.length then
    bif ((q38 s first1) == 48) then
     bif q27 (first1 + 1) then
     bif decide (point1 > (first1 + 1)) then
      some ((x_Neg3, x_D3, ()), false, false, ())
     else
      bif neg1 then
       (wj9 N (x_Neg3, x_D3, ())).bind fun r32 =>
       some (r32, decide (point1 ≥ 0), true, ())
      else
       some ((x_Neg3, x_D3, ()), decide (point1 ≥ 0), true, ())
     else none
    else
     bif neg1 then
      (wj9 N (x_Neg3, x_D3, ())).bind fun r33 =>
      some (r33, decide (point1 ≥ 0), true, ())
     else
      some ((x_Neg3, x_D3, ()), decide (point1 ≥ 0), true, ())
    else none
theorem uq7 (N : Nat) (s : List UInt8) (point1 : Int) (neg1 : Bool) (first1 : Int) (qb1 : Bool) (qy3 : List Int) (n_ : Nat) (e : Int × Bool × List Int) : q61 (xq1 N ) n_ ((jo7 s point1 neg1 first1 qb1 qy3) e) ((jv4 s point1 neg1 first1 qb1 qy3) e) = q95 (xm0 N s point1 neg1 first1 qb1 qy3 ) n_ e :=
 q40 (jo7 s point1 neg1 first1 qb1 qy3) (jv4 s point1 neg1 first1 qb1 qy3) (by intro K e; obtain ⟨n1, x_Neg3, x_D3⟩ := e; kernel_rfl) n_ e
noncomputable def jp3 (N : Nat) : (List TV → List TOb → Option OX4) → List TV → List TOb → Option OX4 := w57 DR qf3 (qf1 N) (ql8 (qc7 (q92 (q07 (q07 (q07 (q07 (q07 (q10 Tryz.f201))))))))) zq6 (qe1.loops.drop 1) (qj4 0 (qc5 DR qf3 (qf1 N) (q07 (q07 (q07 (q07 (q07 (q07 (q10 Tryz.f201))))))) (qe1.loops.drop 1) (w38 N)))
def yv8 (N : Nat) (s : List UInt8) (neg1 : Bool) (first1 : Int) (qb1 : Bool) (qy3 : List Int) (l4 : (List UInt8) → Int → Bool → Int → Bool → (List Int) → (Int × Bool × List Int) → Option OX4) (K0 : (Int × Int × Bool × List Int) → Option OX4) (e : Int × Int × Bool × List Int) : Option OX4 :=
 match e with
 | (at_1, point1, x_Neg2, x_D2) =>
  bif decide (at_1 < (s.length : Int)) then
   bif inR at_1 s.length then
   bif ((q38 s at_1) == 46) then
    bif decide (point1 < 0) then
     bif decide (at_1 > first1) then
      bif q27 (at_1 + 1) then
      K0 (at_1 + 1, at_1, x_Neg2, x_D2)
      else none
     else
      bif inR at_1 s.length then
      bif decide ((q38 s at_1) < 48) then
       some ((x_Neg2, x_D2, ()), false, false, ())
      else
       bif inR at_1 s.length then
       bif decide ((q38 s at_1) > 57) then
        some ((x_Neg2, x_D2, ()), false, false, ())
       else
        (qy9 N 10).bind fun r18 =>
        (wf9 N (x_Neg2, x_D2, ()) r18).bind fun r19 =>
        bif inR at_1 s.length then
        bif q27 (IntKind.u8.wrap ((q38 s at_1) - 48)) then
        (qy9 N (IntKind.u8.wrap ((q38 s at_1) - 48))).bind fun r20 =>
        (zi0 N r19 r20).bind fun r21 =>
        bif q27 (at_1 + 1) then
        K0 (at_1 + 1, point1, r21.1, r21.2.1)
        else none
        else none
        else none
       else none
      else none
    else
     bif inR at_1 s.length then
     bif decide ((q38 s at_1) < 48) then
      some ((x_Neg2, x_D2, ()), false, false, ())
     else
      bif inR at_1 s.length then
      bif decide ((q38 s at_1) > 57) then
       some ((x_Neg2, x_D2, ()), false, false, ())
      else
       (qy9 N 10).bind fun r22 =>
       (wf9 N (x_Neg2, x_D2, ()) r22).bind fun r23 =>
       bif inR at_1 s.length then
       bif q27 (IntKind.u8.wrap ((q38 s at_1) - 48)) then
       (qy9 N (IntKind.u8.wrap ((q38 s at_1) - 48))).bind fun r24 =>
       (zi0 N r23 r24).bind fun r25 =>
       bif q27 (at_1 + 1) then
       K0 (at_1 + 1, point1, r25.1, r25.2.1)
       else none
       else none
       else none
      else none
     else none
   else
    bif inR at_1 s.length then
    bif decide ((q38 s at_1) < 48) then
     some ((x_Neg2, x_D2, ()), false, false, ())
    else
     bif inR at_1 s.length then
     bif decide ((q38 s at_1) > 57) then
      some ((x_Neg2, x_D2, ()), false, false, ())
     else
      (qy9 N 10).bind fun r26 =>
      (wf9 N (x_Neg2, x_D2, ()) r26).bind fun r27 =>
      bif inR at_1 s.length then
      bif q27 (IntKind.u8.wrap ((q38 s at_1) - 48)) then
      (qy9 N (IntKind.u8.wrap ((q38 s at_1) - 48))).bind fun r28 =>
      (zi0 N r27 r28).bind fun r29 =>
      bif q27 (at_1 + 1) then
      K0 (at_1 + 1, point1, r29.1, r29.2.1)
      else none
      else none
      else none
     else none
    else none
   else none
  else
   bif decide (point1 ≥ 0) then
    bif q27 ((s.length : Int) - point1) then
    bif q27 (((s.length : Int) - point1) - 1) then
    bif decide ((((s.length : Int) - point1) - 1) < 1) then
     some ((x_Neg2, x_D2, ()), false, false, ())
    else
     bif decide ((((s.length : Int) - point1) - 1) > 4) then
      some ((x_Neg2, x_D2, ()), false, false, ())
     else
      l4 s point1 neg1 first1 qb1 qy3 (((s.length : Int) - point1) - 1, x_Neg2, x_D2)
    else none
    else none
   else
    bif ((s.length : Int) == first1) then
     some ((x_Neg2, x_D2, ()), false, false, ())
    else
     bif inR first1 s.length then
     bif ((q38 s first1) == 48) then
      bif q27 (first1 + 1) then
      bif decide ((s.length : Int) > (first1 + 1)) then
       some ((x_Neg2, x_D2, ()), false, false, ())
      else
       bif neg1 then
        (wj9 N (x_Neg2, x_D2, ())).bind fun r34 =>
        some (r34, decide (point1 ≥ 0), true, ())
       else
        some ((x_Neg2, x_D2, ()), decide (point1 ≥ 0), true, ())
      else none
     else
      bif neg1 then
       (wj9 N (x_Neg2, x_D2, ())).bind fun r35 =>
       some (r35, decide (point1 ≥ 0), true, ())
      else
       some ((x_Neg2, x_D2, ()), decide (point1 ≥ 0), true, ())
     else none
def zr8 (N : Nat) (s : List UInt8) (neg1 : Bool) (first1 : Int) (qb1 : Bool) (qy3 : List Int) (K0 : (Int × Int × Bool × List Int) → Option OX4) (e : Int × Int × Bool × List Int) : Option OX4 := yv8 N s neg1 first1 qb1 qy3 (fun s point1 neg1 first1 qb1 qy3 e => q95 (xm0 N s point1 neg1 first1 qb1 qy3) N e) K0 e
theorem un9 (N : Nat) (s : List UInt8) (neg1 : Bool) (first1 : Int) (qb1 : Bool) (qy3 : List Int) (n_ : Nat) (e : Int × Int × Bool × List Int) : q61 (jp3 N ) n_ ((wu5 s neg1 first1 qb1 qy3) e) ((wx7 s neg1 first1 qb1 qy3) e) = q95 (zr8 N s neg1 first1 qb1 qy3 ) n_ e :=
 q40 (wu5 s neg1 first1 qb1 qy3) (wx7 s neg1 first1 qb1 qy3) (by
  intro K e
  have h : (jp3 N ) K ((wu5 s neg1 first1 qb1 qy3) e) ((wx7 s neg1 first1 qb1 qy3) e) = yv8 N s neg1 first1 qb1 qy3 (fun s point1 neg1 first1 qb1 qy3 e => q61 (xq1 N ) N (jo7 s point1 neg1 first1 qb1 qy3 e) (jv4 s point1 neg1 first1 qb1 qy3 e)) (fun e => K ((wu5 s neg1 first1 qb1 qy3) e) ((wx7 s neg1 first1 qb1 qy3) e)) e := by obtain ⟨at_1, point1, x_Neg2, x_D2⟩ := e; kernel_rfl
  rw [h]
  simp only [zr8, uq7] <;> rfl) n_ e
noncomputable def xn9 (N : Nat) : (List TV → List TOb → Option OX4) → List TV → List TOb → Option OX4 := w57 DR qf3 (qf1 N) (ql8 (qc7 (q07 (q07 (q07 (yq9 (q07 (q92 (q07 (q07 (q07 (q07 (q07 (q07 (q07 (q10 Tryz.f201)))))))))))))))) zr6 (qe1.loops.drop 2) (qj4 2 (qc5 DR qf3 (qf1 N) (q07 (q07 (q07 (q07 (q07 (q07 (q07 (q07 (q10 Tryz.f201))))))))) (qe1.loops.drop 2) (w38 N)))
def xn8 (N : Nat) (s : List UInt8) (point2 : Int) (neg2 : Bool) (first2 : Int) (qb2 : Bool) (qy1 : List Int) (K1 : (Int × Bool × List Int) → Option OX4) (e : Int × Bool × List Int) : Option OX4 :=
 match e with
 | (n2, x_Neg5, x_D5) =>
  bif decide (n2 < 4) then
   (qy9 N 10).bind fun r48 =>
   (wf9 N (x_Neg5, x_D5, ()) r48).bind fun r49 =>
   bif q27 (n2 + 1) then
   K1 (n2 + 1, r49.1, r49.2.1)
   else none
  else
   bif (point2 == first2) then
    some ((x_Neg5, x_D5, ()), false, false, ())
   else
    bif inR first2 s.length then
    bif ((q38 s first2) == 48) then
     bif q27 (first2 + 1) then
     bif decide (point2 > (first2 + 1)) then
      some ((x_Neg5, x_D5, ()), false, false, ())
     else
      bif neg2 then
       (wj9 N (x_Neg5, x_D5, ())).bind fun r50 =>
       some (r50, decide (point2 ≥ 0), true, ())
      else
       some ((x_Neg5, x_D5, ()), decide (point2 ≥ 0), true, ())
     else none
    else
     bif neg2 then
      (wj9 N (x_Neg5, x_D5, ())).bind fun r51 =>
      some (r51, decide (point2 ≥ 0), true, ())
     else
      some ((x_Neg5, x_D5, ()), decide (point2 ≥ 0), true, ())
    else none
theorem uq5 (N : Nat) (s : List UInt8) (point2 : Int) (neg2 : Bool) (first2 : Int) (qb2 : Bool) (qy1 : List Int) (n_ : Nat) (e : Int × Bool × List Int) : q61 (xn9 N ) n_ ((jn5 s point2 neg2 first2 qb2 qy1) e) ((jn9 s point2 neg2 first2 qb2 qy1) e) = q95 (xn8 N s point2 neg2 first2 qb2 qy1 ) n_ e :=
 q40 (jn5 s point2 neg2 first2 qb2 qy1) (jn9 s point2 neg2 first2 qb2 qy1) (by intro K e; obtain ⟨n2, x_Neg5, x_D5⟩ := e; kernel_rfl) n_ e
noncomputable def jo9 (N : Nat) : (List TV → List TOb → Option OX4) → List TV → List TOb → Option OX4 := w57 DR qf3 (qf1 N) (ql8 (qc7 (q92 (q07 (q07 (q07 (q07 (q07 (q10 Tryz.f201))))))))) zq6 (qe1.loops.drop 1) (qj4 0 (qc5 DR qf3 (qf1 N) (q07 (q07 (q07 (q07 (q07 (q07 (q10 Tryz.f201))))))) (qe1.loops.drop 1) (w38 N)))
def x35 (N : Nat) (s : List UInt8) (neg2 : Bool) (first2 : Int) (qb2 : Bool) (qy1 : List Int) (l6 : (List UInt8) → Int → Bool → Int → Bool → (List Int) → (Int × Bool × List Int) → Option OX4) (K0 : (Int × Int × Bool × List Int) → Option OX4) (e : Int × Int × Bool × List Int) : Option OX4 :=
 match e with
 | (at_2, point2, x_Neg4, x_D4) =>
  bif decide (at_2 < (s.length : Int)) then
   bif inR at_2 s.length then
   bif ((q38 s at_2) == 46) then
    bif decide (point2 < 0) then
     bif decide (at_2 > first2) then
      bif q27 (at_2 + 1) then
      K0 (at_2 + 1, at_2, x_Neg4, x_D4)
      else none
     else
      bif inR at_2 s.length then
      bif decide ((q38 s at_2) < 48) then
       some ((x_Neg4, x_D4, ()), false, false, ())
      else
       bif inR at_2 s.length then
       bif decide ((q38 s at_2) > 57) then
        some ((x_Neg4, x_D4, ()), false, false, ())
       else
        (qy9 N 10).bind fun r36 =>
        (wf9 N (x_Neg4, x_D4, ()) r36).bind fun r37 =>
        bif inR at_2 s.length then
        bif q27 (IntKind.u8.wrap ((q38 s at_2) - 48)) then
        (qy9 N (IntKind.u8.wrap ((q38 s at_2) - 48))).bind fun r38 =>
        (zi0 N r37 r38).bind fun r39 =>
        bif q27 (at_2 + 1) then
        K0 (at_2 + 1, point2, r39.1, r39.2.1)
        else none
        else none
        else none
       else none
      else none
    else
     bif inR at_2 s.length then
     bif decide ((q38 s at_2) < 48) then
      some ((x_Neg4, x_D4, ()), false, false, ())
     else
      bif inR at_2 s.length then
      bif decide ((q38 s at_2) > 57) then
       some ((x_Neg4, x_D4, ()), false, false, ())
      else
       (qy9 N 10).bind fun r40 =>
       (wf9 N (x_Neg4, x_D4, ()) r40).bind fun r41 =>
       bif inR at_2 s.length then
       bif q27 (IntKind.u8.wrap ((q38 s at_2) - 48)) then
       (qy9 N (IntKind.u8.wrap ((q38 s at_2) - 48))).bind fun r42 =>
       (zi0 N r41 r42).bind fun r43 =>
       bif q27 (at_2 + 1) then
       K0 (at_2 + 1, point2, r43.1, r43.2.1)
       else none
       else none
       else none
      else none
     else none
   else
    bif inR at_2 s.length then
    bif decide ((q38 s at_2) < 48) then
     some ((x_Neg4, x_D4, ()), false, false, ())
    else
     bif inR at_2 s.length then
     bif decide ((q38 s at_2) > 57) then
      some ((x_Neg4, x_D4, ()), false, false, ())
     else
      (qy9 N 10).bind fun r44 =>
      (wf9 N (x_Neg4, x_D4, ()) r44).bind fun r45 =>
      bif inR at_2 s.length then
      bif q27 (IntKind.u8.wrap ((q38 s at_2) - 48)) then
      (qy9 N (IntKind.u8.wrap ((q38 s at_2) - 48))).bind fun r46 =>
      (zi0 N r45 r46).bind fun r47 =>
      bif q27 (at_2 + 1) then
      K0 (at_2 + 1, point2, r47.1, r47.2.1)
      else none
      else none
      else none
     else none
    else none
   else none
  else
   bif decide (point2 ≥ 0) then
    bif q27 ((s.length : Int) - point2) then
    bif q27 (((s.length : Int) - point2) - 1) then
    bif decide ((((s.length : Int) - point2) - 1) < 1) then
     some ((x_Neg4, x_D4, ()), false, false, ())
    else
     bif decide ((((s.length : Int) - point2) - 1) > 4) then
      some ((x_Neg4, x_D4, ()), false, false, ())
     else
      l6 s point2 neg2 first2 qb2 qy1 (((s.length : Int) - point2) - 1, x_Neg4, x_D4)
    else none
    else none
   else
    bif ((s.length : Int) == first2) then
     some ((x_Neg4, x_D4, ()), false, false, ())
    else
     bif inR first2 s.length then
     bif ((q38 s first2) == 48) then
      bif q27 (first2 + 1) then
      bif decide ((s.length : Int) > (first2 + 1)) then
       some ((x_Neg4, x_D4, ()), false, false, ())
      else
       bif neg2 then
        (wj9 N (x_Neg4, x_D4, ())).bind fun r52 =>
        some (r52, decide (point2 ≥ 0), true, ())
       else
        some ((x_Neg4, x_D4, ()), decide (point2 ≥ 0), true, ())
      else none
     else
      bif neg2 then
       (wj9 N (x_Neg4, x_D4, ())).bind fun r53 =>
       some (r53, decide (point2 ≥ 0), true, ())
      else
       some ((x_Neg4, x_D4, ()), decide (point2 ≥ 0), true, ())
     else none
def zo1 (N : Nat) (s : List UInt8) (neg2 : Bool) (first2 : Int) (qb2 : Bool) (qy1 : List Int) (K0 : (Int × Int × Bool × List Int) → Option OX4) (e : Int × Int × Bool × List Int) : Option OX4 := x35 N s neg2 first2 qb2 qy1 (fun s point2 neg2 first2 qb2 qy1 e => q95 (xn8 N s point2 neg2 first2 qb2 qy1) N e) K0 e
theorem uw0 (N : Nat) (s : List UInt8) (neg2 : Bool) (first2 : Int) (qb2 : Bool) (qy1 : List Int) (n_ : Nat) (e : Int × Int × Bool × List Int) : q61 (jo9 N ) n_ ((wz6 s neg2 first2 qb2 qy1) e) ((wx6 s neg2 first2 qb2 qy1) e) = q95 (zo1 N s neg2 first2 qb2 qy1 ) n_ e :=
 q40 (wz6 s neg2 first2 qb2 qy1) (wx6 s neg2 first2 qb2 qy1) (by
  intro K e
  have h : (jo9 N ) K ((wz6 s neg2 first2 qb2 qy1) e) ((wx6 s neg2 first2 qb2 qy1) e) = x35 N s neg2 first2 qb2 qy1 (fun s point2 neg2 first2 qb2 qy1 e => q61 (xn9 N ) N (jn5 s point2 neg2 first2 qb2 qy1 e) (jn9 s point2 neg2 first2 qb2 qy1 e)) (fun e => K ((wz6 s neg2 first2 qb2 qy1) e) ((wx6 s neg2 first2 qb2 qy1) e)) e := by obtain ⟨at_2, point2, x_Neg4, x_D4⟩ := e; kernel_rfl
  rw [h]
  simp only [zo1, uq5] <;> rfl) n_ e
def yn6 (N : Nat) (s : List UInt8) (l1 l3 l5 : (List UInt8) → Bool → Int → Bool → (List Int) → (Int × Int × Bool × List Int) → Option OX4) : Option OX4 :=
 bif decide ((s.length : Int) > 0) then
  bif inR 0 s.length then
  bif ((q38 s 0) == 45) then
   l1 s ((q38 s 0) == 45) 1 false [] (1, (-1), false, [])
  else
   l3 s ((q38 s 0) == 45) 0 false [] (0, (-1), false, [])
  else none
 else
  l5 s false 0 false [] (0, (-1), false, [])
def zz7 (N : Nat) (s : List UInt8) : Option OX4 := yn6 N s (fun s neg first qa9 z21 e => q95 (w08 N s neg first qa9 z21) N e) (fun s neg1 first1 qb1 qy3 e => q95 (zr8 N s neg1 first1 qb1 qy3) N e) (fun s neg2 first2 qb2 qy1 e => q95 (zo1 N s neg2 first2 qb2 qy1) N e)
noncomputable def v96 (N : Nat) (s : List UInt8) : Option (RT [ql6, .bool, .bool]) := q22 DR Tryz.prog N (yh4 N) qe1 Tryz.f201 (q10 Tryz.f201) (RT [ql6, .bool, .bool]) (qd6 [.str] (s, ())) [] (q42 [ql6, .bool, .bool])
theorem u29 (N : Nat) (s : List UInt8) : v96 N s = zz7 N s := by
 have h : v96 N s = yn6 N s (fun s neg first qa9 z21 e => q61 (jp9 N ) N (z16 s neg first qa9 z21 e) (z01 s neg first qa9 z21 e)) (fun s neg1 first1 qb1 qy3 e => q61 (jp3 N ) N (wu5 s neg1 first1 qb1 qy3 e) (wx7 s neg1 first1 qb1 qy3 e)) (fun s neg2 first2 qb2 qy1 e => q61 (jo9 N ) N (wz6 s neg2 first2 qb2 qy1 e) (wx6 s neg2 first2 qb2 qy1 e)) := by kernel_rfl
 rw [h]
 simp only [zz7, uk7, un9, uw0] <;> rfl
def vo2 (m : (List UInt8) → Option OX4) : Ent := q37 [.str] [ql6, .bool, .bool] fun (x : Els [.str]) => m x.1
def yy7 (N : Nat) : Ent := vo2 (zz7 N)
theorem vi5 (N : Nat) : q16 Tryz.prog 201 (yy7 N) := q15 (uk2 N) Tryz.func201 rfl (by kernel_rfl) fun (x : Els [.str]) => u29 N x.1
def ks4 : FH := ⟨[], [], [], [], false, [], []⟩
noncomputable def vz0 (N : Nat) : q52 := tab []
theorem k67 (N : Nat) : q14 Tryz.prog (vz0 N) := q26 _
def xx5 (N : Nat) (is_ : Bool) : Option q00 :=
 bif is_ then
  some (4, 1, [], ())
 else
  some (4, 0, [], ())
noncomputable def kt4 (N : Nat) (is_ : Bool) : Option (RT [q05]) := q22 DR Tryz.prog N (vz0 N) ks4 Tryz.f202 (q10 Tryz.f202) (RT [q05]) (qd6 [.bool] (is_, ())) [] (q42 [q05])
theorem ug7 (N : Nat) (is_ : Bool) : kt4 N is_ = xx5 N is_ := by kernel_rfl
def u68 (m : Bool → Option q00) : Ent := q37 [.bool] [q05] fun (x : Els [.bool]) => m x.1
def xi7 (N : Nat) : Ent := u68 (xx5 N)
theorem vl2 (N : Nat) : q16 Tryz.prog 202 (xi7 N) := q15 (k67 N) Tryz.func202 rfl (by kernel_rfl) fun (x : Els [.bool]) => ug7 N x.1
def vv6 : LH := ⟨[(0, .str), (3, .int .i64)], [], []⟩
def yv1 : FH := ⟨[vv6], [], [], [], false, [], []⟩
noncomputable def vf7 (N : Nat) : q52 := tab []
theorem kl8 (N : Nat) : q14 Tryz.prog (vf7 N) := q26 _
noncomputable def vw0 : Sc := wl4 Tryz.prog yv1
noncomputable def vu7 (N : Nat) : Cfg := ⟨N, vf7 N, 0⟩
noncomputable def k43 (N : Nat) : Exit → List TV → List TOb → Option Bool := fin Tryz.prog 0 Tryz.f35.results.toList (q42 [.bool])
def x58 (s : List UInt8) (e : Int) : List TV := match e with
 | i => frm 47 [(0, .str s), (3, .int .i64 i)]
def xf4 (s : List UInt8) (e : Int) : List TOb := match e with
 | i => []
noncomputable def vu3 (N : Nat) : (List TV → List TOb → Option Bool) → List TV → List TOb → Option Bool := w57 DR vw0 (vu7 N) (ql8 (qc7 (q07 (q92 (q07 (q07 (q10 Tryz.f35))))))) vv6 (yv1.loops.drop 1) (qj4 0 (qc5 DR vw0 (vu7 N) (q07 (q07 (q07 (q10 Tryz.f35)))) (yv1.loops.drop 1) (k43 N)))
def xb1 (N : Nat) (s : List UInt8) (K0 : Int → Option Bool) (e : Int) : Option Bool :=
 match e with
 | i =>
  bif decide (i < (s.length : Int)) then
   bif inR i s.length then
   bif decide ((q38 s i) ≥ 97) then
    bif inR i s.length then
    bif (!(decide ((q38 s i) ≤ 122))) then
     bif (i == 0) then
      some false
     else
      bif inR i s.length then
      bif decide ((q38 s i) < 48) then
       some false
      else
       bif inR i s.length then
       bif decide ((q38 s i) > 57) then
        some false
       else
        bif q27 (i + 1) then
        K0 (i + 1)
        else none
       else none
      else none
    else
     bif q27 (i + 1) then
     K0 (i + 1)
     else none
    else none
   else
    bif (i == 0) then
     some false
    else
     bif inR i s.length then
     bif decide ((q38 s i) < 48) then
      some false
     else
      bif inR i s.length then
      bif decide ((q38 s i) > 57) then
       some false
      else
       bif q27 (i + 1) then
       K0 (i + 1)
       else none
      else none
     else none
   else none
  else
   some true
theorem kp2 (N : Nat) (s : List UInt8) (n_ : Nat) (e : Int) : q61 (vu3 N ) n_ ((x58 s) e) ((xf4 s) e) = q95 (xb1 N s ) n_ e :=
 q40 (x58 s) (xf4 s) (by intro K e; kernel_rfl) n_ e
def xy3 (N : Nat) (s : List UInt8) (l1 : (List UInt8) → Int → Option Bool) : Option Bool :=
 bif decide ((s.length : Int) < 1) then
  some false
 else
  bif decide ((s.length : Int) > 12) then
   some false
  else
   l1 s 0
def xe9 (N : Nat) (s : List UInt8) : Option Bool := xy3 N s (fun s e => q95 (xb1 N s) N e)
noncomputable def ut9 (N : Nat) (s : List UInt8) : Option (RT [.bool]) := q22 DR Tryz.prog N (vf7 N) yv1 Tryz.f35 (q10 Tryz.f35) (RT [.bool]) (qd6 [.str] (s, ())) [] (q42 [.bool])
theorem k81 (N : Nat) (s : List UInt8) : ut9 N s = xe9 N s := by
 have h : ut9 N s = xy3 N s (fun s e => q61 (vu3 N ) N (x58 s e) (xf4 s e)) := by kernel_rfl
 rw [h]
 simp only [xe9, kp2] <;> rfl
def ul4 (m : (List UInt8) → Option Bool) : Ent := q37 [.str] [.bool] fun (x : Els [.str]) => m x.1
def v17 (N : Nat) : Ent := ul4 (xe9 N)
theorem u28 (N : Nat) : q16 Tryz.prog 35 (v17 N) := q15 (kl8 N) Tryz.func35 rfl (by kernel_rfl) fun (x : Els [.str]) => k81 N x.1
def up9 : LH := ⟨[(1, .asis), (3, .int .i64)], [], [.cells [.int .u8, .int .i64, .str]]⟩
def yu6 : FH := ⟨[up9], [], [], [], false, [], []⟩
noncomputable def u92 (N : Nat) : q52 := tab [(35, v17 N)]
theorem r2_May_Ts (N : Nat) : q14 Tryz.prog (u92 N) := q06 (u28 N) <| q26 _
noncomputable def xy4 : Sc := wl4 Tryz.prog yu6
noncomputable def v89 (N : Nat) : Cfg := ⟨N, u92 N, 0⟩
noncomputable def kq8 (N : Nat) : Exit → List TV → List TOb → Option Bool := fin Tryz.prog 0 Tryz.f14.results.toList (q42 [.bool])
def vb1 (q44 v_N : Int) (v_S : List UInt8) (e : Int) : List TV := match e with
 | i => frm 77 [(1, .ref 0 0), (3, .int .i64 i)]
def v98 (q44 v_N : Int) (v_S : List UInt8) (e : Int) : List TOb := match e with
 | i => [.cells [.int .u8 q44, .int .i64 v_N, .str v_S] 26 true]
noncomputable def ut0 (N : Nat) : (List TV → List TOb → Option Bool) → List TV → List TOb → Option Bool := w57 DR xy4 (v89 N) (ql8 (qc7 (q07 (q92 (yq9 (q07 (zf4 (q07 (zf4 (q07 (qc7 (q07 (q92 (q07 (q10 Tryz.f14))))))))))))))) up9 (yu6.loops.drop 1) (qj4 1 (qc5 DR xy4 (v89 N) (q07 (yq9 (q07 (zf4 (q07 (zf4 (q07 (qc7 (q07 (q92 (q07 (q10 Tryz.f14)))))))))))) (yu6.loops.drop 1) (qj4 0 (qc5 DR xy4 (v89 N) (q07 (q07 (q10 Tryz.f14))) (yu6.loops.drop 1) (kq8 N)))))
def yz4 (N : Nat) (q44 v_N : Int) (v_S : List UInt8) (K0 : Int → Option Bool) (e : Int) : Option Bool :=
 match e with
 | i =>
  bif decide (i < (v_S.length : Int)) then
   bif inR i v_S.length then
   bif decide ((q38 v_S i) < 32) then
    some false
   else
    bif inR i v_S.length then
    bif decide ((q38 v_S i) > 126) then
     some false
    else
     bif q27 (i + 1) then
     K0 (i + 1)
     else none
    else none
   else none
  else
   bif (v_N == 0) then
    some (decide ((v_S.length : Int) ≤ 200))
   else
    some false
theorem r2_May_l1 (N : Nat) (q44 v_N : Int) (v_S : List UInt8) (n_ : Nat) (e : Int) : q61 (ut0 N ) n_ ((vb1 q44 v_N v_S) e) ((v98 q44 v_N v_S) e) = q95 (yz4 N q44 v_N v_S ) n_ e :=
 q40 (vb1 q44 v_N v_S) (v98 q44 v_N v_S) (by intro K e; kernel_rfl) n_ e
def u94 (N : Nat) (v : q00) (l1 : Int → Int → (List UInt8) → Int → Option Bool) : Option Bool :=
 bif (v.1 == 0) then
  bif (v.2.1 == 0) then
   some (v.2.2.1 == ([] : List UInt8))
  else
   some false
 else
  bif (v.1 == 1) then
   some (v.2.2.1 == ([] : List UInt8))
  else
   bif (v.1 == 2) then
    some (v.2.2.1 == ([] : List UInt8))
   else
    bif (v.1 == 3) then
     l1 v.1 v.2.1 v.2.2.1 0
    else
     bif (v.1 == 4) then
      bif (v.2.2.1 == ([] : List UInt8)) then
       bif (v.2.1 == 0) then
        some true
       else
        some (v.2.1 == 1)
      else
       some false
     else
      bif (v.1 == 5) then
       bif (v.2.1 == 0) then
        (xe9 N v.2.2.1).bind fun r =>
        some r
       else
        some false
      else
       some false
def xp6 (N : Nat) (v : q00) : Option Bool := u94 N v (fun q44 v_N v_S e => q95 (yz4 N q44 v_N v_S) N e)
noncomputable def kd5 (N : Nat) (v : q00) : Option (RT [.bool]) := q22 DR Tryz.prog N (u92 N) yu6 Tryz.f14 (q10 Tryz.f14) (RT [.bool]) (qd6 [q05] (v, ())) [] (q42 [.bool])
theorem kp6 (N : Nat) (v : q00) : kd5 N v = xp6 N v := by
 have h : kd5 N v = u94 N v (fun q44 v_N v_S e => q61 (ut0 N ) N (vb1 q44 v_N v_S e) (v98 q44 v_N v_S e)) := by kernel_rfl
 rw [h]
 simp only [xp6, r2_May_l1] <;> rfl
def uz7 (m : q00 → Option Bool) : Ent := q37 [q05] [.bool] fun (x : Els [q05]) => m x.1
def xb3 (N : Nat) : Ent := uz7 (xp6 N)
theorem xq3 (N : Nat) : q16 Tryz.prog 14 (xb3 N) := q15 (r2_May_Ts N) Tryz.func14 rfl (by kernel_rfl) fun (x : Els [q05]) => kp6 N x.1
def r1_Sub_H : FH := ⟨[], [], [(1, ⟨3, 9, 0, [], []⟩)], [], false, [], []⟩
noncomputable def kc4 (N : Nat) : q52 := tab [(248, xd0 N), (246, xe7 N)]
theorem r1_Sub_Ts (N : Nat) : q14 Tryz.prog (kc4 N) := q06 (xo4 N) <| q06 (xm4 N) <| q26 _
def vy1 (N : Nat) (x y : qa6) : Option qa6 :=
 (wj9 N y).bind fun r =>
 (zi0 N x r).bind fun r1 =>
 some r1
noncomputable def r1_Sub_C (N : Nat) (x y : qa6) : Option (RT [ql6]) := q22 DR Tryz.prog N (kc4 N) r1_Sub_H Tryz.f266 (q10 Tryz.f266) (RT [ql6]) (qd6 [ql6, ql6] (x, y, ())) [] (q42 [ql6])
theorem ks5 (N : Nat) (x y : qa6) : r1_Sub_C N x y = vy1 N x y := by kernel_rfl
def k39 (m : qa6 → qa6 → Option qa6) : Ent := q37 [ql6, ql6] [ql6] fun (x : Els [ql6, ql6]) => m x.1 x.2.1
def xe5 (N : Nat) : Ent := k39 (vy1 N)
theorem xn7 (N : Nat) : q16 Tryz.prog 266 (xe5 N) := q15 (r1_Sub_Ts N) Tryz.func266 rfl (by kernel_rfl) fun (x : Els [ql6, ql6]) => ks5 N x.1 x.2.1
def r1_Cmp_H : FH := ⟨[], [], [], [], false, [], []⟩
noncomputable def kd9 (N : Nat) : q52 := tab [(266, xe5 N)]
theorem r1_Cmp_Ts (N : Nat) : q14 Tryz.prog (kd9 N) := q06 (xn7 N) <| q26 _
def v13 (N : Nat) (x y : qa6) : Option Int :=
 (vy1 N x y).bind fun r =>
 bif r.1 then
  some (-1)
 else
  bif decide ((r.2.1.length : Int) > 0) then
   some 1
  else
   some 0
noncomputable def r1_Cmp_C (N : Nat) (x y : qa6) : Option (RT [(.int .i64)]) := q22 DR Tryz.prog N (kd9 N) r1_Cmp_H Tryz.f249 (q10 Tryz.f249) (RT [(.int .i64)]) (qd6 [ql6, ql6] (x, y, ())) [] (q42 [(.int .i64)])
theorem ks6 (N : Nat) (x y : qa6) : r1_Cmp_C N x y = v13 N x y := by kernel_rfl
def k71 (m : qa6 → qa6 → Option Int) : Ent := q37 [ql6, ql6] [(.int .i64)] fun (x : Els [ql6, ql6]) => m x.1 x.2.1
def xg5 (N : Nat) : Ent := k71 (v13 N)
theorem xi8 (N : Nat) : q16 Tryz.prog 249 (xg5 N) := q15 (r1_Cmp_Ts N) Tryz.func249 rfl (by kernel_rfl) fun (x : Els [ql6, ql6]) => ks6 N x.1 x.2.1
def v32 : LH := ⟨[(2, .asis), (3, .asis), (4, .asis), (5, .asis), (6, .asis), (7, .asis), (8, .asis), (9, .asis), (10, .int .i64)], [], [.cells [.bool, .lst (.int .i64)], .cells [.bool, .lst (.int .i64)], .cells [.bool, .lst (.int .i64)], .cells [.bool, .lst (.int .i64)], .cells [.bool, .lst (.int .i64)], .cells [.bool, .lst (.int .i64)], .same, .cells [.bool, .lst (.int .i64)]]⟩
def uo9 : LH := ⟨[(2, .asis), (3, .asis), (4, .asis), (5, .asis), (6, .asis), (7, .asis), (8, .asis), (9, .asis), (10, .int .i64), (11, .int .i64), (12, .int .i64)], [], [.cells [.bool, .lst (.int .i64)], .cells [.bool, .lst (.int .i64)], .cells [.bool, .lst (.int .i64)], .cells [.bool, .lst (.int .i64)], .cells [.bool, .lst (.int .i64)], .cells [.bool, .lst (.int .i64)], .same, .cells [.bool, .lst (.int .i64)]]⟩
def zp4 : FH := ⟨[v32, uo9], [23], [(1, ⟨9, 83, 2, [(6, .alloc 0), (7, .alloc 1), (8, .store true 4)], []⟩), (7, ⟨8, 83, 0, [], []⟩), (11, ⟨5, 83, 0, [], []⟩), (15, ⟨5, 83, 0, [], []⟩), (16, ⟨11, 83, 0, [], []⟩)], [(16, 8)], false, [], []⟩
noncomputable def uf3 (N : Nat) : q52 := tab [(268, zi6 N), (209, zv9 N), (247, x80 N), (249, xg5 N), (266, xe5 N)]
theorem r1_Quo_Ts (N : Nat) : q14 Tryz.prog (uf3 N) := q06 (ze0 N) <| q06 (zm2 N) <| q06 (xm3 N) <| q06 (xi8 N) <| q06 (xn7 N) <| q26 _
noncomputable def j23 : Sc := wl4 Tryz.prog zp4
noncomputable def zi3 (N : Nat) : Cfg := ⟨N, uf3 N, 0⟩
noncomputable def vu6 (N : Nat) : Exit → List TV → List TOb → Option (qa6 × qa6 × Unit) := fin Tryz.prog 0 Tryz.f239.results.toList (q42 [ql6, ql6])
def zz9 (q33 : Bool) (x_D : List Int) (qa5 : Bool) (y_D : List Int) (q63 : Bool) (ql7 : List Int) (qe7 : Bool) (je3 : List Int) (qw0 : Bool) (a_D : List Int) (qt3 : Bool) (b_D : List Int) (x : qa6) (e : Int × List Int × Bool × List Int) : List TV := match e with
 | (i, q, r_Neg, r_D) => frm 83 [(2, .ref 0 0), (3, .ref 1 0), (4, .ref 2 0), (5, .ref 3 0), (6, .ref 4 0), (7, .ref 5 0), (8, .arr 6 ((x.2.1.length : Int).toNat)), (9, .ref 7 0), (10, .int .i64 i)]
def j22 (q33 : Bool) (x_D : List Int) (qa5 : Bool) (y_D : List Int) (q63 : Bool) (ql7 : List Int) (qe7 : Bool) (je3 : List Int) (qw0 : Bool) (a_D : List Int) (qt3 : Bool) (b_D : List Int) (x : qa6) (e : Int × List Int × Bool × List Int) : List TOb := match e with
 | (i, q, r_Neg, r_D) => [.cells [.bool q33, .tl (.int .i64) x_D .unk] 265 true, .cells [.bool qa5, .tl (.int .i64) y_D .unk] 265 true, .cells [.bool q63, .tl (.int .i64) ql7 .unk] 265 true, .cells [.bool qe7, .tl (.int .i64) je3 .unk] 265 true, .cells [.bool qw0, .tl (.int .i64) a_D .unk] 265 true, .cells [.bool qt3, .tl (.int .i64) b_D .unk] 265 true, .tarr (.int .i64) q 3 true, .cells [.bool r_Neg, .tl (.int .i64) r_D .unk] 265 true]
def v33 (i : Int) (q33 : Bool) (x_D : List Int) (qa5 : Bool) (y_D : List Int) (q63 : Bool) (ql7 : List Int) (qe7 : Bool) (je3 : List Int) (qw0 : Bool) (a_D : List Int) (qt3 : Bool) (b_D q : List Int) (z53 : Bool) (uz3 : List Int) (x : qa6) (e : Int × Int) : List TV := match e with
 | (low, high) => frm 83 [(2, .ref 0 0), (3, .ref 1 0), (4, .ref 2 0), (5, .ref 3 0), (6, .ref 4 0), (7, .ref 5 0), (8, .arr 6 ((x.2.1.length : Int).toNat)), (9, .ref 7 0), (10, .int .i64 i), (11, .int .i64 low), (12, .int .i64 high)]
def vh5 (i : Int) (q33 : Bool) (x_D : List Int) (qa5 : Bool) (y_D : List Int) (q63 : Bool) (ql7 : List Int) (qe7 : Bool) (je3 : List Int) (qw0 : Bool) (a_D : List Int) (qt3 : Bool) (b_D q : List Int) (z53 : Bool) (uz3 : List Int) (x : qa6) (e : Int × Int) : List TOb := match e with
 | (low, high) => [.cells [.bool q33, .tl (.int .i64) x_D .unk] 265 true, .cells [.bool qa5, .tl (.int .i64) y_D .unk] 265 true, .cells [.bool q63, .tl (.int .i64) ql7 .unk] 265 true, .cells [.bool qe7, .tl (.int .i64) je3 .unk] 265 true, .cells [.bool qw0, .tl (.int .i64) a_D .unk] 265 true, .cells [.bool qt3, .tl (.int .i64) b_D .unk] 265 true, .tarr (.int .i64) q 3 true, .cells [.bool z53, .tl (.int .i64) uz3 .unk] 265 true]
noncomputable def us6 (N : Nat) (K0r : List TV → List TOb → Option (qa6 × qa6 × Unit)) : (List TV → List TOb → Option (qa6 × qa6 × Unit)) → List TV → List TOb → Option (qa6 × qa6 × Unit) := w57 DR j23 (zi3 N) (ql8 (qc7 (q92 (q07 (q07 (qc7 (q92 (q07 (ql8 (qc7 (q07 (q92 (q07 (q07 (q07 (q07 (q10 Tryz.f239))))))))))))))))) uo9 (zp4.loops.drop 2) (qj4 2 (qc5 DR j23 (zi3 N) (q07 (q07 (q07 (qc7 (q92 (q07 (ql8 (qc7 (q07 (q92 (q07 (q07 (q07 (q07 (q10 Tryz.f239))))))))))))))) (zp4.loops.drop 2) (qj4 1 (qc5 DR j23 (zi3 N) (q07 (q07 (ql8 (qc7 (q07 (q92 (q07 (q07 (q07 (q07 (q10 Tryz.f239))))))))))) (zp4.loops.drop 2) (u83 (zi3 N) v32 (qj4 0 (qc5 DR j23 (zi3 N) (q07 (q07 (q07 (q07 (q07 (q10 Tryz.f239)))))) (zp4.loops.drop 2) (vu6 N))) K0r)))))
def v38 (N : Nat) (i : Int) (q33 : Bool) (x_D : List Int) (qa5 : Bool) (y_D : List Int) (q63 : Bool) (ql7 : List Int) (qe7 : Bool) (je3 : List Int) (qw0 : Bool) (a_D : List Int) (qt3 : Bool) (b_D q : List Int) (z53 : Bool) (uz3 : List Int) (x : qa6) (K0 : (Int × List Int × Bool × List Int) → Option (qa6 × qa6 × Unit)) (K1 : (Int × Int) → Option (qa6 × qa6 × Unit)) (e : Int × Int) : Option (qa6 × qa6 × Unit) :=
 match e with
 | (low, high) =>
  bif decide (low < high) then
   bif q27 (low + high) then
   bif q27 ((low + high) + 1) then
   bif q27 (Int.tdiv ((low + high) + 1) 2) then
   (qy9 N (Int.tdiv ((low + high) + 1) 2)).bind fun r1 =>
   (wf9 N r1 (qt3, b_D, ())).bind fun r2 =>
   (v13 N r2 (z53, uz3, ())).bind fun r3 =>
   bif decide (r3 ≤ 0) then
    K1 (Int.tdiv ((low + high) + 1) 2, high)
   else
    bif q27 ((Int.tdiv ((low + high) + 1) 2) - 1) then
    K1 (low, (Int.tdiv ((low + high) + 1) 2) - 1)
    else none
   else none
   else none
   else none
  else
   bif inR i ((x.2.1.length : Int).toNat) then
   bif inR i q.length then
   (qy9 N low).bind fun r4 =>
   (wf9 N r4 (qt3, b_D, ())).bind fun r5 =>
   (vy1 N (z53, uz3, ()) r5).bind fun r6 =>
   bif q27 (i - 1) then
   K0 (i - 1, (setD q i low), r6.1, r6.2.1)
   else none
   else none
   else none
theorem r1_Quo_l2 (N : Nat) (i : Int) (q33 : Bool) (x_D : List Int) (qa5 : Bool) (y_D : List Int) (q63 : Bool) (ql7 : List Int) (qe7 : Bool) (je3 : List Int) (qw0 : Bool) (a_D : List Int) (qt3 : Bool) (b_D q : List Int) (z53 : Bool) (uz3 : List Int) (x : qa6) (K0r : List TV → List TOb → Option (qa6 × qa6 × Unit)) (n_ : Nat) (e : Int × Int) : q61 (us6 N K0r) n_ ((v33 i q33 x_D qa5 y_D q63 ql7 qe7 je3 qw0 a_D qt3 b_D q z53 uz3 x) e) ((vh5 i q33 x_D qa5 y_D q63 ql7 qe7 je3 qw0 a_D qt3 b_D q z53 uz3 x) e) = q95 (v38 N i q33 x_D qa5 y_D q63 ql7 qe7 je3 qw0 a_D qt3 b_D q z53 uz3 x (fun a => K0r (zz9 q33 x_D qa5 y_D q63 ql7 qe7 je3 qw0 a_D qt3 b_D x a) (j22 q33 x_D qa5 y_D q63 ql7 qe7 je3 qw0 a_D qt3 b_D x a))) n_ e :=
 q40 (v33 i q33 x_D qa5 y_D q63 ql7 qe7 je3 qw0 a_D qt3 b_D q z53 uz3 x) (vh5 i q33 x_D qa5 y_D q63 ql7 qe7 je3 qw0 a_D qt3 b_D q z53 uz3 x) (by intro K e; obtain ⟨low, high⟩ := e; kernel_rfl) n_ e
noncomputable def v24 (N : Nat) : (List TV → List TOb → Option (qa6 × qa6 × Unit)) → List TV → List TOb → Option (qa6 × qa6 × Unit) := w57 DR j23 (zi3 N) (ql8 (qc7 (q07 (q92 (q07 (q07 (q07 (q07 (q10 Tryz.f239))))))))) v32 (zp4.loops.drop 1) (qj4 0 (qc5 DR j23 (zi3 N) (q07 (q07 (q07 (q07 (q07 (q10 Tryz.f239)))))) (zp4.loops.drop 2) (vu6 N)))
def x76 (N : Nat) (q33 : Bool) (x_D : List Int) (qa5 : Bool) (y_D : List Int) (q63 : Bool) (ql7 : List Int) (qe7 : Bool) (je3 : List Int) (qw0 : Bool) (a_D : List Int) (qt3 : Bool) (b_D : List Int) (x : qa6) (l2 : Int → Bool → (List Int) → Bool → (List Int) → Bool → (List Int) → Bool → (List Int) → Bool → (List Int) → Bool → (List Int) → (List Int) → Bool → (List Int) → qa6 → (Int × Int) → Option (qa6 × qa6 × Unit)) (K0 : (Int × List Int × Bool × List Int) → Option (qa6 × qa6 × Unit)) (e : Int × List Int × Bool × List Int) : Option (qa6 × qa6 × Unit) :=
 match e with
 | (i, q, r_Neg, r_D) =>
  bif decide (i ≥ 0) then
   bif inR i a_D.length then
   bif qz1 ([(q25 a_D i 0)].length + r_D.length) 17592186044416 then
   (wh5 N false ([(q25 a_D i 0)] ++ r_D)).bind fun r =>
   l2 i q33 x_D qa5 y_D q63 ql7 qe7 je3 qw0 a_D qt3 b_D q r.1 r.2.1 x (0, 9999)
   else none
   else none
  else
   bif Nat.beq ((x.2.1.length : Int).toNat) q.length then
   (wh5 N (!(q33 == qa5)) q).bind fun r7 =>
   (wh5 N q33 r_D).bind fun r8 =>
   some (r7, r8, ())
   else none
def yt5 (N : Nat) (q33 : Bool) (x_D : List Int) (qa5 : Bool) (y_D : List Int) (q63 : Bool) (ql7 : List Int) (qe7 : Bool) (je3 : List Int) (qw0 : Bool) (a_D : List Int) (qt3 : Bool) (b_D : List Int) (x : qa6) (K0 : (Int × List Int × Bool × List Int) → Option (qa6 × qa6 × Unit)) (e : Int × List Int × Bool × List Int) : Option (qa6 × qa6 × Unit) := x76 N q33 x_D qa5 y_D q63 ql7 qe7 je3 qw0 a_D qt3 b_D x (fun i q33 x_D qa5 y_D q63 ql7 qe7 je3 qw0 a_D qt3 b_D q z53 uz3 x e => q95 (v38 N i q33 x_D qa5 y_D q63 ql7 qe7 je3 qw0 a_D qt3 b_D q z53 uz3 x K0) N e) K0 e
theorem r1_Quo_l1 (N : Nat) (q33 : Bool) (x_D : List Int) (qa5 : Bool) (y_D : List Int) (q63 : Bool) (ql7 : List Int) (qe7 : Bool) (je3 : List Int) (qw0 : Bool) (a_D : List Int) (qt3 : Bool) (b_D : List Int) (x : qa6) (n_ : Nat) (e : Int × List Int × Bool × List Int) : q61 (v24 N ) n_ ((zz9 q33 x_D qa5 y_D q63 ql7 qe7 je3 qw0 a_D qt3 b_D x) e) ((j22 q33 x_D qa5 y_D q63 ql7 qe7 je3 qw0 a_D qt3 b_D x) e) = q95 (yt5 N q33 x_D qa5 y_D q63 ql7 qe7 je3 qw0 a_D qt3 b_D x ) n_ e :=
 q40 (zz9 q33 x_D qa5 y_D q63 ql7 qe7 je3 qw0 a_D qt3 b_D x) (j22 q33 x_D qa5 y_D q63 ql7 qe7 je3 qw0 a_D qt3 b_D x) (by
  intro K e
  have h : (v24 N ) K ((zz9 q33 x_D qa5 y_D q63 ql7 qe7 je3 qw0 a_D qt3 b_D x) e) ((j22 q33 x_D qa5 y_D q63 ql7 qe7 je3 qw0 a_D qt3 b_D x) e) = x76 N q33 x_D qa5 y_D q63 ql7 qe7 je3 qw0 a_D qt3 b_D x (fun i q33 x_D qa5 y_D q63 ql7 qe7 je3 qw0 a_D qt3 b_D q z53 uz3 x e => q61 (us6 N K) N (v33 i q33 x_D qa5 y_D q63 ql7 qe7 je3 qw0 a_D qt3 b_D q z53 uz3 x e) (vh5 i q33 x_D qa5 y_D q63 ql7 qe7 je3 qw0 a_D qt3 b_D q z53 uz3 x e)) (fun e => K ((zz9 q33 x_D qa5 y_D q63 ql7 qe7 je3 qw0 a_D qt3 b_D x) e) ((j22 q33 x_D qa5 y_D q63 ql7 qe7 je3 qw0 a_D qt3 b_D x) e)) e := by obtain ⟨i, q, r_Neg, r_D⟩ := e; kernel_rfl
  rw [h]
  simp only [yt5, r1_Quo_l2] <;> rfl) n_ e
def u37 (N : Nat) (x y : qa6) (l1 : Bool → (List Int) → Bool → (List Int) → Bool → (List Int) → Bool → (List Int) → Bool → (List Int) → Bool → (List Int) → qa6 → (Int × List Int × Bool × List Int) → Option (qa6 × qa6 × Unit)) : Option (qa6 × qa6 × Unit) :=
 bif jn4 8 (x.2.1.length : Int) (x.2.1.length : Int) then
 bif q27 ((x.2.1.length : Int) - 1) then
 l1 x.1 x.2.1 y.1 y.2.1 false [] false [] false x.2.1 false y.2.1 x ((x.2.1.length : Int) - 1, (List.replicate (x.2.1.length : Int).toNat 0), false, [])
 else none
 else none
def xj6 (N : Nat) (x y : qa6) : Option (qa6 × qa6 × Unit) := u37 N x y (fun q33 x_D qa5 y_D q63 ql7 qe7 je3 qw0 a_D qt3 b_D x e => q95 (yt5 N q33 x_D qa5 y_D q63 ql7 qe7 je3 qw0 a_D qt3 b_D x) N e)
noncomputable def kh2 (N : Nat) (x y : qa6) : Option (RT [ql6, ql6]) := q22 DR Tryz.prog N (uf3 N) zp4 Tryz.f239 (q10 Tryz.f239) (RT [ql6, ql6]) (qd6 [ql6, ql6] (x, y, ())) [] (q42 [ql6, ql6])
theorem km4 (N : Nat) (x y : qa6) : kh2 N x y = xj6 N x y := by
 have h : kh2 N x y = u37 N x y (fun q33 x_D qa5 y_D q63 ql7 qe7 je3 qw0 a_D qt3 b_D x e => q61 (v24 N ) N (zz9 q33 x_D qa5 y_D q63 ql7 qe7 je3 qw0 a_D qt3 b_D x e) (j22 q33 x_D qa5 y_D q63 ql7 qe7 je3 qw0 a_D qt3 b_D x e)) := by kernel_rfl
 rw [h]
 simp only [xj6, r1_Quo_l1] <;> rfl
def k21 (m : qa6 → qa6 → Option (qa6 × qa6 × Unit)) : Ent := q37 [ql6, ql6] [ql6, ql6] fun (x : Els [ql6, ql6]) => m x.1 x.2.1
def vw4 (N : Nat) : Ent := k21 (xj6 N)
theorem ux7 (N : Nat) : q16 Tryz.prog 239 (vw4 N) := q15 (r1_Quo_Ts N) Tryz.func239 rfl (by kernel_rfl) fun (x : Els [ql6, ql6]) => km4 N x.1 x.2.1
end Go.Proofs.YtgicljncknbgcaaGreat.Abs
