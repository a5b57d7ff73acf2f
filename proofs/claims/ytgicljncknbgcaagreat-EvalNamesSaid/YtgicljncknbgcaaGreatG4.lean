/- The functions of the program, told on typed values, printed by a program: each tells what the reckoning of its body tells. -/
import Derived.Test.YtgicljncknbgcaaGreatL7
import Derived.Test.YtgicljncknbgcaaGreatG3
import Derived.Test.YtgicljncknbgcaaGreatLA
import Derived.Test.YtgicljncknbgcaaGreatProg
set_option linter.unusedVariables false
set_option linter.unusedSimpArgs false
set_option linter.unusedSectionVars false
namespace Go.Proofs.YtgicljncknbgcaaGreat.Abs
set_option maxRecDepth 100000
open Go Go.Proofs
def zw6 : FH := ⟨[], [], [(3, ⟨4, 51, 0, [(3, .store true 0)], []⟩), (10, ⟨8, 51, 0, [(7, .store true 0)], []⟩)], [], false, [], [(7, ⟨[(3, .asis), (5, .lst qd3), (7, .int .i64), (9, .int .i64)], [], [.cells [.int .i64, .int .i64], .cells [.int .i64, .int .i64]]⟩), (9, ⟨[(3, .asis), (5, .lst qd3), (7, .int .i64), (9, .int .i64)], [], [.cells [.int .i64, .int .i64], .cells [.int .i64, .int .i64]]⟩)]⟩
noncomputable def v72 (N : Nat) : q52 := tab [(29, vw2 N), (30, xl6 N), (31, x18 N)]
theorem ks8 (N : Nat) : q14 Tryz.prog (v72 N) := q06 (uk1 N) <| q06 (vq4 N) <| q06 (vf1 N) <| q26 _
noncomputable def zf1 : Sc := wl4 Tryz.prog zw6
noncomputable def zf9 (N : Nat) : Cfg := ⟨N, v72 N, 0⟩
noncomputable def v08 (N : Nat) : Exit → List TV → List TOb → Option ((List q24) × qv3 × Int × Unit) := fin Tryz.prog 0 Tryz.f11.results.toList (q42 [(.list q82), w86, (.int .i64)])
def xd2 (l : List q45) (e_ n qd0 qj5 : Int) (e : Unit) : List TV := frm 51 [(3, .ref 0 0), (5, .tl qd3 l .unk), (7, .int .i64 e_), (9, .int .i64 n)]
def xc9 (l : List q45) (e_ n qd0 qj5 : Int) (e : Unit) : List TOb := [.cells [.int .i64 0, .int .i64 0] 31 true, .cells [.int .i64 qd0, .int .i64 qj5] 31 true]
def vy9 (l : List q45) (n qd0 qj5 e : Int) : List TV := match e with
 | e_1 => frm 51 [(3, .ref 0 0), (5, .tl qd3 l .unk), (7, .int .i64 e_1), (9, .int .i64 n)]
def vt6 (l : List q45) (n qd0 qj5 e : Int) : List TOb := match e with
 | e_1 => [.cells [.int .i64 0, .int .i64 0] 31 true, .cells [.int .i64 qd0, .int .i64 qj5] 31 true]
noncomputable def vu9 (N : Nat) : List TV → List TOb → Option ((List q24) × qv3 × Int × Unit) := yz2 DR zf1 (zf9 N) (q92 (q92 (q07 (q07 (q07 (q07 (q07 (q07 (q10 Tryz.f11))))))))) (qc5 DR zf1 (zf9 N) (q07 (q92 (q07 (q07 (q07 (q07 (q07 (q07 (q10 Tryz.f11))))))))) (zw6.loops.drop 0) (qc5 DR zf1 (zf9 N) (q07 (q07 (q07 (q07 (q07 (q07 (q07 (q10 Tryz.f11)))))))) (zw6.loops.drop 0) (v08 N)))
def y67 (N : Nat) (l : List q45) (n qd0 qj5 e : Int) : Option ((List q24) × qv3 × Int × Unit) :=
 match e with
 | e_1 =>
  bif decide (n < (l.length : Int)) then
   bif inR n l.length then
   some ([], ((q25 l n q34).2.2.2.1), e_1, ())
   else none
  else
   (jz1 N l).bind fun r2 =>
   some ([], r2, e_1, ())
theorem kl2 (N : Nat) (l : List q45) (n qd0 qj5 e : Int) : jmp N (vu9 N ) ((vy9 l n qd0 qj5) e) ((vt6 l n qd0 qj5) e) = at1 N (y67 N l n qd0 qj5 e) := qo8 (by kernel_rfl) N
noncomputable def x75 (N : Nat) : List TV → List TOb → Option ((List q24) × qv3 × Int × Unit) := yz2 DR zf1 (zf9 N) (q92 (q92 (q07 (q07 (q07 (q07 (q07 (q10 Tryz.f11)))))))) (qc5 DR zf1 (zf9 N) (q07 (q92 (q07 (q07 (q07 (q07 (q07 (q10 Tryz.f11)))))))) (zw6.loops.drop 0) (qc5 DR zf1 (zf9 N) (q07 (q07 (q07 (q07 (q07 (q07 (q10 Tryz.f11))))))) (zw6.loops.drop 0) (v08 N)))
def yj9 (N : Nat) (l : List q45) (e_ n qd0 qj5 : Int) (l2 : (List q45) → Int → Int → Int → Int → Option ((List q24) × qv3 × Int × Unit)) (e : Unit) : Option ((List q24) × qv3 × Int × Unit) :=
 bif (e_ == 0) then
  l2 l n qd0 qj5 4
 else
  l2 l n qd0 qj5 e_
def j44 (N : Nat) (l : List q45) (e_ n qd0 qj5 : Int) (e : Unit) : Option ((List q24) × qv3 × Int × Unit) := yj9 N l e_ n qd0 qj5 (fun l n qd0 qj5 e => at1 N (y67 N l n qd0 qj5 e)) e
theorem kq9 (N : Nat) (l : List q45) (e_ n qd0 qj5 : Int) (e : Unit) : jmp N (x75 N ) ((xd2 l e_ n qd0 qj5) e) ((xc9 l e_ n qd0 qj5) e) = at1 N (j44 N l e_ n qd0 qj5 e) := qo8 (by
 have h : (x75 N ) ((xd2 l e_ n qd0 qj5) e) ((xc9 l e_ n qd0 qj5) e) = yj9 N l e_ n qd0 qj5 (fun l n qd0 qj5 e => jmp N (vu9 N ) (vy9 l n qd0 qj5 e) (vt6 l n qd0 qj5 e)) e := by kernel_rfl
 rw [h]
 simp only [j44, kl2] <;> rfl) N
def v30 (N : Nat) (s : List UInt8) (l1 : (List q45) → Int → Int → Int → Int → Unit → Option ((List q24) × qv3 × Int × Unit)) : Option ((List q24) × qv3 × Int × Unit) :=
 (yv5 N s).bind fun r =>
 bif (r.2.2.1 != 0) then
  some ([], r.2.1, r.2.2.1, ())
 else
  (x10 N r.1 0).bind fun r1 =>
  bif (r1.2.2.1 == 0) then
   bif (r1.2.1 == (r.1.length : Int)) then
    some (r1.1, (0, 0, ()), 0, ())
   else
    l1 r.1 r1.2.2.1 r1.2.1 r.2.1.1 r.2.1.2.1 ()
  else
   l1 r.1 r1.2.2.1 r1.2.1 r.2.1.1 r.2.1.2.1 ()
def yk1 (N : Nat) (s : List UInt8) : Option ((List q24) × qv3 × Int × Unit) := v30 N s (fun l e_ n qd0 qj5 e => at1 N (j44 N l e_ n qd0 qj5 e))
noncomputable def uu4 (N : Nat) (s : List UInt8) : Option (RT [(.list q82), w86, (.int .i64)]) := q22 DR Tryz.prog N (v72 N) zw6 Tryz.f11 (q10 Tryz.f11) (RT [(.list q82), w86, (.int .i64)]) (qd6 [.str] (s, ())) [] (q42 [(.list q82), w86, (.int .i64)])
theorem ka5 (N : Nat) (s : List UInt8) : uu4 N s = yk1 N s := by
 have h : uu4 N s = v30 N s (fun l e_ n qd0 qj5 e => jmp N (x75 N ) (xd2 l e_ n qd0 qj5 e) (xc9 l e_ n qd0 qj5 e)) := by kernel_rfl
 rw [h]
 simp only [yk1, kq9] <;> rfl
def ux6 (m : (List UInt8) → Option ((List q24) × qv3 × Int × Unit)) : Ent := q37 [.str] [(.list q82), w86, (.int .i64)] fun (x : Els [.str]) => m x.1
def ym8 (N : Nat) : Ent := ux6 (yk1 N)
theorem x34 (N : Nat) : q16 Tryz.prog 11 (ym8 N) := q15 (ks8 N) Tryz.func11 rfl (by kernel_rfl) fun (x : Els [.str]) => ka5 N x.1
def ka0 : FH := ⟨[], [], [], [], false, [], []⟩
noncomputable def vd1 (N : Nat) : q52 := tab [(180, jg4 N), (181, jh8 N)]
theorem ui1 (N : Nat) : q14 Tryz.prog (vd1 N) := q06 (yx5 N) <| q06 (yz6 N) <| q26 _
def qz3 (N : Nat) (v : q00) : Option Bool :=
 bif (v.1 == 0) then
  some ((v.1 == (0 : Int)) && ((v.2.1 == (0 : Int)) && ((v.2.2.1 == ([] : List UInt8)) && true)))
 else
  bif (v.1 == 1) then
   some (v.2.2.1 == ([] : List UInt8))
  else
   bif (v.1 == 2) then
    some (v.2.2.1 == ([] : List UInt8))
   else
    bif (v.1 == 3) then
     bif (v.2.1 == 0) then
      (wz2 N v.2.2.1).bind fun r =>
      some r
     else
      some false
    else
     bif (v.1 == 4) then
      bif (v.2.2.1 == ([] : List UInt8)) then
       bif (v.2.1 == 0) then
        some true
       else
        some (v.2.1 == 1)
      else
       some false
     else
      bif (v.1 == 5) then
       bif (v.2.1 == 0) then
        (wy9 N v.2.2.1).bind fun r1 =>
        some r1
       else
        some false
      else
       some false
noncomputable def k11 (N : Nat) (v : q00) : Option (RT [.bool]) := q22 DR Tryz.prog N (vd1 N) ka0 Tryz.f120 (q10 Tryz.f120) (RT [.bool]) (qd6 [q05] (v, ())) [] (q42 [.bool])
theorem u40 (N : Nat) (v : q00) : k11 N v = qz3 N v := by kernel_rfl
def vr2 (m : q00 → Option Bool) : Ent := q37 [q05] [.bool] fun (x : Els [q05]) => m x.1
def yu3 (N : Nat) : Ent := vr2 (qz3 N)
theorem vc9 (N : Nat) : q16 Tryz.prog 120 (yu3 N) := q15 (ui1 N) Tryz.func120 rfl (by kernel_rfl) fun (x : Els [q05]) => u40 N x.1
def uz9 : FH := ⟨[], [], [], [], false, [], []⟩
noncomputable def xy5 (N : Nat) : q52 := tab []
theorem ui8 (N : Nat) : q14 Tryz.prog (xy5 N) := q26 _
def qe0 (N : Nat) (e_ : Int) : Option q03 :=
 some ((0, 0, [], ()), e_, ())
noncomputable def k65 (N : Nat) (e_ : Int) : Option (RT [q08]) := q22 DR Tryz.prog N (xy5 N) uz9 Tryz.f76 (q10 Tryz.f76) (RT [q08]) (qd6 [(.int .i64)] (e_, ())) [] (q42 [q08])
theorem u22 (N : Nat) (e_ : Int) : k65 N e_ = qe0 N e_ := by kernel_rfl
def vk6 (m : Int → Option q03) : Ent := q37 [(.int .i64)] [q08] fun (x : Els [(.int .i64)]) => m x.1
def q97 (N : Nat) : Ent := vk6 (qe0 N)
theorem q87 (N : Nat) : q16 Tryz.prog 76 (q97 N) := q15 (ui8 N) Tryz.func76 rfl (by kernel_rfl) fun (x : Els [(.int .i64)]) => u22 N x.1
def k18 : FH := ⟨[], [], [], [], false, [], []⟩
noncomputable def v62 (N : Nat) : q52 := tab [(120, yu3 N), (76, q97 N)]
theorem uu2 (N : Nat) : q14 Tryz.prog (v62 N) := q06 (vc9 N) <| q06 (q87 N) <| q26 _
def zg7 (N : Nat) (v : q00) : Option q03 :=
 (qz3 N v).bind fun r =>
 bif (!r) then
  (qe0 N 2).bind fun r1 =>
  some r1
 else
  some (v, 0, ())
noncomputable def ka8 (N : Nat) (v : q00) : Option (RT [q08]) := q22 DR Tryz.prog N (v62 N) k18 Tryz.f75 (q10 Tryz.f75) (RT [q08]) (qd6 [q05] (v, ())) [] (q42 [q08])
theorem u88 (N : Nat) (v : q00) : ka8 N v = zg7 N v := by kernel_rfl
def vp7 (m : q00 → Option q03) : Ent := q37 [q05] [q08] fun (x : Els [q05]) => m x.1
def yz0 (N : Nat) : Ent := vp7 (zg7 N)
theorem vg6 (N : Nat) : q16 Tryz.prog 75 (yz0 N) := q15 (uu2 N) Tryz.func75 rfl (by kernel_rfl) fun (x : Els [q05]) => u88 N x.1
def xp4 : LH := ⟨[(3, .asis), (6, .asis), (23, .lst q70), (24, .int .i64), (25, .int .i64)], [], [.cells [.int .u8, .int .u8, .int .i64, .str, .str, .lst (.int .i64), .int .i64, .int .i64], .cells [.int .u8, .int .i64, .str], .cells [.int .u8, .int .i64, .str, .int .i64]]⟩
def zk1 : FH := ⟨[xp4], [], [], [], false, [], []⟩
noncomputable def yl2 (N : Nat) : q52 := tab [(75, yz0 N), (76, q97 N)]
theorem uj2 (N : Nat) : q14 Tryz.prog (yl2 N) := q06 (vg6 N) <| q06 (q87 N) <| q26 _
noncomputable def jr2 : Sc := wl4 Tryz.prog zk1
noncomputable def jq3 (N : Nat) : Cfg := ⟨N, yl2 N, 0⟩
noncomputable def ub9 (N : Nat) : Exit → List TV → List TOb → Option (q03 × Bool × Unit) := fin Tryz.prog 0 Tryz.f36.results.toList (q42 [q08, .bool])
def js6 (vars : List q31) (t24 jc6 q23 q67 : Int) (q66 q41 : List UInt8) (qb7 : List Int) (q13 q17 qf9 kj6 : Int) (ki3 : List UInt8) (qy6 yx6 : Int) (x42 : List UInt8) (a_e e : Int) : List TV := match e with
 | t25 => frm 40 [(3, .ref 0 0), (6, .ref 2 0), (23, .tl q70 vars .unk), (24, .int .i64 t24), (25, .int .i64 t25)]
def jr7 (vars : List q31) (t24 jc6 q23 q67 : Int) (q66 q41 : List UInt8) (qb7 : List Int) (q13 q17 qf9 kj6 : Int) (ki3 : List UInt8) (qy6 yx6 : Int) (x42 : List UInt8) (a_e e : Int) : List TOb := match e with
 | t25 => [.cells [.int .u8 jc6, .int .u8 q23, .int .i64 q67, .str q66, .str q41, .tl (.int .i64) qb7 .unk, .int .i64 q13, .int .i64 q17] 54 true, .cells [.int .u8 qf9, .int .i64 kj6, .str ki3] 26 true, .cells [.int .u8 qy6, .int .i64 yx6, .str x42, .int .i64 a_e] 115 true]
noncomputable def xi6 (N : Nat) : (List TV → List TOb → Option (q03 × Bool × Unit)) → List TV → List TOb → Option (q03 × Bool × Unit) := w57 DR jr2 (jq3 N) (ql8 (qc7 (q07 (q92 (yq9 (q07 (zf4 (q07 (zf4 (q07 (qc7 (q07 (q92 (q07 (q10 Tryz.f36))))))))))))))) xp4 (zk1.loops.drop 1) (qj4 1 (qc5 DR jr2 (jq3 N) (q07 (yq9 (q07 (zf4 (q07 (zf4 (q07 (qc7 (q07 (q92 (q07 (q10 Tryz.f36)))))))))))) (zk1.loops.drop 1) (qj4 0 (qc5 DR jr2 (jq3 N) (q07 (q07 (q10 Tryz.f36))) (zk1.loops.drop 1) (ub9 N)))))
def y16 (N : Nat) (vars : List q31) (t24 jc6 q23 q67 : Int) (q66 q41 : List UInt8) (qb7 : List Int) (q13 q17 qf9 kj6 : Int) (ki3 : List UInt8) (qy6 yx6 : Int) (x42 : List UInt8) (a_e : Int) (K0 : Int → Option (q03 × Bool × Unit)) (e : Int) : Option (q03 × Bool × Unit) :=
 match e with
 | t25 =>
  bif decide (t25 < t24) then
   bif inR t25 vars.length then
   bif (((q25 vars t25 wk7).1) == q41) then
    (zg7 N ((q25 vars t25 wk7).2.1)).bind fun r2 =>
    some (r2, true, ())
   else
    bif q27 (t25 + 1) then
    K0 (t25 + 1)
    else none
   else none
  else
   (qe0 N 11).bind fun r3 =>
   some (r3, true, ())
theorem um2 (N : Nat) (vars : List q31) (t24 jc6 q23 q67 : Int) (q66 q41 : List UInt8) (qb7 : List Int) (q13 q17 qf9 kj6 : Int) (ki3 : List UInt8) (qy6 yx6 : Int) (x42 : List UInt8) (a_e : Int) (n_ : Nat) (e : Int) : q61 (xi6 N ) n_ ((js6 vars t24 jc6 q23 q67 q66 q41 qb7 q13 q17 qf9 kj6 ki3 qy6 yx6 x42 a_e) e) ((jr7 vars t24 jc6 q23 q67 q66 q41 qb7 q13 q17 qf9 kj6 ki3 qy6 yx6 x42 a_e) e) = q95 (y16 N vars t24 jc6 q23 q67 q66 q41 qb7 q13 q17 qf9 kj6 ki3 qy6 yx6 x42 a_e ) n_ e :=
 q40 (js6 vars t24 jc6 q23 q67 q66 q41 qb7 q13 q17 qf9 kj6 ki3 qy6 yx6 x42 a_e) (jr7 vars t24 jc6 q23 q67 q66 q41 qb7 q13 q17 qf9 kj6 ki3 qy6 yx6 x42 a_e) (by intro K e; kernel_rfl) n_ e
def jb7 (N : Nat) (n : q24) (self : q00) (vars : List q31) (l1 : (List q31) → Int → Int → Int → Int → (List UInt8) → (List UInt8) → (List Int) → Int → Int → Int → Int → (List UInt8) → Int → Int → (List UInt8) → Int → Int → Option (q03 × Bool × Unit)) : Option (q03 × Bool × Unit) :=
 bif (n.1 == 1) then
  (zg7 N n.2.1).bind fun r =>
  some (r, true, ())
 else
  bif (n.1 == 3) then
   (zg7 N self).bind fun r1 =>
   some (r1, true, ())
  else
   bif (n.1 == 2) then
    l1 vars (vars.length : Int) n.1 n.2.1.1 n.2.1.2.1 n.2.1.2.2.1 n.2.2.1 n.2.2.2.1 n.2.2.2.2.1.1 n.2.2.2.2.1.2.1 self.1 self.2.1 self.2.2.1 0 0 [] 0 0
   else
    some (((0, 0, [], ()), 0, ()), false, ())
def wz0 (N : Nat) (n : q24) (self : q00) (vars : List q31) : Option (q03 × Bool × Unit) := jb7 N n self vars (fun vars t24 jc6 q23 q67 q66 q41 qb7 q13 q17 qf9 kj6 ki3 qy6 yx6 x42 a_e e => q95 (y16 N vars t24 jc6 q23 q67 q66 q41 qb7 q13 q17 qf9 kj6 ki3 qy6 yx6 x42 a_e) N e)
noncomputable def v26 (N : Nat) (n : q24) (self : q00) (vars : List q31) : Option (RT [q08, .bool]) := q22 DR Tryz.prog N (yl2 N) zk1 Tryz.f36 (q10 Tryz.f36) (RT [q08, .bool]) (qd6 [q82, q05, (.list q70)] (n, self, vars, ())) [] (q42 [q08, .bool])
theorem uf7 (N : Nat) (n : q24) (self : q00) (vars : List q31) : v26 N n self vars = wz0 N n self vars := by
 have h : v26 N n self vars = jb7 N n self vars (fun vars t24 jc6 q23 q67 q66 q41 qb7 q13 q17 qf9 kj6 ki3 qy6 yx6 x42 a_e e => q61 (xi6 N ) N (js6 vars t24 jc6 q23 q67 q66 q41 qb7 q13 q17 qf9 kj6 ki3 qy6 yx6 x42 a_e e) (jr7 vars t24 jc6 q23 q67 q66 q41 qb7 q13 q17 qf9 kj6 ki3 qy6 yx6 x42 a_e e)) := by kernel_rfl
 rw [h]
 simp only [wz0, um2] <;> rfl
def vk8 (m : q24 → q00 → (List q31) → Option (q03 × Bool × Unit)) : Ent := q37 [q82, q05, (.list q70)] [q08, .bool] fun (x : Els [q82, q05, (.list q70)]) => m x.1 x.2.1 x.2.2.1
def x27 (N : Nat) : Ent := vk8 (wz0 N)
theorem vg3 (N : Nat) : q16 Tryz.prog 36 (x27 N) := q15 (uj2 N) Tryz.func36 rfl (by kernel_rfl) fun (x : Els [q82, q05, (.list q70)]) => uf7 N x.1 x.2.1 x.2.2.1
def v53 : FH := ⟨[], [], [], [], false, [], []⟩
noncomputable def y18 (N : Nat) : q52 := tab []
theorem xu5 (N : Nat) : q14 Tryz.prog (y18 N) := q26 _
def q64 (N : Nat) (k : q36) (i : Int) : Option q03 :=
 bif decide (i ≥ (k.1.length : Int)) then
  some ((0, 0, [], ()), 0, ())
 else
  bif inR i k.1.length then
  some (((q25 k.1 i ws3).1), (q25 k.1 i ws3).2.1, ())
  else none
noncomputable def v60 (N : Nat) (k : q36) (i : Int) : Option (RT [q08]) := q22 DR Tryz.prog N (y18 N) v53 Tryz.f153 (q10 Tryz.f153) (RT [q08]) (qd6 [q72, (.int .i64)] (k, i, ())) [] (q42 [q08])
theorem x66 (N : Nat) (k : q36) (i : Int) : v60 N k i = q64 N k i := by kernel_rfl
def yt7 (m : q36 → Int → Option q03) : Ent := q37 [q72, (.int .i64)] [q08] fun (x : Els [q72, (.int .i64)]) => m x.1 x.2.1
def q58 (N : Nat) : Ent := yt7 (q64 N)
theorem q53 (N : Nat) : q16 Tryz.prog 153 (q58 N) := q15 (xu5 N) Tryz.func153 rfl (by kernel_rfl) fun (x : Els [q72, (.int .i64)]) => x66 N x.1 x.2.1
def xa8 : FH := ⟨[], [], [], [], false, [], []⟩
noncomputable def j10 (N : Nat) : q52 := tab [(153, q58 N), (76, q97 N)]
theorem x05 (N : Nat) : q14 Tryz.prog (j10 N) := q06 (q53 N) <| q06 (q87 N) <| q26 _
def q88 (N : Nat) (k : q36) (i : Int) : Option q03 :=
 (q64 N k i).bind fun r =>
 bif (r.2.1 == 0) then
  bif (r.1.1 != 4) then
   bif (r.1.1 != 0) then
    (qe0 N 8).bind fun r1 =>
    some r1
   else
    some r
  else
   some r
 else
  some r
noncomputable def xb9 (N : Nat) (k : q36) (i : Int) : Option (RT [q08]) := q22 DR Tryz.prog N (j10 N) xa8 Tryz.f80 (q10 Tryz.f80) (RT [q08]) (qd6 [q72, (.int .i64)] (k, i, ())) [] (q42 [q08])
theorem yj5 (N : Nat) (k : q36) (i : Int) : xb9 N k i = q88 N k i := by kernel_rfl
def y79 (m : q36 → Int → Option q03) : Ent := q37 [q72, (.int .i64)] [q08] fun (x : Els [q72, (.int .i64)]) => m x.1 x.2.1
def ql0 (N : Nat) : Ent := y79 (q88 N)
theorem qp2 (N : Nat) : q16 Tryz.prog 80 (ql0 N) := q15 (x05 N) Tryz.func80 rfl (by kernel_rfl) fun (x : Els [q72, (.int .i64)]) => yj5 N x.1 x.2.1
def u77 : FH := ⟨[], [], [], [], false, [], []⟩
noncomputable def yy6 (N : Nat) : q52 := tab []
theorem vq0 (N : Nat) : q14 Tryz.prog (yy6 N) := q26 _
def qa0 (N : Nat) (is_ : Bool) : Option q00 :=
 bif is_ then
  some (4, 1, [], ())
 else
  some (4, 0, [], ())
noncomputable def u56 (N : Nat) (is_ : Bool) : Option (RT [q05]) := q22 DR Tryz.prog N (yy6 N) u77 Tryz.f90 (q10 Tryz.f90) (RT [q05]) (qd6 [.bool] (is_, ())) [] (q42 [q05])
theorem v10 (N : Nat) (is_ : Bool) : u56 N is_ = qa0 N is_ := by kernel_rfl
def xq9 (m : Bool → Option q00) : Ent := q37 [.bool] [q05] fun (x : Els [.bool]) => m x.1
def qd2 (N : Nat) : Ent := xq9 (qa0 N)
theorem qc3 (N : Nat) : q16 Tryz.prog 90 (qd2 N) := q15 (vq0 N) Tryz.func90 rfl (by kernel_rfl) fun (x : Els [.bool]) => v10 N x.1
def xp9 : LH := ⟨[(2, .asis), (3, .asis), (7, .lst q05), (8, .int .i64), (9, .int .i64)], [], [.cells [.int .u8, .int .i64, .str], .cells [.int .u8, .int .i64, .str]]⟩
def j77 : FH := ⟨[xp9], [], [(5, ⟨2, 25, 0, [], []⟩)], [], false, [], []⟩
noncomputable def ym5 (N : Nat) : q52 := tab [(90, qd2 N)]
theorem up4 (N : Nat) : q14 Tryz.prog (ym5 N) := q06 (qc3 N) <| q26 _
noncomputable def xj3 : Sc := wl4 Tryz.prog j77
noncomputable def xj2 (N : Nat) : Cfg := ⟨N, ym5 N, 0⟩
noncomputable def u55 (N : Nat) : Exit → List TV → List TOb → Option q00 := fin Tryz.prog 0 Tryz.f78.results.toList (q42 [q05])
def jq4 (l : List q00) (t8 qd8 yt6 : Int) (x46 : List UInt8) (e : Int × Int × Int × List UInt8) : List TV := match e with
 | (t9, out_Kind, out_N, out_S) => frm 25 [(2, .ref 0 0), (3, .ref 1 0), (7, .tl q05 l .unk), (8, .int .i64 t8), (9, .int .i64 t9)]
def jx0 (l : List q00) (t8 qd8 yt6 : Int) (x46 : List UInt8) (e : Int × Int × Int × List UInt8) : List TOb := match e with
 | (t9, out_Kind, out_N, out_S) => [.cells [.int .u8 qd8, .int .i64 yt6, .str x46] 26 true, .cells [.int .u8 out_Kind, .int .i64 out_N, .str out_S] 26 true]
noncomputable def xi0 (N : Nat) : (List TV → List TOb → Option q00) → List TV → List TOb → Option q00 := w57 DR xj3 (xj2 N) (ql8 (qc7 (q07 (q92 (q07 (q07 (q10 Tryz.f78))))))) xp9 (j77.loops.drop 1) (qj4 0 (qc5 DR xj3 (xj2 N) (q07 (q07 (q07 (q10 Tryz.f78)))) (j77.loops.drop 1) (u55 N)))
def ww0 (N : Nat) (l : List q00) (t8 qd8 yt6 : Int) (x46 : List UInt8) (K0 : (Int × Int × Int × List UInt8) → Option q00) (e : Int × Int × Int × List UInt8) : Option q00 :=
 match e with
 | (t9, out_Kind, out_N, out_S) =>
  bif decide (t9 < t8) then
   bif inR t9 l.length then
   (qa0 N false).bind fun r1 =>
   bif ((((q25 l t9 q32).1) == r1.1) && ((((q25 l t9 q32).2.1) == r1.2.1) && ((((q25 l t9 q32).2.2.1) == r1.2.2.1) && true))) then
    some (q25 l t9 q32)
   else
    bif (((q25 l t9 q32).1) != 4) then
     bif q27 (t9 + 1) then
     K0 (t9 + 1, 0, 0, [])
     else none
    else
     bif q27 (t9 + 1) then
     K0 (t9 + 1, out_Kind, out_N, out_S)
     else none
   else none
  else
   some (out_Kind, out_N, out_S, ())
theorem ur4 (N : Nat) (l : List q00) (t8 qd8 yt6 : Int) (x46 : List UInt8) (n_ : Nat) (e : Int × Int × Int × List UInt8) : q61 (xi0 N ) n_ ((jq4 l t8 qd8 yt6 x46) e) ((jx0 l t8 qd8 yt6 x46) e) = q95 (ww0 N l t8 qd8 yt6 x46 ) n_ e :=
 q40 (jq4 l t8 qd8 yt6 x46) (jx0 l t8 qd8 yt6 x46) (by intro K e; obtain ⟨t9, out_Kind, out_N, out_S⟩ := e; kernel_rfl) n_ e
def yi0 (N : Nat) (l : List q00) (l1 : (List q00) → Int → Int → Int → (List UInt8) → (Int × Int × Int × List UInt8) → Option q00) : Option q00 :=
 (qa0 N true).bind fun r =>
 l1 l (l.length : Int) 0 0 [] (0, r.1, r.2.1, r.2.2.1)
def wg5 (N : Nat) (l : List q00) : Option q00 := yi0 N l (fun l t8 qd8 yt6 x46 e => q95 (ww0 N l t8 qd8 yt6 x46) N e)
noncomputable def v11 (N : Nat) (l : List q00) : Option (RT [q05]) := q22 DR Tryz.prog N (ym5 N) j77 Tryz.f78 (q10 Tryz.f78) (RT [q05]) (qd6 [(.list q05)] (l, ())) [] (q42 [q05])
theorem uc5 (N : Nat) (l : List q00) : v11 N l = wg5 N l := by
 have h : v11 N l = yi0 N l (fun l t8 qd8 yt6 x46 e => q61 (xi0 N ) N (jq4 l t8 qd8 yt6 x46 e) (jx0 l t8 qd8 yt6 x46 e)) := by kernel_rfl
 rw [h]
 simp only [wg5, ur4] <;> rfl
def vq8 (m : (List q00) → Option q00) : Ent := q37 [(.list q05)] [q05] fun (x : Els [(.list q05)]) => m x.1
def j81 (N : Nat) : Ent := vq8 (wg5 N)
theorem ju6 (N : Nat) : q16 Tryz.prog 78 (j81 N) := q15 (up4 N) Tryz.func78 rfl (by kernel_rfl) fun (x : Els [(.list q05)]) => uc5 N x.1
def xv7 : FH := ⟨[], [], [], [], false, [], []⟩
noncomputable def jg2 (N : Nat) : q52 := tab [(80, ql0 N), (78, j81 N)]
theorem x59 (N : Nat) : q14 Tryz.prog (jg2 N) := q06 (qp2 N) <| q06 (ju6 N) <| q26 _
def wa9 (N : Nat) (k : q36) (ends : Int) : Option q03 :=
 (q88 N k 0).bind fun r =>
 bif (r.2.1 != 0) then
  some r
 else
  bif (r.1.1 == 4) then
   bif (r.1.2.1 == ends) then
    some r
   else
    (q88 N k 1).bind fun r1 =>
    bif (r1.2.1 != 0) then
     some r1
    else
     (wg5 N ([r.1, r1.1] : List q00)).bind fun r2 =>
     some (r2, 0, ())
  else
   (q88 N k 1).bind fun r3 =>
   bif (r3.2.1 != 0) then
    some r3
   else
    (wg5 N ([r.1, r3.1] : List q00)).bind fun r4 =>
    some (r4, 0, ())
abbrev j02 : List PK := [.val q72, .val (.int .i64), .fn 78 0]
noncomputable def xs9 (N : Nat) (k : q36) (ends : Int) : Option (RT [q08]) := q22 DR Tryz.prog N (jg2 N) xv7 Tryz.f77 (q10 Tryz.f77) (RT [q08]) (qy2 j02 (k, ends, ())) [] (q42 [q08])
theorem x41 (N : Nat) (k : q36) (ends : Int) : xs9 N k ends = wa9 N k ends := by kernel_rfl
def yh2 (m : q36 → Int → Option q03) : Ent := qf5 j02 [q08] fun (x : Els [q72, (.int .i64)]) => m x.1 x.2.1
def zr7 (N : Nat) : Ent := yh2 (wa9 N)
theorem y90 (N : Nat) : q16 Tryz.prog 77 (zr7 N) := q55 (x59 N) Tryz.func77 rfl (by kernel_rfl) (by kernel_rfl) fun (x : Els [q72, (.int .i64)]) => x41 N x.1 x.2.1
def k51 : FH := ⟨[], [], [], [], false, [], []⟩
noncomputable def v67 (N : Nat) : q52 := tab [(90, qd2 N)]
theorem ut7 (N : Nat) : q14 Tryz.prog (v67 N) := q06 (qc3 N) <| q26 _
def zl6 (N : Nat) (a : q00) : Option q00 :=
 bif (a.1 != 4) then
  some (0, 0, [], ())
 else
  (qa0 N (a.2.1 == 0)).bind fun r =>
  some r
noncomputable def kb6 (N : Nat) (a : q00) : Option (RT [q05]) := q22 DR Tryz.prog N (v67 N) k51 Tryz.f81 (q10 Tryz.f81) (RT [q05]) (qd6 [q05] (a, ())) [] (q42 [q05])
theorem ua1 (N : Nat) (a : q00) : kb6 N a = zl6 N a := by kernel_rfl
def vq7 (m : q00 → Option q00) : Ent := q37 [q05] [q05] fun (x : Els [q05]) => m x.1
def j86 (N : Nat) : Ent := vq7 (zl6 N)
theorem y13 (N : Nat) : q16 Tryz.prog 81 (j86 N) := q15 (ut7 N) Tryz.func81 rfl (by kernel_rfl) fun (x : Els [q05]) => ua1 N x.1
def xo6 : LH := ⟨[(2, .asis), (3, .own q05 503 26 3), (6, .lst q05), (7, .int .i64), (8, .int .i64)], [], [.cells [.int .u8, .int .i64, .str]]⟩
def j51 : FH := ⟨[xo6], [], [], [], false, [], []⟩
noncomputable def yj3 (N : Nat) : q52 := tab [(81, j86 N), (78, j81 N)]
theorem uk4 (N : Nat) : q14 Tryz.prog (yj3 N) := q06 (y13 N) <| q06 (ju6 N) <| q26 _
noncomputable def xj7 : Sc := wl4 Tryz.prog j51
noncomputable def xk9 (N : Nat) : Cfg := ⟨N, yj3 N, 0⟩
noncomputable def uf2 (N : Nat) : Exit → List TV → List TOb → Option q00 := fin Tryz.prog 0 Tryz.f79.results.toList (q42 [q05])
def y22 (l : List q00) (t7 qd8 yt6 : Int) (x46 : List UInt8) (e : List q00 × Int) : List TV := match e with
 | (others, t8) => frm 21 [(2, .ref 0 0), (3, .tl q05 others (.own 503 26 3)), (6, .tl q05 l .unk), (7, .int .i64 t7), (8, .int .i64 t8)]
def y09 (l : List q00) (t7 qd8 yt6 : Int) (x46 : List UInt8) (e : List q00 × Int) : List TOb := match e with
 | (others, t8) => [.cells [.int .u8 qd8, .int .i64 yt6, .str x46] 26 true]
noncomputable def xq0 (N : Nat) : (List TV → List TOb → Option q00) → List TV → List TOb → Option q00 := w57 DR xj7 (xk9 N) (ql8 (qc7 (q07 (q92 (q07 (q07 (q10 Tryz.f79))))))) xo6 (j51.loops.drop 1) (qj4 0 (qc5 DR xj7 (xk9 N) (q07 (q07 (q07 (q10 Tryz.f79)))) (j51.loops.drop 1) (uf2 N)))
def wu0 (N : Nat) (l : List q00) (t7 qd8 yt6 : Int) (x46 : List UInt8) (K0 : (List q00 × Int) → Option q00) (e : List q00 × Int) : Option q00 :=
 match e with
 | (others, t8) =>
  bif decide (t8 < t7) then
   bif inR t8 l.length then
   (zl6 N (q25 l t8 q32)).bind fun r =>
   bif qz1 (others.length + ([r] : List q00).length) 4398046511104 then
   bif q27 (t8 + 1) then
   K0 ((others ++ ([r] : List q00)), t8 + 1)
   else none
   else none
   else none
  else
   (wg5 N others).bind fun r1 =>
   (zl6 N r1).bind fun r2 =>
   some r2
theorem uj5 (N : Nat) (l : List q00) (t7 qd8 yt6 : Int) (x46 : List UInt8) (n_ : Nat) (e : List q00 × Int) : q61 (xq0 N ) n_ ((y22 l t7 qd8 yt6 x46) e) ((y09 l t7 qd8 yt6 x46) e) = q95 (wu0 N l t7 qd8 yt6 x46 ) n_ e :=
 q40 (y22 l t7 qd8 yt6 x46) (y09 l t7 qd8 yt6 x46) (by intro K e; obtain ⟨others, t8⟩ := e; kernel_rfl) n_ e
def yp3 (N : Nat) (l : List q00) (l1 : (List q00) → Int → Int → Int → (List UInt8) → (List q00 × Int) → Option q00) : Option q00 :=
 l1 l (l.length : Int) 0 0 [] ([], 0)
def wt7 (N : Nat) (l : List q00) : Option q00 := yp3 N l (fun l t7 qd8 yt6 x46 e => q95 (wu0 N l t7 qd8 yt6 x46) N e)
noncomputable def v78 (N : Nat) (l : List q00) : Option (RT [q05]) := q22 DR Tryz.prog N (yj3 N) j51 Tryz.f79 (q10 Tryz.f79) (RT [q05]) (qd6 [(.list q05)] (l, ())) [] (q42 [q05])
theorem u78 (N : Nat) (l : List q00) : v78 N l = wt7 N l := by
 have h : v78 N l = yp3 N l (fun l t7 qd8 yt6 x46 e => q61 (xq0 N ) N (y22 l t7 qd8 yt6 x46 e) (y09 l t7 qd8 yt6 x46 e)) := by kernel_rfl
 rw [h]
 simp only [wt7, uj5] <;> rfl
def vl9 (m : (List q00) → Option q00) : Ent := q37 [(.list q05)] [q05] fun (x : Els [(.list q05)]) => m x.1
def yw3 (N : Nat) : Ent := vl9 (wt7 N)
theorem v61 (N : Nat) : q16 Tryz.prog 79 (yw3 N) := q15 (uk4 N) Tryz.func79 rfl (by kernel_rfl) fun (x : Els [(.list q05)]) => u78 N x.1
def yp4 : FH := ⟨[], [], [], [], false, [], []⟩
noncomputable def zk3 (N : Nat) : q52 := tab [(80, ql0 N), (79, yw3 N)]
theorem y97 (N : Nat) : q14 Tryz.prog (zk3 N) := q06 (qp2 N) <| q06 (v61 N) <| q26 _
def qs8 (N : Nat) (k : q36) (ends : Int) : Option q03 :=
 (q88 N k 0).bind fun r =>
 bif (r.2.1 != 0) then
  some r
 else
  bif (r.1.1 == 4) then
   bif (r.1.2.1 == ends) then
    some r
   else
    (q88 N k 1).bind fun r1 =>
    bif (r1.2.1 != 0) then
     some r1
    else
     (wt7 N ([r.1, r1.1] : List q00)).bind fun r2 =>
     some (r2, 0, ())
  else
   (q88 N k 1).bind fun r3 =>
   bif (r3.2.1 != 0) then
    some r3
   else
    (wt7 N ([r.1, r3.1] : List q00)).bind fun r4 =>
    some (r4, 0, ())
abbrev za8 : List PK := [.val q72, .val (.int .i64), .fn 79 0]
noncomputable def yi9 (N : Nat) (k : q36) (ends : Int) : Option (RT [q08]) := q22 DR Tryz.prog N (zk3 N) yp4 Tryz.f77 (q10 Tryz.f77) (RT [q08]) (qy2 za8 (k, ends, ())) [] (q42 [q08])
theorem jy9 (N : Nat) (k : q36) (ends : Int) : yi9 N k ends = qs8 N k ends := by kernel_rfl
def ji9 (m : q36 → Int → Option q03) : Ent := qf5 za8 [q08] fun (x : Els [q72, (.int .i64)]) => m x.1 x.2.1
def z09 (N : Nat) : Ent := ji9 (qs8 N)
theorem je4 (N : Nat) : q16 Tryz.prog 77 (z09 N) := q55 (y97 N) Tryz.func77 rfl (by kernel_rfl) (by kernel_rfl) fun (x : Els [q72, (.int .i64)]) => jy9 N x.1 x.2.1
def xt2 : FH := ⟨[], [], [], [], false, [], []⟩
noncomputable def jg1 (N : Nat) : q52 := tab []
theorem xc8 (N : Nat) : q14 Tryz.prog (jg1 N) := q26 _
def q77 (N : Nat) (v : q00) : Option Bool :=
 bif (v.1 == 1) then
  some true
 else
  some (v.1 == 2)
noncomputable def xr0 (N : Nat) (v : q00) : Option (RT [.bool]) := q22 DR Tryz.prog N (jg1 N) xt2 Tryz.f211 (q10 Tryz.f211) (RT [.bool]) (qd6 [q05] (v, ())) [] (q42 [.bool])
theorem yt2 (N : Nat) (v : q00) : xr0 N v = q77 N v := by kernel_rfl
def yk9 (m : q00 → Option Bool) : Ent := q37 [q05] [.bool] fun (x : Els [q05]) => m x.1
def wi4 (N : Nat) : Ent := yk9 (q77 N)
theorem z91 (N : Nat) : q16 Tryz.prog 211 (wi4 N) := q15 (xc8 N) Tryz.func211 rfl (by kernel_rfl) fun (x : Els [q05]) => yt2 N x.1
def ur1 : FH := ⟨[], [], [], [], false, [], []⟩
noncomputable def xm9 (N : Nat) : q52 := tab []
theorem ue1 (N : Nat) : q14 Tryz.prog (xm9 N) := q26 _
def qx7 (N : Nat) (x y : Int) : Option (Int × Int × Unit) :=
 some ((IntKind.u64.wrap ((IntKind.u64.wrap ((IntKind.u64.wrap ((qm4 .u64 x (32 : Int)) * (qm4 .u64 y (32 : Int)))) + (qm4 .u64 (IntKind.u64.wrap ((IntKind.u64.wrap ((qm4 .u64 x (32 : Int)) * (z32 .and .u64 y 4294967295))) + (qm4 .u64 (IntKind.u64.wrap ((z32 .and .u64 x 4294967295) * (z32 .and .u64 y 4294967295))) (32 : Int)))) (32 : Int)))) + (qm4 .u64 (IntKind.u64.wrap ((z32 .and .u64 (IntKind.u64.wrap ((IntKind.u64.wrap ((qm4 .u64 x (32 : Int)) * (z32 .and .u64 y 4294967295))) + (qm4 .u64 (IntKind.u64.wrap ((z32 .and .u64 x 4294967295) * (z32 .and .u64 y 4294967295))) (32 : Int)))) 4294967295) + (IntKind.u64.wrap ((z32 .and .u64 x 4294967295) * (qm4 .u64 y (32 : Int)))))) (32 : Int)))), (IntKind.u64.wrap (x * y)), ())
noncomputable def uu5 (N : Nat) (x y : Int) : Option (RT [(.int .u64), (.int .u64)]) := q22 DR Tryz.prog N (xm9 N) ur1 Tryz.f219 (q10 Tryz.f219) (RT [(.int .u64), (.int .u64)]) (qd6 [(.int .u64), (.int .u64)] (x, y, ())) [] (q42 [(.int .u64), (.int .u64)])
theorem vn0 (N : Nat) (x y : Int) : uu5 N x y = qx7 N x y := by kernel_rfl
def v76 (m : Int → Int → Option (Int × Int × Unit)) : Ent := q37 [(.int .u64), (.int .u64)] [(.int .u64), (.int .u64)] fun (x : Els [(.int .u64), (.int .u64)]) => m x.1 x.2.1
def ws9 (N : Nat) : Ent := v76 (qx7 N)
theorem z25 (N : Nat) : q16 Tryz.prog 219 (ws9 N) := q15 (ue1 N) Tryz.func219 rfl (by kernel_rfl) fun (x : Els [(.int .u64), (.int .u64)]) => vn0 N x.1 x.2.1
def u26 : FH := ⟨[], [], [], [], false, [], []⟩
noncomputable def yr9 (N : Nat) : q52 := tab [(219, ws9 N)]
theorem vr3 (N : Nat) : q14 Tryz.prog (yr9 N) := q06 (z25 N) <| q26 _
def wo6 (N : Nat) (v : q00) : Option (Bool × Int × Int × Unit) :=
 bif decide (v.2.1 < 0) then
  bif (v.1 == 1) then
   (qx7 N (IntKind.u64.wrap (0 - (IntKind.u64.wrap v.2.1))) 10000).bind fun r =>
   some (decide (v.2.1 < 0), r.1, r.2.1, ())
  else
   (qx7 N (IntKind.u64.wrap (0 - (IntKind.u64.wrap v.2.1))) 1).bind fun r1 =>
   some (decide (v.2.1 < 0), r1.1, r1.2.1, ())
 else
  bif (v.1 == 1) then
   (qx7 N (IntKind.u64.wrap v.2.1) 10000).bind fun r2 =>
   some (decide (v.2.1 < 0), r2.1, r2.2.1, ())
  else
   (qx7 N (IntKind.u64.wrap v.2.1) 1).bind fun r3 =>
   some (decide (v.2.1 < 0), r3.1, r3.2.1, ())
noncomputable def u70 (N : Nat) (v : q00) : Option (RT [.bool, (.int .u64), (.int .u64)]) := q22 DR Tryz.prog N (yr9 N) u26 Tryz.f212 (q10 Tryz.f212) (RT [.bool, (.int .u64), (.int .u64)]) (qd6 [q05] (v, ())) [] (q42 [.bool, (.int .u64), (.int .u64)])
theorem v86 (N : Nat) (v : q00) : u70 N v = wo6 N v := by kernel_rfl
def xv4 (m : q00 → Option (Bool × Int × Int × Unit)) : Ent := q37 [q05] [.bool, (.int .u64), (.int .u64)] fun (x : Els [q05]) => m x.1
def jz5 (N : Nat) : Ent := xv4 (wo6 N)
theorem x81 (N : Nat) : q16 Tryz.prog 212 (jz5 N) := q15 (vr3 N) Tryz.func212 rfl (by kernel_rfl) fun (x : Els [q05]) => v86 N x.1
def yt3 : FH := ⟨[], [], [], [], false, [], []⟩
noncomputable def zo7 (N : Nat) : q52 := tab []
theorem yj0 (N : Nat) : q14 Tryz.prog (zo7 N) := q26 _
def qx1 (N : Nat) (x : Int) : Option Bool :=
 some (x != x)
noncomputable def yu2 (N : Nat) (x : Int) : Option (RT [.bool]) := q22 DR Tryz.prog N (zo7 N) yt3 Tryz.f250 (q10 Tryz.f250) (RT [.bool]) (qd6 [(.int .u64)] (x, ())) [] (q42 [.bool])
theorem y73 (N : Nat) (x : Int) : yu2 N x = qx1 N x := by kernel_rfl
def jv6 (m : Int → Option Bool) : Ent := q37 [(.int .u64)] [.bool] fun (x : Els [(.int .u64)]) => m x.1
def za9 (N : Nat) : Ent := jv6 (qx1 N)
theorem jk2 (N : Nat) : q16 Tryz.prog 250 (za9 N) := q15 (yj0 N) Tryz.func250 rfl (by kernel_rfl) fun (x : Els [(.int .u64)]) => y73 N x.1
def y83 : FH := ⟨[], [], [], [], false, [], []⟩
noncomputable def za0 (N : Nat) : q52 := tab [(250, za9 N)]
theorem y23 (N : Nat) : q14 Tryz.prog (za0 N) := q06 (jk2 N) <| q26 _
def qh7 (N : Nat) (x y : Int) : Option Int :=
 (qx1 N x).bind fun r =>
 (qx1 N y).bind fun r1 =>
 bif r then
  bif r1 then
   some 0
  else
   some (-1)
 else
  bif r1 then
   some 1
  else
   bif decide (x < y) then
    some (-1)
   else
    bif decide (x > y) then
     some 1
    else
     some 0
noncomputable def y89 (N : Nat) (x y : Int) : Option (RT [(.int .i64)]) := q22 DR Tryz.prog N (za0 N) y83 Tryz.f214 (q10 Tryz.f214) (RT [(.int .i64)]) (qd6 [(.int .u64), (.int .u64)] (x, y, ())) [] (q42 [(.int .i64)])
theorem ji2 (N : Nat) (x y : Int) : y89 N x y = qh7 N x y := by kernel_rfl
def je5 (m : Int → Int → Option Int) : Ent := q37 [(.int .u64), (.int .u64)] [(.int .i64)] fun (x : Els [(.int .u64), (.int .u64)]) => m x.1 x.2.1
def wn3 (N : Nat) : Ent := je5 (qh7 N)
theorem j14 (N : Nat) : q16 Tryz.prog 214 (wn3 N) := q15 (y23 N) Tryz.func214 rfl (by kernel_rfl) fun (x : Els [(.int .u64), (.int .u64)]) => ji2 N x.1 x.2.1
def x02 : LH := ⟨[(3, .int .i64), (6, .lst (.int .i64)), (7, .int .i64), (8, .int .i64)], [], []⟩
def zo8 : FH := ⟨[x02], [], [], [], false, [], []⟩
noncomputable def y19 (N : Nat) : q52 := tab []
theorem u53 (N : Nat) : q14 Tryz.prog (y19 N) := q26 _
noncomputable def yw6 : Sc := wl4 Tryz.prog zo8
noncomputable def yz7 (N : Nat) : Cfg := ⟨N, y19 N, 0⟩
noncomputable def vk9 (N : Nat) : Exit → List TV → List TOb → Option Int := fin Tryz.prog 0 Tryz.f213.results.toList (q42 [(.int .i64)])
def ja3 (zero : Int) (vals : List Int) (t7 e : Int) : List TV := match e with
 | t8 => frm 18 [(3, .int .i64 zero), (6, .tl (.int .i64) vals .unk), (7, .int .i64 t7), (8, .int .i64 t8)]
def jd1 (zero : Int) (vals : List Int) (t7 e : Int) : List TOb := match e with
 | t8 => []
noncomputable def yr7 (N : Nat) : (List TV → List TOb → Option Int) → List TV → List TOb → Option Int := w57 DR yw6 (yz7 N) (ql8 (qc7 (q07 (q92 (q07 (q07 (q10 Tryz.f213))))))) x02 (zo8.loops.drop 1) (qj4 0 (qc5 DR yw6 (yz7 N) (q07 (q07 (q07 (q10 Tryz.f213)))) (zo8.loops.drop 1) (vk9 N)))
def qv8 (N : Nat) (zero : Int) (vals : List Int) (t7 : Int) (K0 : Int → Option Int) (e : Int) : Option Int :=
 match e with
 | t8 =>
  bif decide (t8 < t7) then
   bif inR t8 vals.length then
   bif ((q25 vals t8 0) != zero) then
    some (q25 vals t8 0)
   else
    bif q27 (t8 + 1) then
    K0 (t8 + 1)
    else none
   else none
  else
   some zero
theorem ud0 (N : Nat) (zero : Int) (vals : List Int) (t7 : Int) (n_ : Nat) (e : Int) : q61 (yr7 N ) n_ ((ja3 zero vals t7) e) ((jd1 zero vals t7) e) = q95 (qv8 N zero vals t7 ) n_ e :=
 q40 (ja3 zero vals t7) (jd1 zero vals t7) (by intro K e; kernel_rfl) n_ e
def zq7 (N : Nat) (vals : List Int) (l1 : Int → (List Int) → Int → Int → Option Int) : Option Int :=
 l1 0 vals (vals.length : Int) 0
def w45 (N : Nat) (vals : List Int) : Option Int := zq7 N vals (fun zero vals t7 e => q95 (qv8 N zero vals t7) N e)
noncomputable def xo7 (N : Nat) (vals : List Int) : Option (RT [(.int .i64)]) := q22 DR Tryz.prog N (y19 N) zo8 Tryz.f213 (q10 Tryz.f213) (RT [(.int .i64)]) (qd6 [(.list (.int .i64))] (vals, ())) [] (q42 [(.int .i64)])
theorem vn4 (N : Nat) (vals : List Int) : xo7 N vals = w45 N vals := by
 have h : xo7 N vals = zq7 N vals (fun zero vals t7 e => q61 (yr7 N ) N (ja3 zero vals t7 e) (jd1 zero vals t7 e)) := by kernel_rfl
 rw [h]
 simp only [w45, ud0] <;> rfl
def v59 (m : (List Int) → Option Int) : Ent := q37 [(.list (.int .i64))] [(.int .i64)] fun (x : Els [(.list (.int .i64))]) => m x.1
def zu6 (N : Nat) : Ent := v59 (w45 N)
theorem jh7 (N : Nat) : q16 Tryz.prog 213 (zu6 N) := q15 (u53 N) Tryz.func213 rfl (by kernel_rfl) fun (x : Els [(.list (.int .i64))]) => vn4 N x.1
def xf6 : FH := ⟨[], [], [], [], false, [], []⟩
noncomputable def zv4 (N : Nat) : q52 := tab []
theorem x14 (N : Nat) : q14 Tryz.prog (zv4 N) := q26 _
def w26 (N : Nat) (x : Int) : Option Bool :=
 some (x != x)
noncomputable def x84 (N : Nat) (x : Int) : Option (RT [.bool]) := q22 DR Tryz.prog N (zv4 N) xf6 Tryz.f279 (q10 Tryz.f279) (RT [.bool]) (qd6 [(.int .u8)] (x, ())) [] (q42 [.bool])
theorem yq4 (N : Nat) (x : Int) : x84 N x = w26 N x := by kernel_rfl
def ya5 (m : Int → Option Bool) : Ent := q37 [(.int .u8)] [.bool] fun (x : Els [(.int .u8)]) => m x.1
def zh7 (N : Nat) : Ent := ya5 (w26 N)
theorem jx4 (N : Nat) : q16 Tryz.prog 279 (zh7 N) := q15 (x14 N) Tryz.func279 rfl (by kernel_rfl) fun (x : Els [(.int .u8)]) => yq4 N x.1
def yo0 : FH := ⟨[], [], [], [], false, [], []⟩
noncomputable def zi9 (N : Nat) : q52 := tab [(279, zh7 N)]
theorem y82 (N : Nat) : q14 Tryz.prog (zi9 N) := q06 (jx4 N) <| q26 _
def qr5 (N : Nat) (x y : Int) : Option Int :=
 (w26 N x).bind fun r =>
 (w26 N y).bind fun r1 =>
 bif r then
  bif r1 then
   some 0
  else
   some (-1)
 else
  bif r1 then
   some 1
  else
   bif decide (x < y) then
    some (-1)
   else
    bif decide (x > y) then
     some 1
    else
     some 0
noncomputable def yo7 (N : Nat) (x y : Int) : Option (RT [(.int .i64)]) := q22 DR Tryz.prog N (zi9 N) yo0 Tryz.f251 (q10 Tryz.f251) (RT [(.int .i64)]) (qd6 [(.int .u8), (.int .u8)] (x, y, ())) [] (q42 [(.int .i64)])
theorem jr3 (N : Nat) (x y : Int) : yo7 N x y = qr5 N x y := by kernel_rfl
def jm5 (m : Int → Int → Option Int) : Ent := q37 [(.int .u8), (.int .u8)] [(.int .i64)] fun (x : Els [(.int .u8), (.int .u8)]) => m x.1 x.2.1
def z02 (N : Nat) : Ent := jm5 (qr5 N)
theorem je0 (N : Nat) : q16 Tryz.prog 251 (z02 N) := q15 (y82 N) Tryz.func251 rfl (by kernel_rfl) fun (x : Els [(.int .u8), (.int .u8)]) => jr3 N x.1 x.2.1
def x51 : FH := ⟨[], [], [], [], false, [], []⟩
noncomputable def zy0 (N : Nat) : q52 := tab []
theorem x17 (N : Nat) : q14 Tryz.prog (zy0 N) := q26 _
def w00 (N : Nat) (x : Int) : Option Bool :=
 some (x != x)
noncomputable def x70 (N : Nat) (x : Int) : Option (RT [.bool]) := q22 DR Tryz.prog N (zy0 N) x51 Tryz.f260 (q10 Tryz.f260) (RT [.bool]) (qd6 [(.int .i64)] (x, ())) [] (q42 [.bool])
theorem ym4 (N : Nat) (x : Int) : x70 N x = w00 N x := by kernel_rfl
def y93 (m : Int → Option Bool) : Ent := q37 [(.int .i64)] [.bool] fun (x : Els [(.int .i64)]) => m x.1
def zk8 (N : Nat) : Ent := y93 (w00 N)
theorem js3 (N : Nat) : q16 Tryz.prog 260 (zk8 N) := q15 (x17 N) Tryz.func260 rfl (by kernel_rfl) fun (x : Els [(.int .i64)]) => ym4 N x.1
def yp9 : FH := ⟨[], [], [], [], false, [], []⟩
noncomputable def zn1 (N : Nat) : q52 := tab [(260, zk8 N)]
theorem ya6 (N : Nat) : q14 Tryz.prog (zn1 N) := q06 (js3 N) <| q26 _
def qk0 (N : Nat) (x y : Int) : Option Int :=
 (w00 N x).bind fun r =>
 (w00 N y).bind fun r1 =>
 bif r then
  bif r1 then
   some 0
  else
   some (-1)
 else
  bif r1 then
   some 1
  else
   bif decide (x < y) then
    some (-1)
   else
    bif decide (x > y) then
     some 1
    else
     some 0
noncomputable def yk6 (N : Nat) (x y : Int) : Option (RT [(.int .i64)]) := q22 DR Tryz.prog N (zn1 N) yp9 Tryz.f223 (q10 Tryz.f223) (RT [(.int .i64)]) (qd6 [(.int .i64), (.int .i64)] (x, y, ())) [] (q42 [(.int .i64)])
theorem y42 (N : Nat) (x y : Int) : yk6 N x y = qk0 N x y := by kernel_rfl
def jm9 (m : Int → Int → Option Int) : Ent := q37 [(.int .i64), (.int .i64)] [(.int .i64)] fun (x : Els [(.int .i64), (.int .i64)]) => m x.1 x.2.1
def w02 (N : Nat) : Ent := jm9 (qk0 N)
theorem wi2 (N : Nat) : q16 Tryz.prog 223 (w02 N) := q15 (ya6 N) Tryz.func223 rfl (by kernel_rfl) fun (x : Els [(.int .i64), (.int .i64)]) => y42 N x.1 x.2.1
def x08 : FH := ⟨[], [], [], [], false, [], []⟩
noncomputable def zp8 (N : Nat) : q52 := tab []
theorem ym1 (N : Nat) : q14 Tryz.prog (zp8 N) := q26 _
def qw7 (N : Nat) (x : List UInt8) : Option Bool :=
 some (!(x == x))
noncomputable def yr8 (N : Nat) (x : List UInt8) : Option (RT [.bool]) := q22 DR Tryz.prog N (zp8 N) x08 Tryz.f280 (q10 Tryz.f280) (RT [.bool]) (qd6 [.str] (x, ())) [] (q42 [.bool])
theorem ya7 (N : Nat) (x : List UInt8) : yr8 N x = qw7 N x := by kernel_rfl
def jx6 (m : (List UInt8) → Option Bool) : Ent := q37 [.str] [.bool] fun (x : Els [.str]) => m x.1
def z48 (N : Nat) : Ent := jx6 (qw7 N)
theorem jm8 (N : Nat) : q16 Tryz.prog 280 (z48 N) := q15 (ym1 N) Tryz.func280 rfl (by kernel_rfl) fun (x : Els [.str]) => ya7 N x.1
def ya4 : FH := ⟨[], [], [], [], false, [], []⟩
noncomputable def z82 (N : Nat) : q52 := tab [(280, z48 N)]
theorem jv9 (N : Nat) : q14 Tryz.prog (z82 N) := q06 (jm8 N) <| q26 _
def qn9 (N : Nat) (x y : List UInt8) : Option Int :=
 (qw7 N x).bind fun r =>
 (qw7 N y).bind fun r1 =>
 bif r then
  bif r1 then
   some 0
  else
   some (-1)
 else
  bif r1 then
   some 1
  else
   bif (Op.bytesLess x y) then
    some (-1)
   else
    bif (!(Op.bytesLess x y || x == y)) then
     some 1
    else
     some 0
noncomputable def y77 (N : Nat) (x y : List UInt8) : Option (RT [(.int .i64)]) := q22 DR Tryz.prog N (z82 N) ya4 Tryz.f252 (q10 Tryz.f252) (RT [(.int .i64)]) (qd6 [.str, .str] (x, y, ())) [] (q42 [(.int .i64)])
theorem jj7 (N : Nat) (x y : List UInt8) : y77 N x y = qn9 N x y := by kernel_rfl
def ja7 (m : (List UInt8) → (List UInt8) → Option Int) : Ent := q37 [.str, .str] [(.int .i64)] fun (x : Els [.str, .str]) => m x.1 x.2.1
def wm4 (N : Nat) : Ent := ja7 (qn9 N)
theorem zx4 (N : Nat) : q16 Tryz.prog 252 (wm4 N) := q15 (jv9 N) Tryz.func252 rfl (by kernel_rfl) fun (x : Els [.str, .str]) => jj7 N x.1 x.2.1
def ud5 : FH := ⟨[], [], [(1, ⟨14, 22, 0, [], []⟩)], [], false, [], []⟩
noncomputable def x15 (N : Nat) : q52 := tab [(251, z02 N), (223, w02 N), (252, wm4 N), (213, zu6 N)]
theorem vl3 (N : Nat) : q14 Tryz.prog (x15 N) := q06 (je0 N) <| q06 (wi2 N) <| q06 (zx4 N) <| q06 (jh7 N) <| q26 _
def wo8 (N : Nat) (a b : q00) : Option Int :=
 (qr5 N a.1 b.1).bind fun r =>
 (qk0 N a.2.1 b.2.1).bind fun r1 =>
 (qn9 N a.2.2.1 b.2.2.1).bind fun r2 =>
 (w45 N [r, r1, r2]).bind fun r3 =>
 some r3
noncomputable def ug0 (N : Nat) (a b : q00) : Option (RT [(.int .i64)]) := q22 DR Tryz.prog N (x15 N) ud5 Tryz.f215 (q10 Tryz.f215) (RT [(.int .i64)]) (qd6 [q05, q05] (a, b, ())) [] (q42 [(.int .i64)])
theorem xz9 (N : Nat) (a b : q00) : ug0 N a b = wo8 N a b := by kernel_rfl
def xt6 (m : q00 → q00 → Option Int) : Ent := q37 [q05, q05] [(.int .i64)] fun (x : Els [q05, q05]) => m x.1 x.2.1
def jt3 (N : Nat) : Ent := xt6 (wo8 N)
theorem xg1 (N : Nat) : q16 Tryz.prog 215 (jt3 N) := q15 (vl3 N) Tryz.func215 rfl (by kernel_rfl) fun (x : Els [q05, q05]) => xz9 N x.1 x.2.1
def wk1 : FH := ⟨[], [], [], [], false, [], [(12, ⟨[(2, .asis), (3, .asis)], [], [.cells [.int .u8, .int .i64, .str], .cells [.int .u8, .int .i64, .str]]⟩)]⟩
noncomputable def zg3 (N : Nat) : q52 := tab [(211, wi4 N), (212, jz5 N), (214, wn3 N), (213, zu6 N), (215, jt3 N)]
theorem xv3 (N : Nat) : q14 Tryz.prog (zg3 N) := q06 (z91 N) <| q06 (x81 N) <| q06 (j14 N) <| q06 (jh7 N) <| q06 (xg1 N) <| q26 _
noncomputable def z42 : Sc := wl4 Tryz.prog wk1
noncomputable def z29 (N : Nat) : Cfg := ⟨N, zg3 N, 0⟩
noncomputable def x91 (N : Nat) : Exit → List TV → List TOb → Option (Int × Bool × Unit) := fin Tryz.prog 0 Tryz.f155.results.toList (q42 [(.int .i64), .bool])
def jh3 (z70 a_N : Int) (a_S : List UInt8) (zp9 b_N : Int) (b_S : List UInt8) (e : Unit) : List TV := frm 65 [(2, .ref 0 0), (3, .ref 1 0)]
def jh4 (z70 a_N : Int) (a_S : List UInt8) (zp9 b_N : Int) (b_S : List UInt8) (e : Unit) : List TOb := [.cells [.int .u8 z70, .int .i64 a_N, .str a_S] 26 true, .cells [.int .u8 zp9, .int .i64 b_N, .str b_S] 26 true]
noncomputable def jh5 (N : Nat) : List TV → List TOb → Option (Int × Bool × Unit) := yz2 DR z42 (z29 N) (q92 (q92 (q07 (q07 (q10 Tryz.f155))))) (qc5 DR z42 (z29 N) (q07 (q92 (q07 (q07 (q10 Tryz.f155))))) (wk1.loops.drop 0) (qc5 DR z42 (z29 N) (q07 (q07 (q07 (q10 Tryz.f155)))) (wk1.loops.drop 0) (x91 N)))
def wc5 (N : Nat) (z70 a_N : Int) (a_S : List UInt8) (zp9 b_N : Int) (b_S : List UInt8) (e : Unit) : Option (Int × Bool × Unit) :=
 bif (z70 != zp9) then
  some (0, false, ())
 else
  bif decide (z70 < 3) then
   some (0, false, ())
  else
   bif decide (z70 > 5) then
    some (0, false, ())
   else
    (wo8 N (z70, a_N, a_S, ()) (zp9, b_N, b_S, ())).bind fun r7 =>
    some (r7, true, ())
theorem xq5 (N : Nat) (z70 a_N : Int) (a_S : List UInt8) (zp9 b_N : Int) (b_S : List UInt8) (e : Unit) : jmp N (jh5 N ) ((jh3 z70 a_N a_S zp9 b_N b_S) e) ((jh4 z70 a_N a_S zp9 b_N b_S) e) = at1 N (wc5 N z70 a_N a_S zp9 b_N b_S e) := qo8 (by kernel_rfl) N
def zj6 (N : Nat) (a b : q00) (l1 : Int → Int → (List UInt8) → Int → Int → (List UInt8) → Unit → Option (Int × Bool × Unit)) : Option (Int × Bool × Unit) :=
 (q77 N a).bind fun r =>
 bif r then
  (q77 N b).bind fun r1 =>
  bif r1 then
   (wo6 N a).bind fun r2 =>
   (wo6 N b).bind fun r3 =>
   bif (!(r2.1 == r3.1)) then
    bif r2.1 then
     some ((-1), true, ())
    else
     some (1, true, ())
   else
    (qh7 N r2.2.1 r3.2.1).bind fun r4 =>
    (qh7 N r2.2.2.1 r3.2.2.1).bind fun r5 =>
    (w45 N [r4, r5]).bind fun r6 =>
    bif r2.1 then
     bif q27 (0 - r6) then
     some (0 - r6, true, ())
     else none
    else
     some (r6, true, ())
  else
   l1 a.1 a.2.1 a.2.2.1 b.1 b.2.1 b.2.2.1 ()
 else
  l1 a.1 a.2.1 a.2.2.1 b.1 b.2.1 b.2.2.1 ()
def q98 (N : Nat) (a b : q00) : Option (Int × Bool × Unit) := zj6 N a b (fun z70 a_N a_S zp9 b_N b_S e => at1 N (wc5 N z70 a_N a_S zp9 b_N b_S e))
noncomputable def y33 (N : Nat) (a b : q00) : Option (RT [(.int .i64), .bool]) := q22 DR Tryz.prog N (zg3 N) wk1 Tryz.f155 (q10 Tryz.f155) (RT [(.int .i64), .bool]) (qd6 [q05, q05] (a, b, ())) [] (q42 [(.int .i64), .bool])
theorem x62 (N : Nat) (a b : q00) : y33 N a b = q98 N a b := by
 have h : y33 N a b = zj6 N a b (fun z70 a_N a_S zp9 b_N b_S e => jmp N (jh5 N ) (jh3 z70 a_N a_S zp9 b_N b_S e) (jh4 z70 a_N a_S zp9 b_N b_S e)) := by kernel_rfl
 rw [h]
 simp only [q98, xq5] <;> rfl
def yu7 (m : q00 → q00 → Option (Int × Bool × Unit)) : Ent := q37 [q05, q05] [(.int .i64), .bool] fun (x : Els [q05, q05]) => m x.1 x.2.1
def qk4 (N : Nat) : Ent := yu7 (q98 N)
theorem qk6 (N : Nat) : q16 Tryz.prog 155 (qk4 N) := q15 (xv3 N) Tryz.func155 rfl (by kernel_rfl) fun (x : Els [q05, q05]) => x62 N x.1 x.2.1
def yf7 : LH := ⟨[(5, .lst q05), (6, .int .i64), (7, .int .i64)], [], []⟩
def ze7 : FH := ⟨[yf7], [], [], [], false, [], []⟩
noncomputable def jd4 (N : Nat) : q52 := tab []
theorem vp9 (N : Nat) : q14 Tryz.prog (jd4 N) := q26 _
noncomputable def ye1 : Sc := wl4 Tryz.prog ze7
noncomputable def yf5 (N : Nat) : Cfg := ⟨N, jd4 N, 0⟩
noncomputable def vg2 (N : Nat) : Exit → List TV → List TOb → Option Bool := fin Tryz.prog 0 Tryz.f157.results.toList (q42 [.bool])
def zu3 (l : List q00) (t6 e : Int) : List TV := match e with
 | t7 => frm 15 [(5, .tl q05 l .unk), (6, .int .i64 t6), (7, .int .i64 t7)]
def zt0 (l : List q00) (t6 e : Int) : List TOb := match e with
 | t7 => []
noncomputable def ye7 (N : Nat) : (List TV → List TOb → Option Bool) → List TV → List TOb → Option Bool := w57 DR ye1 (yf5 N) (ql8 (qc7 (q07 (q92 (q07 (q10 Tryz.f157)))))) yf7 (ze7.loops.drop 1) (qj4 0 (qc5 DR ye1 (yf5 N) (q07 (q07 (q10 Tryz.f157))) (ze7.loops.drop 1) (vg2 N)))
def zt6 (N : Nat) (l : List q00) (t6 : Int) (K0 : Int → Option Bool) (e : Int) : Option Bool :=
 match e with
 | t7 =>
  bif decide (t7 < t6) then
   bif inR t7 l.length then
   bif (((q25 l t7 q32).1) == 0) then
    some true
   else
    bif q27 (t7 + 1) then
    K0 (t7 + 1)
    else none
   else none
  else
   some false
theorem vr1 (N : Nat) (l : List q00) (t6 : Int) (n_ : Nat) (e : Int) : q61 (ye7 N ) n_ ((zu3 l t6) e) ((zt0 l t6) e) = q95 (zt6 N l t6 ) n_ e :=
 q40 (zu3 l t6) (zt0 l t6) (by intro K e; kernel_rfl) n_ e
def je7 (N : Nat) (l : List q00) (l1 : (List q00) → Int → Int → Option Bool) : Option Bool :=
 l1 l (l.length : Int) 0
def q86 (N : Nat) (l : List q00) : Option Bool := je7 N l (fun l t6 e => q95 (zt6 N l t6) N e)
noncomputable def yx0 (N : Nat) (l : List q00) : Option (RT [.bool]) := q22 DR Tryz.prog N (jd4 N) ze7 Tryz.f157 (q10 Tryz.f157) (RT [.bool]) (qd6 [(.list q05)] (l, ())) [] (q42 [.bool])
theorem v46 (N : Nat) (l : List q00) : yx0 N l = q86 N l := by
 have h : yx0 N l = je7 N l (fun l t6 e => q61 (ye7 N ) N (zu3 l t6 e) (zt0 l t6 e)) := by kernel_rfl
 rw [h]
 simp only [q86, vr1] <;> rfl
def xs3 (m : (List q00) → Option Bool) : Ent := q37 [(.list q05)] [.bool] fun (x : Els [(.list q05)]) => m x.1
def qb8 (N : Nat) : Ent := xs3 (q86 N)
theorem qb0 (N : Nat) : q16 Tryz.prog 157 (qb8 N) := q15 (vp9 N) Tryz.func157 rfl (by kernel_rfl) fun (x : Els [(.list q05)]) => v46 N x.1
noncomputable def wj6 (N : Nat) : q52 := tab []
theorem j40 (N : Nat) : q14 Tryz.prog (wj6 N) := q26 _
noncomputable def wb4 (N : Nat) : Ent := zm5 Tryz.prog N (wj6 N) ⟨[], [], [], [], false, [], []⟩ Tryz.f156 (q10 Tryz.f156)
theorem zg8 (N : Nat) : q16 Tryz.prog 156 (wb4 N) := qc6 (j40 N) Tryz.func156 rfl (by kernel_rfl)
def qg1 : FH := ⟨[], [], [(1, ⟨11, 53, 0, [], []⟩), (4, ⟨10, 53, 0, [], []⟩)], [], false, [], [(4, ⟨[(0, .lst q05), (2, .asis), (4, .asis)], [], [.cells [.int .u8, .int .i64, .str, .int .i64]]⟩), (5, ⟨[(0, .lst q05), (2, .asis), (4, .asis), (5, .int .i64), (6, .bool)], [], [.cells [.int .u8, .int .i64, .str, .int .i64]]⟩)]⟩
noncomputable def wd3 (N : Nat) : q52 := tab [(155, qk4 N), (156, wb4 N), (90, qd2 N), (157, qb8 N), (76, q97 N)]
theorem y71 (N : Nat) : q14 Tryz.prog (wd3 N) := q06 (qk6 N) <| q06 (zg8 N) <| q06 (qc3 N) <| q06 (qb0 N) <| q06 (q87 N) <| q26 _
noncomputable def qe9 : Sc := wl4 Tryz.prog qg1
noncomputable def qe8 (N : Nat) : Cfg := ⟨N, wd3 N, 0⟩
noncomputable def wz4 (N : Nat) : Exit → List TV → List TOb → Option q03 := fin Tryz.prog 0 Tryz.f154.results.toList (q42 [q08])
def z47 (l : List q00) (c : Int) (ok t2 : Bool) (e : Unit) : List TV := frm 53 [(0, .tl q05 l .unk), (2, .ep [.bool t2] 0), (4, .ref 0 0), (5, .int .i64 c), (6, .bool ok)]
def zc2 (l : List q00) (c : Int) (ok t2 : Bool) (e : Unit) : List TOb := [.cells [.int .u8 0, .int .i64 0, .str [], .int .i64 0] 115 true]
def z46 (l : List q00) (t2 : Bool) (e : Unit) : List TV := frm 53 [(0, .tl q05 l .unk), (2, .ep [.bool t2] 0), (4, .ref 0 0)]
def za5 (l : List q00) (t2 : Bool) (e : Unit) : List TOb := [.cells [.int .u8 0, .int .i64 0, .str [], .int .i64 0] 115 true]
noncomputable def z73 (N : Nat) : List TV → List TOb → Option q03 := yz2 DR qe9 (qe8 N) (q92 (yq9 (q07 (qc7 (q92 (q07 (q07 (q07 (q10 Tryz.f154))))))))) (qc5 DR qe9 (qe8 N) (q07 (yq9 (q07 (qc7 (q92 (q07 (q07 (q07 (q10 Tryz.f154))))))))) (qg1.loops.drop 0) (qj4 0 (qc5 DR qe9 (qe8 N) (q07 (q07 (q07 (q07 (q10 Tryz.f154))))) (qg1.loops.drop 0) (wz4 N))))
def qq4 (N : Nat) (l : List q00) (t2 : Bool) (e : Unit) : Option q03 :=
 bif inR 0 l.length then
 bif inR 1 l.length then
 (qa0 N ((((q25 l 0 q32).1) == ((q25 l 1 q32).1)) == t2)).bind fun r1 =>
 some (r1, 0, ())
 else none
 else none
theorem yc5 (N : Nat) (l : List q00) (t2 : Bool) (e : Unit) : jmp N (z73 N ) ((z46 l t2) e) ((za5 l t2) e) = at1 N (qq4 N l t2 e) := qo8 (by kernel_rfl) N
noncomputable def z85 (N : Nat) : List TV → List TOb → Option q03 := yz2 DR qe9 (qe8 N) (q92 (zf4 (q07 (qc7 (q92 (q07 (q07 (q07 (q10 Tryz.f154))))))))) (qc5 DR qe9 (qe8 N) (q07 (zf4 (q07 (qc7 (q92 (q07 (q07 (q07 (q10 Tryz.f154))))))))) (qg1.loops.drop 0) (qj4 0 (qc5 DR qe9 (qe8 N) (q07 (q07 (q07 (q07 (q10 Tryz.f154))))) (qg1.loops.drop 0) (wz4 N))))
def qp6 (N : Nat) (l : List q00) (c : Int) (ok t2 : Bool) (e : Unit) : Option q03 :=
 (q86 N l).bind fun r2 =>
 bif r2 then
  some ((0, 0, [], ()), 0, ())
 else
  bif (!ok) then
   (qe0 N 8).bind fun r3 =>
   some r3
  else
   (qa0 N ((c == 0) == t2)).bind fun r4 =>
   some (r4, 0, ())
theorem y75 (N : Nat) (l : List q00) (c : Int) (ok t2 : Bool) (e : Unit) : jmp N (z85 N ) ((z47 l c ok t2) e) ((zc2 l c ok t2) e) = at1 N (qp6 N l c ok t2 e) := qo8 (by kernel_rfl) N
def wd0 (N : Nat) (l : List q00) (t1 : List q03) (t11 : List Bool) (t2 : Bool) (l1 : (List q00) → Bool → Unit → Option q03) (l2 : (List q00) → Int → Bool → Bool → Unit → Option q03) : Option q03 :=
 bif inR 0 l.length then
 bif inR 1 l.length then
 (q98 N (q25 l 0 q32) (q25 l 1 q32)).bind fun r =>
 bif decide ((0 : Int) < (t11.length : Int)) then
  bif inR 0 t11.length then
  bif (q25 t11 0 false) then
   l1 l t2 ()
  else
   bif decide ((1 : Int) < (t11.length : Int)) then
    bif inR 1 t11.length then
    bif (q25 t11 1 false) then
     l1 l t2 ()
    else
     l2 l r.1 r.2.1 t2 ()
    else none
   else
    l2 l r.1 r.2.1 t2 ()
  else none
 else
  bif decide ((1 : Int) < (t11.length : Int)) then
   bif inR 1 t11.length then
   bif (q25 t11 1 false) then
    l1 l t2 ()
   else
    l2 l r.1 r.2.1 t2 ()
   else none
  else
   l2 l r.1 r.2.1 t2 ()
 else none
 else none
def qf8 (N : Nat) (l : List q00) (t1 : List q03) (t11 : List Bool) (t2 : Bool) : Option q03 := wd0 N l t1 t11 t2 (fun l t2 e => at1 N (qq4 N l t2 e)) (fun l c ok t2 e => at1 N (qp6 N l c ok t2 e))
abbrev za4 : List PK := [.val (.list q05), .ep 2, .val (.list q08), .val (.list .bool), .ep 1, .val .bool]
noncomputable def zh2 (N : Nat) (l : List q00) (t1 : List q03) (t11 : List Bool) (t2 : Bool) : Option (RT [q08]) := q22 DR Tryz.prog N (wd3 N) qg1 Tryz.f154 (q10 Tryz.f154) (RT [q08]) (qy2 za4 (l, t1, t11, t2, ())) [] (q42 [q08])
theorem js2 (N : Nat) (l : List q00) (t1 : List q03) (t11 : List Bool) (t2 : Bool) : zh2 N l t1 t11 t2 = qf8 N l t1 t11 t2 := by
 have h : zh2 N l t1 t11 t2 = wd0 N l t1 t11 t2 (fun l t2 e => jmp N (z73 N ) (z46 l t2 e) (za5 l t2 e)) (fun l c ok t2 e => jmp N (z85 N ) (z47 l c ok t2 e) (zc2 l c ok t2 e)) := by kernel_rfl
 rw [h]
 simp only [qf8, yc5, y75] <;> rfl
def jn2 (m : (List q00) → (List q03) → (List Bool) → Bool → Option q03) : Ent := qf5 za4 [q08] fun (x : Els [(.list q05), (.list q08), (.list .bool), .bool]) => m x.1 x.2.1 x.2.2.1 x.2.2.2.1
def wy5 (N : Nat) : Ent := jn2 (qf8 N)
theorem j91 (N : Nat) : q16 Tryz.prog 154 (wy5 N) := q55 (y71 N) Tryz.func154 rfl (by kernel_rfl) (by kernel_rfl) fun (x : Els [(.list q05), (.list q08), (.list .bool), .bool]) => js2 N x.1 x.2.1 x.2.2.1 x.2.2.2.1
def j08 : LH := ⟨[(2, .asis), (3, .asis), (6, .asis), (7, .own q05 507 26 3), (10, .int .i64), (11, .int .i64)], [], [.cells [.lst q08, .lst .bool], .cells [.int .u8, .int .i64, .str, .int .i64]]⟩
def wb5 : FH := ⟨[j08], [], [], [], false, [], []⟩
noncomputable def z27 (N : Nat) : q52 := tab [(153, q58 N), (154, wy5 N)]
theorem xe2 (N : Nat) : q14 Tryz.prog (z27 N) := q06 (q53 N) <| q06 (j91 N) <| q26 _
noncomputable def zv1 : Sc := wl4 Tryz.prog wb5
noncomputable def zz5 (N : Nat) : Cfg := ⟨N, z27 N, 0⟩
noncomputable def x40 (N : Nat) : Exit → List TV → List TOb → Option q03 := fin Tryz.prog 0 Tryz.f99.results.toList (q42 [q08])
def wo1 (n : Int) (k_l : List q03) (q09 : List Bool) (q04 q19 : Int) (q20 : List UInt8) (q68 : Int) (y80 : List q03) (q96 : List Bool) (t2 : Bool) (e : List q00 × Int) : List TV := match e with
 | (l, t11) => frm 30 [(2, .func (.func 154) [.ep [.tl q08 y80 .unk, .tl .bool q96 .unk] 0, .ep [.bool t2] 0]), (3, .ref 0 0), (6, .ref 1 0), (7, .tl q05 l (.own 507 26 3)), (10, .int .i64 n), (11, .int .i64 t11)]
def wo9 (n : Int) (k_l : List q03) (q09 : List Bool) (q04 q19 : Int) (q20 : List UInt8) (q68 : Int) (y80 : List q03) (q96 : List Bool) (t2 : Bool) (e : List q00 × Int) : List TOb := match e with
 | (l, t11) => [.cells [.tl q08 k_l .unk, .tl .bool q09 .unk] 118 true, .cells [.int .u8 q04, .int .i64 q19, .str q20, .int .i64 q68] 115 true]
noncomputable def zw5 (N : Nat) : (List TV → List TOb → Option q03) → List TV → List TOb → Option q03 := w57 DR zv1 (zz5 N) (ql8 (qc7 (q07 (q92 (q07 (q07 (q10 Tryz.f99))))))) j08 (wb5.loops.drop 1) (qj4 0 (qc5 DR zv1 (zz5 N) (q07 (q07 (q07 (q10 Tryz.f99)))) (wb5.loops.drop 1) (x40 N)))
def wp3 (N : Nat) (n : Int) (k_l : List q03) (q09 : List Bool) (q04 q19 : Int) (q20 : List UInt8) (q68 : Int) (y80 : List q03) (q96 : List Bool) (t2 : Bool) (K0 : (List q00 × Int) → Option q03) (e : List q00 × Int) : Option q03 :=
 match e with
 | (l, t11) =>
  bif decide (t11 < n) then
   (q64 N (k_l, q09, ()) t11).bind fun r =>
   bif (r.2.1 != 0) then
    some r
   else
    bif qz1 (l.length + ([r.1] : List q00).length) 4398046511104 then
    bif q27 (t11 + 1) then
    K0 ((l ++ ([r.1] : List q00)), t11 + 1)
    else none
    else none
  else
   (qf8 N l y80 q96 t2).bind fun r1 =>
   some r1
theorem x72 (N : Nat) (n : Int) (k_l : List q03) (q09 : List Bool) (q04 q19 : Int) (q20 : List UInt8) (q68 : Int) (y80 : List q03) (q96 : List Bool) (t2 : Bool) (n_ : Nat) (e : List q00 × Int) : q61 (zw5 N ) n_ ((wo1 n k_l q09 q04 q19 q20 q68 y80 q96 t2) e) ((wo9 n k_l q09 q04 q19 q20 q68 y80 q96 t2) e) = q95 (wp3 N n k_l q09 q04 q19 q20 q68 y80 q96 t2 ) n_ e :=
 q40 (wo1 n k_l q09 q04 q19 q20 q68 y80 q96 t2) (wo9 n k_l q09 q04 q19 q20 q68 y80 q96 t2) (by intro K e; obtain ⟨l, t11⟩ := e; kernel_rfl) n_ e
def jg6 (N : Nat) (k : q36) (n : Int) (y80 : List q03) (q96 : List Bool) (t2 : Bool) (l1 : Int → (List q03) → (List Bool) → Int → Int → (List UInt8) → Int → (List q03) → (List Bool) → Bool → (List q00 × Int) → Option q03) : Option q03 :=
 l1 n k.1 k.2.1 0 0 [] 0 y80 q96 t2 ([], 0)
def wb1 (N : Nat) (k : q36) (n : Int) (y80 : List q03) (q96 : List Bool) (t2 : Bool) : Option q03 := jg6 N k n y80 q96 t2 (fun n k_l q09 q04 q19 q20 q68 y80 q96 t2 e => q95 (wp3 N n k_l q09 q04 q19 q20 q68 y80 q96 t2) N e)
abbrev j16 : List PK := [.val q72, .val (.int .i64), .fn 154 2, .ep 2, .val (.list q08), .val (.list .bool), .ep 1, .val .bool]
noncomputable def jf8 (N : Nat) (k : q36) (n : Int) (y80 : List q03) (q96 : List Bool) (t2 : Bool) : Option (RT [q08]) := q22 DR Tryz.prog N (z27 N) wb5 Tryz.f99 (q10 Tryz.f99) (RT [q08]) (qy2 j16 (k, n, y80, q96, t2, ())) [] (q42 [q08])
theorem x31 (N : Nat) (k : q36) (n : Int) (y80 : List q03) (q96 : List Bool) (t2 : Bool) : jf8 N k n y80 q96 t2 = wb1 N k n y80 q96 t2 := by
 have h : jf8 N k n y80 q96 t2 = jg6 N k n y80 q96 t2 (fun n k_l q09 q04 q19 q20 q68 y80 q96 t2 e => q61 (zw5 N ) N (wo1 n k_l q09 q04 q19 q20 q68 y80 q96 t2 e) (wo9 n k_l q09 q04 q19 q20 q68 y80 q96 t2 e)) := by kernel_rfl
 rw [h]
 simp only [wb1, x72] <;> rfl
def yq2 (m : q36 → Int → (List q03) → (List Bool) → Bool → Option q03) : Ent := qf5 j16 [q08] fun (x : Els [q72, (.int .i64), (.list q08), (.list .bool), .bool]) => m x.1 x.2.1 x.2.2.1 x.2.2.2.1 x.2.2.2.2.1
def zr9 (N : Nat) : Ent := yq2 (wb1 N)
theorem yc0 (N : Nat) : q16 Tryz.prog 99 (zr9 N) := q55 (xe2 N) Tryz.func99 rfl (by kernel_rfl) (by kernel_rfl) fun (x : Els [q72, (.int .i64), (.list q08), (.list .bool), .bool]) => x31 N x.1 x.2.1 x.2.2.1 x.2.2.2.1 x.2.2.2.2.1
def xb8 : FH := ⟨[], [], [], [], false, [99], []⟩
noncomputable def zx5 (N : Nat) : q52 := tab [(99, zr9 N)]
theorem x29 (N : Nat) : q14 Tryz.prog (zx5 N) := q06 (yc0 N) <| q26 _
def w24 (N : Nat) (k : q36) (as_ : Bool) : Option q03 :=
 (wb1 N k 2 k.1 k.2.1 as_).bind fun r =>
 some r
noncomputable def xf3 (N : Nat) (k : q36) (as_ : Bool) : Option (RT [q08]) := q22 DR Tryz.prog N (zx5 N) xb8 Tryz.f82 (q10 Tryz.f82) (RT [q08]) (qd6 [q72, .bool] (k, as_, ())) [] (q42 [q08])
theorem yo2 (N : Nat) (k : q36) (as_ : Bool) : xf3 N k as_ = w24 N k as_ := by kernel_rfl
def y96 (m : q36 → Bool → Option q03) : Ent := q37 [q72, .bool] [q08] fun (x : Els [q72, .bool]) => m x.1 x.2.1
def zk2 (N : Nat) : Ent := y96 (w24 N)
theorem ju3 (N : Nat) : q16 Tryz.prog 82 (zk2 N) := q15 (x29 N) Tryz.func82 rfl (by kernel_rfl) fun (x : Els [q72, .bool]) => yo2 N x.1 x.2.1
def xm1 : LH := ⟨[(0, .int .u8), (1, .int .u8), (9, .lst q05), (10, .int .i64), (11, .int .i64)], [], []⟩
def j98 : FH := ⟨[xm1], [], [], [], false, [], []⟩
noncomputable def yg7 (N : Nat) : q52 := tab []
theorem ur7 (N : Nat) : q14 Tryz.prog (yg7 N) := q26 _
noncomputable def xp1 : Sc := wl4 Tryz.prog j98
noncomputable def xk2 (N : Nat) : Cfg := ⟨N, yg7 N, 0⟩
noncomputable def u14 (N : Nat) : Exit → List TV → List TOb → Option Bool := fin Tryz.prog 0 Tryz.f159.results.toList (q42 [.bool])
def js9 (least most : Int) (l : List q00) (t10 e : Int) : List TV := match e with
 | t11 => frm 31 [(0, .int .u8 least), (1, .int .u8 most), (9, .tl q05 l .unk), (10, .int .i64 t10), (11, .int .i64 t11)]
def jy4 (least most : Int) (l : List q00) (t10 e : Int) : List TOb := match e with
 | t11 => []
noncomputable def xo2 (N : Nat) : (List TV → List TOb → Option Bool) → List TV → List TOb → Option Bool := w57 DR xp1 (xk2 N) (ql8 (qc7 (q07 (q92 (q07 (q10 Tryz.f159)))))) xm1 (j98.loops.drop 1) (qj4 0 (qc5 DR xp1 (xk2 N) (q07 (q07 (q10 Tryz.f159))) (j98.loops.drop 1) (u14 N)))
def y47 (N : Nat) (least most : Int) (l : List q00) (t10 : Int) (K0 : Int → Option Bool) (e : Int) : Option Bool :=
 match e with
 | t11 =>
  bif decide (t11 < t10) then
   bif inR t11 l.length then
   bif (((q25 l t11 q32).1) != 0) then
    bif decide (((q25 l t11 q32).1) < least) then
     some false
    else
     bif decide (((q25 l t11 q32).1) > most) then
      some false
     else
      bif q27 (t11 + 1) then
      K0 (t11 + 1)
      else none
   else
    bif q27 (t11 + 1) then
    K0 (t11 + 1)
    else none
   else none
  else
   some true
theorem uh0 (N : Nat) (least most : Int) (l : List q00) (t10 : Int) (n_ : Nat) (e : Int) : q61 (xo2 N ) n_ ((js9 least most l t10) e) ((jy4 least most l t10) e) = q95 (y47 N least most l t10 ) n_ e :=
 q40 (js9 least most l t10) (jy4 least most l t10) (by intro K e; kernel_rfl) n_ e
def yn2 (N : Nat) (least most : Int) (l : List q00) (l1 : Int → Int → (List q00) → Int → Int → Option Bool) : Option Bool :=
 l1 least most l (l.length : Int) 0
def qb3 (N : Nat) (least most : Int) (l : List q00) : Option Bool := yn2 N least most l (fun least most l t10 e => q95 (y47 N least most l t10) N e)
noncomputable def vj7 (N : Nat) (least most : Int) (l : List q00) : Option (RT [.bool]) := q22 DR Tryz.prog N (yg7 N) j98 Tryz.f159 (q10 Tryz.f159) (RT [.bool]) (qd6 [(.int .u8), (.int .u8), (.list q05)] (least, most, l, ())) [] (q42 [.bool])
theorem u39 (N : Nat) (least most : Int) (l : List q00) : vj7 N least most l = qb3 N least most l := by
 have h : vj7 N least most l = yn2 N least most l (fun least most l t10 e => q61 (xo2 N ) N (js9 least most l t10 e) (jy4 least most l t10 e)) := by kernel_rfl
 rw [h]
 simp only [qb3, uh0] <;> rfl
def vm5 (m : Int → Int → (List q00) → Option Bool) : Ent := q37 [(.int .u8), (.int .u8), (.list q05)] [.bool] fun (x : Els [(.int .u8), (.int .u8), (.list q05)]) => m x.1 x.2.1 x.2.2.1
def qd9 (N : Nat) : Ent := vm5 (qb3 N)
theorem qc9 (N : Nat) : q16 Tryz.prog 159 (qd9 N) := q15 (ur7 N) Tryz.func159 rfl (by kernel_rfl) fun (x : Els [(.int .u8), (.int .u8), (.list q05)]) => u39 N x.1 x.2.1 x.2.2.1
def v06 : FH := ⟨[], [], [], [], false, [], []⟩
noncomputable def jt6 (N : Nat) : q52 := tab []
theorem xu7 (N : Nat) : q14 Tryz.prog (jt6 N) := q26 _
def wl2 (N : Nat) (c : Int) : Option Bool :=
 some (decide (c < 0))
noncomputable def v92 (N : Nat) (c : Int) : Option (RT [.bool]) := q22 DR Tryz.prog N (jt6 N) v06 Tryz.f84 (q10 Tryz.f84) (RT [.bool]) (qd6 [(.int .i64)] (c, ())) [] (q42 [.bool])
theorem xh6 (N : Nat) (c : Int) : v92 N c = wl2 N c := by kernel_rfl
def yt8 (m : Int → Option Bool) : Ent := q37 [(.int .i64)] [.bool] fun (x : Els [(.int .i64)]) => m x.1
def j13 (N : Nat) : Ent := yt8 (wl2 N)
theorem yn3 (N : Nat) : q16 Tryz.prog 84 (j13 N) := q15 (xu7 N) Tryz.func84 rfl (by kernel_rfl) fun (x : Els [(.int .i64)]) => xh6 N x.1
def yh5 : FH := ⟨[], [], [(5, ⟨11, 35, 0, [], []⟩)], [], false, [], []⟩
noncomputable def zk0 (N : Nat) : q52 := tab [(159, qd9 N), (76, q97 N), (157, qb8 N), (155, qk4 N), (84, j13 N), (90, qd2 N)]
theorem yc3 (N : Nat) : q14 Tryz.prog (zk0 N) := q06 (qc9 N) <| q06 (q87 N) <| q06 (qb0 N) <| q06 (qk6 N) <| q06 (yn3 N) <| q06 (qc3 N) <| q26 _
def qt1 (N : Nat) (l : List q00) : Option q03 :=
 (qb3 N 1 2 l).bind fun r =>
 bif (!r) then
  (qb3 N 3 3 l).bind fun r1 =>
  bif (!r1) then
   (qe0 N 8).bind fun r2 =>
   some r2
  else
   (q86 N l).bind fun r3 =>
   bif r3 then
    some ((0, 0, [], ()), 0, ())
   else
    bif inR 0 l.length then
    bif inR 1 l.length then
    (q98 N (q25 l 0 q32) (q25 l 1 q32)).bind fun r4 =>
    (wl2 N r4.1).bind fun r5 =>
    (qa0 N r5).bind fun r6 =>
    some (r6, 0, ())
    else none
    else none
 else
  (q86 N l).bind fun r7 =>
  bif r7 then
   some ((0, 0, [], ()), 0, ())
  else
   bif inR 0 l.length then
   bif inR 1 l.length then
   (q98 N (q25 l 0 q32) (q25 l 1 q32)).bind fun r8 =>
   (wl2 N r8.1).bind fun r9 =>
   (qa0 N r9).bind fun r10 =>
   some (r10, 0, ())
   else none
   else none
abbrev z75 : List PK := [.val (.list q05), .ep 1, .fn 84 0]
noncomputable def yq8 (N : Nat) (l : List q00) : Option (RT [q08]) := q22 DR Tryz.prog N (zk0 N) yh5 Tryz.f158 (q10 Tryz.f158) (RT [q08]) (qy2 z75 (l, ())) [] (q42 [q08])
theorem y32 (N : Nat) (l : List q00) : yq8 N l = qt1 N l := by kernel_rfl
def jj2 (m : (List q00) → Option q03) : Ent := qf5 z75 [q08] fun (x : Els [(.list q05)]) => m x.1
def z14 (N : Nat) : Ent := jj2 (qt1 N)
theorem jd2 (N : Nat) : q16 Tryz.prog 158 (z14 N) := q55 (yc3 N) Tryz.func158 rfl (by kernel_rfl) (by kernel_rfl) fun (x : Els [(.list q05)]) => y32 N x.1
end Go.Proofs.YtgicljncknbgcaaGreat.Abs
