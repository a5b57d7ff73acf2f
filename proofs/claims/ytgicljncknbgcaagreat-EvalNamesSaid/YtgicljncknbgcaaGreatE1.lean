/- Expressions' answers: those that ask expressions from the left. -/
import Derived.Test.YtgicljncknbgcaaGreatN1
import Derived.Test.YtgicljncknbgcaaGreatL7
import Derived.Test.YtgicljncknbgcaaGreatV1
import Derived.Test.YtgicljncknbgcaaGreatN2
import Derived.Test.YtgicljncknbgcaaGreatR1
import Derived.Test.YtgicljncknbgcaaGreatR2
set_option linter.unusedVariables false
set_option linter.unusedSimpArgs false
set_option linter.unusedSectionVars false
namespace Go.Proofs.YtgicljncknbgcaaGreat.Abs
open Go
def a0 : q03 := ((0, 0, [], ()), 0, ())
def wo0 (k : q36) (i : Nat) : q03 := k.1.getD i a0
def z40 (k : q36) (n : Nat) : List q03 := (List.range' 0 n).map (wo0 k)
theorem kg3 (N : Nat) (k : q36) (i : Nat) : q64 N k (i : Int) = some (wo0 k i) := by
 unfold q64 wo0
 by_cases h : (i : Int) ≥ (k.1.length : Int)
 ·have : k.1.length ≤ i := by omega
  simp only [h, decide_true, cond_true]
  rw [List.getD_eq_getElem?_getD, List.getElem?_eq_none this]
  rfl
 ·have h2 : i < k.1.length := by omega
  have h3 : inR (i : Int) k.1.length = true := w58 (by omega) (by omega)
  simp only [h, decide_false, cond_false, h3, cond_true]
  rw [qu5 h2, List.getD_eq_getElem?_getD, List.getElem?_eq_getElem h2]
  rfl
def wb3 (F : List q00 → Option q03) : List q03 → List q00 → Option q03
 | [], acc => F acc
 | a :: l, acc => if a.2.1 ≠ 0 then some a else wb3 F l (acc ++ [a.1])
theorem ql3 {N : Nat} (body : ((List q00 × Int) → Option q03) → (List q00 × Int) → Option q03) (k : q36) (n : Nat) (F : List q00 → Option q03) (hN : n < N) (hn : n ≤ 1000000)
  (hb : ∀ K l t, body K (l, t) = bif decide (t < (n : Int)) then
   (q64 N (k.1, k.2.1, ()) t).bind fun (r : q03) =>
   bif (r.2.1 != 0) then
    some r
   else
    bif qz1 (l.length + ([r.1] : List q00).length) 4398046511104 then
    bif q27 (t + 1) then
    K ((l ++ ([r.1] : List q00)), t + 1)
    else none
    else none
  else F l) : q95 body N ([], 0) = wb3 F (z40 k n) [] := by
 have main : ∀ (m i : Nat) (acc : List q00) (M : Nat), i + m = n → acc.length = i → m < M → q95 body M (acc, (i : Int)) = wb3 F ((List.range' i m).map (wo0 k)) acc := by
  intro m
  induction m with
  | zero =>
   intro i acc M h1 h2 h3
   cases M with
   | zero => omega
   | succ M =>
    simp only [q95, hb]
    have : ¬ (i : Int) < (n : Int) := by omega
    simp [this, wb3]
  | succ m ih =>
   intro i acc M h1 h2 h3
   cases M with
   | zero => omega
   | succ M =>
    simp only [q95, hb]
    have c : (i : Int) < (n : Int) := by omega
    have e : q64 N (k.1, k.2.1, ()) (i : Int) = some (wo0 k i) := kg3 N k i
    rw [decide_eq_true c, cond_true, e, Option.bind_some, List.range'_succ, List.map_cons, wb3]
    by_cases h : (wo0 k i).2.1 = 0
    ·have h' : ((wo0 k i).2.1 != 0) = false := by simpa using h
     rw [h', cond_false, ya0 (by simp; omega), cond_true, inI (by omega) (by omega), cond_true, if_neg (by simp [h])]
     exact ih (i + 1) (acc ++ [(wo0 k i).1]) M (by omega) (by simp; omega) (by omega)
    ·have h' : ((wo0 k i).2.1 != 0) = true := by simpa using h
     rw [h', cond_true, if_pos h]
 exact main n 0 [] N (by omega) rfl hN
def z41 (N : Nat) (y80 : List q03) (q96 : List Bool) (t2 : Bool) (l : List q00) : Option q03 :=
 (qf8 N l y80 q96 t2).bind fun (r1 : q03) =>
 some r1
theorem xf9 (N : Nat) (k : q36) (n : Nat) (y80 : List q03) (q96 : List Bool) (t2 : Bool) (hN : n < N) (hn : n ≤ 1000000) : wb1 N k (n : Int) y80 q96 t2 = wb3 (z41 N y80 q96 t2) (z40 k n) [] :=
 ql3 (wp3 N (n : Int) k.1 k.2.1 0 0 [] 0 y80 q96 t2) k n (z41 N y80 q96 t2) hN hn fun K l t => rfl
def wc8 (N : Nat) (l : List q00) : Option q03 :=
 (qt1 N l).bind fun (r1 : q03) =>
 some r1
theorem ya8 (N : Nat) (k : q36) (n : Nat) (hN : n < N) (hn : n ≤ 1000000) : qr1 N k (n : Int) = wb3 (wc8 N) (z40 k n) [] :=
 ql3 (w67 N (n : Int) k.1 k.2.1 0 0 [] 0) k n (wc8 N) hN hn fun K l t => rfl
def wf0 (N : Nat) (l : List q00) : Option q03 :=
 (qi6 N l).bind fun (r1 : q03) =>
 some r1
theorem y74 (N : Nat) (k : q36) (n : Nat) (hN : n < N) (hn : n ≤ 1000000) : qr6 N k (n : Int) = wb3 (wf0 N) (z40 k n) [] :=
 ql3 (w90 N (n : Int) k.1 k.2.1 0 0 [] 0) k n (wf0 N) hN hn fun K l t => rfl
def wd4 (N : Nat) (l : List q00) : Option q03 :=
 (qi5 N l).bind fun (r1 : q03) =>
 some r1
theorem y85 (N : Nat) (k : q36) (n : Nat) (hN : n < N) (hn : n ≤ 1000000) : qr0 N k (n : Int) = wb3 (wd4 N) (z40 k n) [] :=
 ql3 (w68 N (n : Int) k.1 k.2.1 0 0 [] 0) k n (wd4 N) hN hn fun K l t => rfl
def we9 (N : Nat) (l : List q00) : Option q03 :=
 (qi7 N l).bind fun (r1 : q03) =>
 some r1
theorem yc6 (N : Nat) (k : q36) (n : Nat) (hN : n < N) (hn : n ≤ 1000000) : qr2 N k (n : Int) = wb3 (we9 N) (z40 k n) [] :=
 ql3 (w63 N (n : Int) k.1 k.2.1 0 0 [] 0) k n (we9 N) hN hn fun K l t => rfl
def we7 (N : Nat) (t1 : Int) (l : List q00) : Option q03 :=
 (qn2 N l t1).bind fun (r1 : q03) =>
 some r1
theorem yb8 (N : Nat) (k : q36) (n : Nat) (t1 : Int) (hN : n < N) (hn : n ≤ 1000000) : qs1 N k (n : Int) t1 = wb3 (we7 N t1) (z40 k n) [] :=
 ql3 (w89 N (n : Int) k.1 k.2.1 0 0 [] 0 t1) k n (we7 N t1) hN hn fun K l t => rfl
def wd8 (N : Nat) (t1 : Int) (l : List q00) : Option q03 :=
 (qg9 N l t1).bind fun (r1 : q03) =>
 some r1
theorem y94 (N : Nat) (k : q36) (n : Nat) (t1 : Int) (hN : n < N) (hn : n ≤ 1000000) : qt5 N k (n : Int) t1 = wb3 (wd8 N t1) (z40 k n) [] :=
 ql3 (w65 N (n : Int) k.1 k.2.1 0 0 [] 0 t1) k n (wd8 N t1) hN hn fun K l t => rfl
def wf1 (N : Nat) (l : List q00) : Option q03 :=
 bif inR 0 l.length then
 bif inR 1 l.length then
 (j32 N (q25 l 0 q32) (q25 l 1 q32)).bind fun (r1 : q00 × Int × Unit) =>
 (qd1 N r1.1 r1.2.1).bind fun (r2 : q03) =>
 some r2
 else none
 else none
theorem y81 (N : Nat) (k : q36) (n : Nat) (hN : n < N) (hn : n ≤ 1000000) : qr9 N k (n : Int) = wb3 (wf1 N) (z40 k n) [] :=
 ql3 (w99 N (n : Int) k.1 k.2.1 0 0 [] 0) k n (wf1 N) hN hn fun K l t => rfl
def wd2 (N : Nat) (l : List q00) : Option q03 :=
 bif inR 0 l.length then
 bif inR 1 l.length then
 (zi4 N (q25 l 0 q32) (q25 l 1 q32)).bind fun (r1 : q00 × Int × Unit) =>
 (qd1 N r1.1 r1.2.1).bind fun (r2 : q03) =>
 some r2
 else none
 else none
theorem y78 (N : Nat) (k : q36) (n : Nat) (hN : n < N) (hn : n ≤ 1000000) : qt0 N k (n : Int) = wb3 (wd2 N) (z40 k n) [] :=
 ql3 (w71 N (n : Int) k.1 k.2.1 0 0 [] 0) k n (wd2 N) hN hn fun K l t => rfl
def we1 (N : Nat) (l : List q00) : Option q03 :=
 bif inR 0 l.length then
 bif inR 1 l.length then
 (zy6 N (q25 l 0 q32) (q25 l 1 q32)).bind fun (r1 : q00 × Int × Unit) =>
 (qd1 N r1.1 r1.2.1).bind fun (r2 : q03) =>
 some r2
 else none
 else none
theorem yc4 (N : Nat) (k : q36) (n : Nat) (hN : n < N) (hn : n ≤ 1000000) : qr7 N k (n : Int) = wb3 (we1 N) (z40 k n) [] :=
 ql3 (w82 N (n : Int) k.1 k.2.1 0 0 [] 0) k n (we1 N) hN hn fun K l t => rfl
def w70 (N : Nat) (l : List q00) : Option q03 :=
 bif inR 0 l.length then
 bif inR 1 l.length then
 (zy3 N (q25 l 0 q32) (q25 l 1 q32)).bind fun (r1 : q00 × Int × Unit) =>
 (qd1 N r1.1 r1.2.1).bind fun (r2 : q03) =>
 some r2
 else none
 else none
theorem jz9 (N : Nat) (k : q36) (n : Nat) (hN : n < N) (hn : n ≤ 1000000) : qo2 N k (n : Int) = wb3 (w70 N) (z40 k n) [] :=
 ql3 (w25 N (n : Int) k.1 k.2.1 0 0 [] 0) k n (w70 N) hN hn fun K l t => rfl
def w94 (N : Nat) (l : List q00) : Option q03 :=
 (wh6 N l).bind fun (r1 : q03) =>
 some r1
theorem jr4 (N : Nat) (k : q36) (n : Nat) (hN : n < N) (hn : n ≤ 1000000) : qn8 N k (n : Int) = wb3 (w94 N) (z40 k n) [] :=
 ql3 (qz9 N (n : Int) k.1 k.2.1 0 0 [] 0) k n (w94 N) hN hn fun K l t => rfl
def qp8 (N : Nat) (l : List q00) : Option q03 :=
 (wj2 N l).bind fun (r1 : q03) =>
 some r1
theorem y37 (N : Nat) (k : q36) (n : Nat) (hN : n < N) (hn : n ≤ 1000000) : qi0 N k (n : Int) = wb3 (qp8 N) (z40 k n) [] :=
 ql3 (w16 N (n : Int) k.1 k.2.1 0 0 [] 0) k n (qp8 N) hN hn fun K l t => rfl
def qq1 (N : Nat) (l : List q00) : Option q03 :=
 (wh2 N l).bind fun (r1 : q03) =>
 some r1
theorem jq0 (N : Nat) (k : q36) (n : Nat) (hN : n < N) (hn : n ≤ 1000000) : qh8 N k (n : Int) = wb3 (qq1 N) (z40 k n) [] :=
 ql3 (w06 N (n : Int) k.1 k.2.1 0 0 [] 0) k n (qq1 N) hN hn fun K l t => rfl
def w66 (N : Nat) (l : List q00) : Option q03 :=
 (y52 N l).bind fun (r1 : q03) =>
 some r1
theorem jp7 (N : Nat) (k : q36) (n : Nat) (hN : n < N) (hn : n ≤ 1000000) : qn7 N k (n : Int) = wb3 (w66 N) (z40 k n) [] :=
 ql3 (w07 N (n : Int) k.1 k.2.1 0 0 [] 0) k n (w66 N) hN hn fun K l t => rfl
def w77 (N : Nat) (t1 : Int) (l : List q00) : Option q03 :=
 (qg7 N l t1).bind fun (r1 : q03) =>
 some r1
theorem y35 (N : Nat) (k : q36) (n : Nat) (t1 : Int) (hN : n < N) (hn : n ≤ 1000000) : qo7 N k (n : Int) t1 = wb3 (w77 N t1) (z40 k n) [] :=
 ql3 (qz7 N (n : Int) k.1 k.2.1 0 0 [] 0 t1) k n (w77 N t1) hN hn fun K l t => rfl
def w95 (N : Nat) (t1 : Int) (l : List q00) : Option q03 :=
 (qg8 N l t1).bind fun (r1 : q03) =>
 some r1
theorem jp5 (N : Nat) (k : q36) (n : Nat) (t1 : Int) (hN : n < N) (hn : n ≤ 1000000) : qp0 N k (n : Int) t1 = wb3 (w95 N t1) (z40 k n) [] :=
 ql3 (w12 N (n : Int) k.1 k.2.1 0 0 [] 0 t1) k n (w95 N t1) hN hn fun K l t => rfl
def w73 (N : Nat) (t1 : Int) (l : List q00) : Option q03 :=
 (qg3 N l t1).bind fun (r1 : q03) =>
 some r1
theorem jr5 (N : Nat) (k : q36) (n : Nat) (t1 : Int) (hN : n < N) (hn : n ≤ 1000000) : qp1 N k (n : Int) t1 = wb3 (w73 N t1) (z40 k n) [] :=
 ql3 (w05 N (n : Int) k.1 k.2.1 0 0 [] 0 t1) k n (w73 N t1) hN hn fun K l t => rfl
def zo5 (v : q00) : q03 := (v, 0, ())
def kt9 (e : Int) : q03 := ((0, 0, [], ()), e, ())
def yo9 (l : List q00) : Bool := l.any fun v => v.1 == 0
def zn7 (least most : Int) (l : List q00) : Bool := l.all fun v => v.1 == 0 || (decide (least ≤ v.1) && decide (v.1 ≤ most))
theorem fail_is (N : Nat) (e : Int) : qe0 N e = some (kt9 e) := rfl
theorem uv8 (N : Nat) (l : List q00) (hl : l.length ≤ 1000000) (hN : l.length < N) : q86 N l = some (yo9 l) := by
 refine Tells.get ?_
 unfold q86 je7
 refine Tells.iter (fun (i : Int) => ∃ k : Nat, i = k ∧ k ≤ l.length ∧ (l.take k).any (fun v => v.1 == 0) = false) (fun (i : Int) => l.length - i.toNat) ?_ N 0 ⟨0, rfl, by omega, by simp⟩ (by simpa using hN)
 rintro K i ⟨k, rfl, h1, h2⟩ hK
 unfold zt6
 dsimp only
 refine Tells.dec (fun c => ?_) (fun c => ?_)
 ·have hk : k < l.length := by omega
  have ht : l.take (k + 1) = l.take k ++ [l[k]] := by rw [List.take_add_one]; simp [hk]
  rw [qu5 hk]
  refine Tells.ok (w58 (by omega) (by omega)) (Tells.ite (fun c2 => Tells.some ?_) (fun c2 => ?_))
  ·unfold yo9
   exact (List.any_eq_true.2 ⟨_, List.getElem_mem hk, c2⟩).symm
  ·refine Tells.ok (inI (by omega) (by omega)) (hK _ ⟨k + 1, by omega, by omega, ?_⟩ (by omega))
   rw [ht, List.any_append, h2]
   simpa using c2
 ·have : k = l.length := by omega
  subst this
  rw [List.take_length] at h2
  exact Tells.some h2.symm
theorem k17 (N : Nat) (least most : Int) (l : List q00) (hl : l.length ≤ 1000000) (hN : l.length < N) : qb3 N least most l = some (zn7 least most l) := by
 refine Tells.get ?_
 unfold qb3 yn2
 refine Tells.iter (fun (i : Int) => ∃ k : Nat, i = k ∧ k ≤ l.length ∧ zn7 least most (l.take k) = true) (fun (i : Int) => l.length - i.toNat) ?_ N 0 ⟨0, rfl, by omega, by simp [zn7]⟩ (by simpa using hN)
 rintro K i ⟨k, rfl, h1, h2⟩ hK
 unfold y47
 dsimp only
 refine Tells.dec (fun c => ?_) (fun c => ?_)
 ·have hk : k < l.length := by omega
  have ht : l.take (k + 1) = l.take k ++ [l[k]] := by rw [List.take_add_one]; simp [hk]
  rw [qu5 hk]
  have next : (l[k].1 == 0 || (decide (least ≤ l[k].1) && decide (l[k].1 ≤ most))) = true → Tells (bif q27 ((k : Int) + 1) then K ((k : Int) + 1) else none) fun x => x = zn7 least most l := fun h => by
   refine Tells.ok (inI (by omega) (by omega)) (hK _ ⟨k + 1, by omega, by omega, ?_⟩ (by omega))
   unfold zn7 at h2 ⊢
   rw [ht, List.all_append, h2]
   simpa using h
  have bad : (l[k].1 == 0 || (decide (least ≤ l[k].1) && decide (l[k].1 ≤ most))) = false → zn7 least most l = false := fun h => by
   unfold zn7
   rw [List.all_eq_false]
   exact ⟨_, List.getElem_mem hk, by simpa using h⟩
  refine Tells.ok (w58 (by omega) (by omega)) (Tells.ite (fun c2 => ?_) (fun c2 => ?_))
  ·have c2 : (l[k].1 == 0) = false := by simpa using c2
   refine Tells.dec (fun c3 => Tells.some ?_) (fun c3 => Tells.dec (fun c4 => Tells.some ?_) (fun c4 => next ?_))
   ·rw [bad (by rw [c2, decide_eq_false (by omega)]; rfl)]
   ·rw [bad (by rw [c2, decide_eq_false (show ¬ l[k].1 ≤ most by omega)]; simp)]
   ·rw [decide_eq_true (show least ≤ l[k].1 by omega), decide_eq_true (show l[k].1 ≤ most by omega)]; simp
  ·refine next ?_
   have c2 : (l[k].1 == 0) = true := by simpa using c2
   rw [c2]; rfl
 ·have : k = l.length := by omega
  subst this
  rw [List.take_length] at h2
  exact Tells.some h2.symm
def eqF (nulls : List Bool) (t : Bool) (x y : q00) : q03 :=
 if nulls.getD 0 false = true ∨ nulls.getD 1 false = true then zo5 (z56 ((x.1 == y.1) == t))
 else if yo9 [x, y] = true then zo5 (0, 0, [], ())
 else if (kt8 x y).2.1 = false then kt9 8
 else zo5 (z56 (((kt8 x y).1 == 0) == t))
theorem nul_is (l : List Bool) (i : Nat) {β : Type} (x y : Option β) : (bif decide ((i : Int) < (l.length : Int)) then bif inR (i : Int) l.length then bif q25 l (i : Int) false then x else y else none else y) = bif l.getD i false then x else y := by
 by_cases h : i < l.length
 ·rw [decide_eq_true (by omega), cond_true, w58 (by omega) (by omega), cond_true, qu5 h, List.getD_eq_getElem?_getD, List.getElem?_eq_getElem h]
  rfl
 ·rw [decide_eq_false (by omega), cond_false, List.getD_eq_getElem?_getD, List.getElem?_eq_none (by omega)]
  rfl
section
variable {N : Nat} (hN : 100 ≤ N)
include hN
theorem yx4 (x y : q00) : q86 N [x, y] = some (yo9 [x, y]) := uv8 N _ (by simp) (by simp; omega)
theorem kp9 (nulls : List Bool) (l : List q03) (t : Bool) (x y : q00) (hx : I64 x.2.1) (hy : I64 y.2.1) : qf8 N [x, y] l nulls t = some (eqF nulls t x y) := by
 unfold qf8 wd0
 dsimp only
 simp only [qd7 (show 0 < N by omega)]
 have e0 : inR 0 [x, y].length = true := rfl
 have e1 : inR 1 [x, y].length = true := rfl
 rw [e0, cond_true, e1, cond_true]
 have n0 : q25 [x, y] 0 q32 = x := rfl
 have n1 : q25 [x, y] 1 q32 = y := rfl
 rw [n0, n1, jg0 N (by omega) x y hx hy, Option.bind_some]
 have b1 : qq4 N [x, y] t () = some (zo5 (z56 ((x.1 == y.1) == t))) := by
  unfold qq4
  rw [e0, cond_true, e1, cond_true, n0, n1, qh1]; rfl
 have b2 : qp6 N [x, y] (kt8 x y).1 (kt8 x y).2.1 t () = some (if yo9 [x, y] = true then zo5 (0, 0, [], ()) else if (kt8 x y).2.1 = false then kt9 8 else zo5 (z56 (((kt8 x y).1 == 0) == t))) := by
  unfold qp6
  rw [yx4 hN, Option.bind_some]
  cases h1 : yo9 [x, y]
  ·cases h2 : (kt8 x y).2.1
   ·rfl
   ·simp only [qh1]; rfl
  ·rfl
 have q0 := nul_is nulls 0 (β := q03)
 have q1 := nul_is nulls 1 (β := q03)
 have z0 : ((0 : Nat) : Int) = 0 := rfl
 have z1 : ((1 : Nat) : Int) = 1 := rfl
 simp only [z0] at q0
 simp only [z1] at q1
 rw [b1, b2, q1, q0]
 unfold eqF
 cases nulls.getD 0 false <;> cases nulls.getD 1 false <;> simp
def uz2 (p : Int → Bool) (x y : q00) : q03 :=
 if zn7 1 2 [x, y] = false ∧ zn7 3 3 [x, y] = false then kt9 8
 else if yo9 [x, y] = true then zo5 (0, 0, [], ())
 else zo5 (z56 (p (kt8 x y).1))
theorem j85 (p : Int → Bool) (q : Nat → Int → Option Bool) (hq : ∀ c, q N c = some (p c)) (x y : q00) (hx : I64 x.2.1) (hy : I64 y.2.1) : ((qb3 N 1 2 [x, y]).bind fun (r : Bool) =>
 bif (!r) then
  (qb3 N 3 3 [x, y]).bind fun (r1 : Bool) =>
  bif (!r1) then
   (qe0 N 8).bind fun (r2 : q03) =>
   some r2
  else
   (q86 N [x, y]).bind fun (r3 : Bool) =>
   bif r3 then
    some ((0, 0, [], ()), 0, ())
   else
    bif inR 0 [x, y].length then
    bif inR 1 [x, y].length then
    (q98 N (q25 [x, y] 0 q32) (q25 [x, y] 1 q32)).bind fun (r4 : Int × Bool × Unit) =>
    (q N r4.1).bind fun (r5 : Bool) =>
    (qa0 N r5).bind fun (r6 : q00) =>
    some (r6, 0, ())
    else none
    else none
 else
  (q86 N [x, y]).bind fun (r7 : Bool) =>
  bif r7 then
   some ((0, 0, [], ()), 0, ())
  else
   bif inR 0 [x, y].length then
   bif inR 1 [x, y].length then
   (q98 N (q25 [x, y] 0 q32) (q25 [x, y] 1 q32)).bind fun (r8 : Int × Bool × Unit) =>
   (q N r8.1).bind fun (r9 : Bool) =>
   (qa0 N r9).bind fun (r10 : q00) =>
   some (r10, 0, ())
   else none
   else none) = some (uz2 p x y) := by
 have e0 : inR 0 [x, y].length = true := rfl
 have e1 : inR 1 [x, y].length = true := rfl
 have n0 : q25 [x, y] 0 q32 = x := rfl
 have n1 : q25 [x, y] 1 q32 = y := rfl
 have hf : ∀ a b, qb3 N a b [x, y] = some (zn7 a b [x, y]) := fun a b => k17 N a b _ (by simp) (by simp; omega)
 simp only [hf, Option.bind_some, yx4 hN, e0, e1, cond_true, n0, n1, jg0 N (by omega) x y hx hy, hq, qh1, fail_is]
 unfold uz2
 cases zn7 1 2 [x, y] <;> cases zn7 3 3 [x, y] <;> cases yo9 [x, y] <;> rfl
theorem order_lt (x y : q00) (hx : I64 x.2.1) (hy : I64 y.2.1) : qt1 N [x, y] = some (uz2 (fun c => decide (c < 0)) x y) := j85 hN _ wl2 (fun _ => rfl) x y hx hy
theorem order_le (x y : q00) (hx : I64 x.2.1) (hy : I64 y.2.1) : qi6 N [x, y] = some (uz2 (fun c => decide (c ≤ 0)) x y) := j85 hN _ wk4 (fun _ => rfl) x y hx hy
theorem order_gt (x y : q00) (hx : I64 x.2.1) (hy : I64 y.2.1) : qi5 N [x, y] = some (uz2 (fun c => decide (c > 0)) x y) := j85 hN _ wi8 (fun _ => rfl) x y hx hy
theorem order_ge (x y : q00) (hx : I64 x.2.1) (hy : I64 y.2.1) : qi7 N [x, y] = some (uz2 (fun c => decide (c ≥ 0)) x y) := j85 hN _ wj5 (fun _ => rfl) x y hx hy
end
def zs4 (r : q00 × Int × Unit) : q03 := if r.2.1 ≠ 0 then kt9 r.2.1 else zo5 r.1
theorem zu1 (N : Nat) (v : q00) (e : Int) : qd1 N v e = some (zs4 (v, e, ())) := by
 unfold qd1 zs4
 by_cases h : e = 0
 ·simp [h, zo5]
 ·have h' : (e != 0) = true := by simpa using h
  simp only [h', cond_true]
  rw [if_pos h]; rfl
def zn8 (k : Int) (l : List q00) (G : q03) : q03 := if zn7 k k l = false then kt9 8 else if yo9 l = true then zo5 (0, 0, [], ()) else G
def headF (s p : List UInt8) : Bool := if s.length ≥ p.length then s.take p.length == p else false
def modE (a b : Int) : Int × Int × Unit := if b = 0 then (0, 10, ()) else yr1 (a.tmod b)
def negV (v : q00) : q00 × Int × Unit := doS gSub gSub (vk4 (iMin v.1 2) 1, 0, [], ()) v
def absF (v : q00) : q03 := if zn7 1 2 [v] = false then kt9 8 else if v.2.1 < 0 then zs4 (negV v) else zo5 v
theorem zd5 (v : Int) : I64 (yr1 v).1 := by
 unfold yr1
 split
 ·rename_i h; exact h
 ·exact ⟨by simp, by simp⟩
section
variable {N : Nat} (hN : 100 ≤ N)
include hN
theorem ki0 (x : q00) : q86 N [x] = some (yo9 [x]) := uv8 N _ (by simp) (by simp; omega)
theorem fits1' (a b : Int) (x : q00) : qb3 N a b [x] = some (zn7 a b [x]) := k17 N a b _ (by simp) (by simp; omega)
theorem fits2' (a b : Int) (x y : q00) : qb3 N a b [x, y] = some (zn7 a b [x, y]) := k17 N a b _ (by simp) (by simp; omega)
theorem has_is (x y : q00) (hx : x.2.2.1.length ≤ 4294967280) : qn2 N [x, y] 3 = some (zn8 3 [x, y] (zo5 (z56 (Lib.contains x.2.2.1 y.2.2.1)))) := by
 unfold qn2 zn8
 rw [fits2' hN, Option.bind_some]
 cases zn7 3 3 [x, y]
 ·rfl
 ·simp only [yx4 hN, Option.bind_some]
  cases yo9 [x, y]
  ·unfold zd6 wc4
   have e0 : inR 0 [x, y].length = true := rfl
   have e1 : inR 1 [x, y].length = true := rfl
   have n0 : q25 [x, y] 0 q32 = x := rfl
   have n1 : q25 [x, y] 1 q32 = y := rfl
   have hb : Nat.blt x.2.2.1.length 4294967281 = true := by rw [Nat.blt_eq]; omega
   simp only [e0, e1, n0, n1, hb, cond_true, Option.bind_some, qh1]
   rfl
  ·rfl
theorem starts_is (x y : q00) : qg9 N [x, y] 3 = some (zn8 3 [x, y] (zo5 (z56 (headF x.2.2.1 y.2.2.1)))) := by
 unfold qg9 zn8
 rw [fits2' hN, Option.bind_some]
 cases zn7 3 3 [x, y]
 ·rfl
 ·simp only [yx4 hN, Option.bind_some]
  cases yo9 [x, y]
  ·unfold zd9 w47 qn3 headF
   have e0 : inR 0 [x, y].length = true := rfl
   have e1 : inR 1 [x, y].length = true := rfl
   have n0 : q25 [x, y] 0 q32 = x := rfl
   have n1 : q25 [x, y] 1 q32 = y := rfl
   simp only [e0, e1, n0, n1, cond_true]
   by_cases h : x.2.2.1.length ≥ y.2.2.1.length
   ·have h' : (x.2.2.1.length : Int) ≥ (y.2.2.1.length : Int) := by omega
    rw [decide_eq_true h', cond_true, upToT (by omega) (by omega), cond_true, if_pos h]
    simp only [Option.bind_some, qh1, Int.toNat_natCast]
    rfl
   ·have h' : ¬ (x.2.2.1.length : Int) ≥ (y.2.2.1.length : Int) := by omega
    rw [decide_eq_false h', cond_false, if_neg h]
    simp only [Option.bind_some, qh1]
    rfl
  ·rfl
omit hN in
theorem k87 (N : Nat) {a b : Int} (ha : I64 a) (hb : I64 b) : v91 N a b = some (modE a b) := by
 unfold v91 modE
 by_cases h : b = 0
 ·simp [h]
 ·have h' : (b == 0) = false := by simpa using h
  rw [h', cond_false, qu1 N ha, Option.bind_some, qu1 N hb, Option.bind_some, decide_eq_true (show (b.natAbs : Int) ≠ 0 by omega), cond_true, if_neg h]
  have e : Int.tmod (a.natAbs : Int) (b.natAbs : Int) = ((a.natAbs % b.natAbs : Nat) : Int) := by rw [Int.tmod_eq_emod_of_nonneg (by omega)]; rfl
  have h1 : a.natAbs % b.natAbs ≤ a.natAbs := Nat.mod_le _ _
  rw [e, wi7 N (by omega) (by omega) (by have := ha.1; have := ha.2; omega)]
  rw [Int.zero_mul, Int.zero_add, kf5]
  rfl
theorem mod_is (x y : q00) (hx : I64 x.2.1) (hy : I64 y.2.1) : qg7 N [x, y] 1 = some (zn8 1 [x, y] (zs4 ((1, (modE x.2.1 y.2.1).1, [], ()), (modE x.2.1 y.2.1).2.1, ()))) := by
 unfold qg7 zn8
 rw [fits2' hN, Option.bind_some]
 cases zn7 1 1 [x, y]
 ·rfl
 ·simp only [yx4 hN, Option.bind_some]
  cases yo9 [x, y]
  ·unfold xx7
   have e0 : inR 0 [x, y].length = true := rfl
   have e1 : inR 1 [x, y].length = true := rfl
   have n0 : q25 [x, y] 0 q32 = x := rfl
   have n1 : q25 [x, y] 1 q32 = y := rfl
   simp only [e0, e1, n0, n1, cond_true, k87 N hx hy, Option.bind_some, zj1, zu1, cond_false]
   rfl
  ·rfl
theorem len_is (x : q00) : qg8 N [x] 3 = some (zn8 3 [x] (zo5 (1, (x.2.2.1.length : Int), [], ()))) := by
 unfold qg8 zn8
 rw [fits1' hN, Option.bind_some]
 cases zn7 3 3 [x]
 ·rfl
 ·simp only [ki0 hN, Option.bind_some]
  cases yo9 [x] <;> rfl
theorem up_is (x : q00) (hx : x.2.2.1.length ≤ 4294967280) : qg3 N [x] 3 = some (zn8 3 [x] (zo5 (3, 0, x.2.2.1.map Abs.Upper.upB, ()))) := by
 unfold qg3 zn8
 rw [fits1' hN, Option.bind_some]
 cases zn7 3 3 [x]
 ·rfl
 ·simp only [ki0 hN, Option.bind_some]
  cases yo9 [x]
  ·have hb : Nat.ble x.2.2.1.length 9223372036854775807 = true := by rw [Nat.ble_eq]; omega
   unfold y49
   simp only [hb, cond_true, cond_false]
   rfl
  ·rfl
theorem neg_is (x : q00) (hx : I64 x.2.1) : zx1 N x = some (negV x) := by
 unfold zx1
 rw [xo1 N (by omega) _ x ⟨by simp, by simp⟩ hx]
 rfl
theorem abs_is (x : q00) (hx : I64 x.2.1) : y52 N [x] = some (absF x) := by
 unfold y52 absF
 rw [fits1' hN, Option.bind_some]
 have e0 : inR 0 [x].length = true := rfl
 have n0 : q25 [x] 0 q32 = x := rfl
 cases zn7 1 2 [x]
 ·rfl
 ·simp only [e0, n0, cond_true, Bool.not_true, cond_false, neg_is hN x hx, Option.bind_some, zu1]
  by_cases h : x.2.1 < 0 <;> simp [h, zo5, zs4]
end
def xr1 (l : List q00) : Int := l.foldl (fun k v => vk4 k v.1) 1
structure k61 (l : List q00) (r : (List q00) × Bool × Int × Unit) : Prop where
 null : r.2.1 = true → r.2.2.1 = 0 ∧ ∃ v ∈ l, v.1 = 0
 err : r.2.2.1 ≠ 0 → r.2.2.1 = 9 ∨ (r.2.2.1 = 8 ∧ ∃ v ∈ l, ¬ (v.1 = 0 ∨ v.1 = 1 ∨ v.1 = 2))
 ok : r.2.1 = false → r.2.2.1 = 0 → r.1.length = l.length ∧ (∀ v ∈ l, v.1 = 1 ∨ v.1 = 2) ∧ ∀ v ∈ r.1, v.1 = xr1 l ∧ I64 v.2.1 ∧ v.2.2.1 = []
theorem zz1 {α : Type} (l : List α) (k : Nat) (h : k < l.length) : l.take (k + 1) = l.take k ++ [l[k]] := by rw [List.take_add_one]; simp [h]
theorem kp5 (l : List q00) (v : q00) : xr1 (l ++ [v]) = vk4 (xr1 l) v.1 := by unfold xr1; rw [List.foldl_append]; rfl
theorem isNumber_is (N : Nat) (v : q00) : q77 N v = some (decide (v.1 = 1 ∨ v.1 = 2)) := q74 N v
section
variable {N : Nat} (hN : 100 ≤ N) {l : List q00} (hl : l.length ≤ 1000000) (hlN : l.length < N) (hi : ∀ v ∈ l, I64 v.2.1)
include hN hl hlN hi
theorem k56 : Tells (qa2 N l) (k61 l) := by
 unfold qa2 qo3
 refine Tells.iter (fun (e : Bool × Int × Int) => ∃ k : Nat, e.2.2 = k ∧ k ≤ l.length ∧ e.2.1 = xr1 (l.take k) ∧ (∀ v ∈ l.take k, v.1 = 0 ∨ v.1 = 1 ∨ v.1 = 2) ∧ (e.1 = true ↔ ∃ v ∈ l.take k, v.1 = 0)) (fun (e : Bool × Int × Int) => l.length - e.2.2.toNat) ?_ N _ ⟨0, rfl, by omega, rfl, by simp, by simp⟩ (by simpa using hlN)
 rintro K ⟨nul, kind, i⟩ ⟨k, e1, k1, k2, k3, k4⟩ hK
 dsimp only at e1 k1 k2 k3 k4 hK
 subst e1
 unfold qa4 qa1
 dsimp only
 refine Tells.dec (fun c => ?_) (fun c => ?_)
 ·have hk : k < l.length := by omega
  have ht := zz1 l k hk
  rw [qu5 hk]
  have next : (l[k].1 = 0 ∨ l[k].1 = 1 ∨ l[k].1 = 2) → Tells (bif nul then bif q27 ((k : Int) + 1) then K (true, vk4 kind l[k].1, (k : Int) + 1) else none
    else bif q27 ((k : Int) + 1) then K (l[k].1 == 0, vk4 kind l[k].1, (k : Int) + 1) else none) (k61 l) := fun h => by
   have all' : ∀ v ∈ l.take (k + 1), v.1 = 0 ∨ v.1 = 1 ∨ v.1 = 2 := fun v hv => by
    rw [ht] at hv
    rcases List.mem_append.1 hv with h1 | h1
    ·exact k3 v h1
    ·simp at h1; subst h1; exact h
   have kk : vk4 kind l[k].1 = xr1 (l.take (k + 1)) := by rw [ht, kp5, k2]
   refine Tells.ite (fun c2 => Tells.ok (inI (by omega) (by omega)) (hK _ ⟨k + 1, by dsimp only; omega, by omega, kk, all', ?_⟩ (by dsimp only; omega))) (fun c2 => Tells.ok (inI (by omega) (by omega)) (hK _ ⟨k + 1, by dsimp only; omega, by omega, kk, all', ?_⟩ (by dsimp only; omega)))
   ·refine ⟨fun _ => ?_, fun _ => rfl⟩
    obtain ⟨v, h1, h2⟩ := k4.1 c2
    exact ⟨v, by rw [ht]; exact List.mem_append_left _ h1, h2⟩
   ·dsimp only
    rw [ht]
    refine ⟨fun h1 => ⟨l[k], List.mem_append_right _ (List.mem_singleton.2 rfl), by simpa using h1⟩, ?_⟩
    rintro ⟨v, h1, h2⟩
    rcases List.mem_append.1 h1 with h1 | h1
    ·have := k4.2 ⟨v, h1, h2⟩
     rw [c2] at this; cases this
    ·simp at h1; subst h1; simpa using h2
  refine Tells.ok (w58 (by omega) (by omega)) ?_
  rw [q74, Option.bind_some]
  refine Tells.ite (fun c2 => ?_) (fun c2 => next ?_)
  ·have c2 : ¬ (l[k].1 = 1 ∨ l[k].1 = 2) := by simpa using c2
   refine Tells.ite (fun c3 => Tells.some ⟨fun h => (by cases h), fun _ => .inr ⟨rfl, l[k], List.getElem_mem hk, ?_⟩, fun _ h => (by cases h)⟩) (fun c3 => next ?_)
   ·have c3 : l[k].1 ≠ 0 := by simpa using c3
    omega
   ·have c3 : l[k].1 = 0 := by simpa using c3
    exact .inl c3
  ·have c2 : l[k].1 = 1 ∨ l[k].1 = 2 := of_decide_eq_true (by simpa only [Bool.not_eq_false'] using c2)
   omega
 ·have hk : k = l.length := by omega
  subst hk
  rw [List.take_length] at k2 k3 k4
  refine Tells.ite (fun c2 => Tells.some ⟨fun _ => ⟨rfl, k4.1 c2⟩, fun h => absurd rfl h, fun h => (by cases h)⟩) (fun c2 => ?_)
  have nums : ∀ v ∈ l, v.1 = 1 ∨ v.1 = 2 := fun v hv => by
   rcases k3 v hv with h | h | h
   ·have := k4.2 ⟨v, hv, h⟩
    rw [c2] at this; cases this
   ·exact .inl h
   ·exact .inr h
  refine Tells.iter (fun (e : List q00 × Int) => ∃ k : Nat, e.2 = k ∧ k ≤ l.length ∧ e.1.length = k ∧ ∀ v ∈ e.1, v.1 = xr1 l ∧ I64 v.2.1 ∧ v.2.2.1 = []) (fun (e : List q00 × Int) => l.length - e.2.toNat) ?_ N _ ⟨0, rfl, by omega, rfl, by simp⟩ (by simpa using hlN)
  rintro K2 ⟨out, i⟩ ⟨k, e1, g1, g2, g3⟩ hK2
  dsimp only at e1 g1 g2 g3 hK2
  subst e1
  unfold qp3
  dsimp only
  refine Tells.dec (fun c => ?_) (fun c => Tells.some ⟨fun h => (by cases h), fun h => absurd rfl h, fun _ _ => ⟨by dsimp only; omega, nums, g3⟩⟩)
  have hk : k < l.length := by omega
  rw [qu5 hk]
  have next : ∀ n : Int, I64 n → Tells (bif qz1 (out.length + ([(kind, n, [], ())] : List q00).length) 4398046511104 then bif q27 ((k : Int) + 1) then K2 ((out ++ ([(kind, n, [], ())] : List q00)), (k : Int) + 1) else none else none) (k61 l) := fun n hn => by
   refine Tells.ok (ya0 (by simp; omega)) (Tells.ok (inI (by omega) (by omega)) (hK2 _ ⟨k + 1, by dsimp only; omega, by omega, by simp; omega, fun v hv => ?_⟩ (by dsimp only; omega)))
   rcases List.mem_append.1 hv with h1 | h1
   ·exact g3 v h1
   ·simp at h1; subst h1; exact ⟨k2, hn, rfl⟩
  refine Tells.ok (w58 (by omega) (by omega)) (Tells.ite (fun c3 => ?_) (fun c3 => next _ (hi _ (List.getElem_mem hk))))
  obtain ⟨x, e, h1, h2, h3⟩ := dec_is N l[k] (hi _ (List.getElem_mem hk)) (nums _ (List.getElem_mem hk))
  rw [h1, Option.bind_some]
  refine Tells.ite (fun c4 => Tells.some ⟨fun h => (by cases h), fun h => .inl ?_, fun _ h => absurd h (by simpa using c4)⟩) (fun c4 => ?_)
  ·by_cases hw : I64 (qi8 l[k])
   ·exact absurd (h2 hw).1 h
   ·exact h3 hw
  ·have c4 : e = 0 := by simpa using c4
   by_cases hw : I64 (qi8 l[k])
   ·dsimp only
    rw [(h2 hw).2]
    exact next _ hw
   ·have := h3 hw; omega
structure ka6 (l : List q00) (r : q00 × Int × Unit) : Prop where
 err : r.2.1 ≠ 0 → r.1 = (0, 0, [], ()) ∧ (r.2.1 = 9 ∨ (r.2.1 = 8 ∧ ∃ v ∈ l, ¬ (v.1 = 0 ∨ v.1 = 1 ∨ v.1 = 2)))
 ok : r.2.1 = 0 → (r.1 = (0, 0, [], ()) ∧ (l = [] ∨ ∃ v ∈ l, v.1 = 0)) ∨ ((∀ v ∈ l, v.1 = 1 ∨ v.1 = 2) ∧ r.1.1 = xr1 l ∧ I64 r.1.2.1 ∧ r.1.2.2.1 = [])
theorem k94 (c : Int) : Tells (qf6 N c l) (ka6 l) := by
 unfold qf6 jb5
 refine Tells.bind (k56 hN hl hlN hi) fun r hr => ?_
 obtain ⟨xs, nul, e, _⟩ := r
 obtain ⟨h1, h2, h3⟩ := hr
 dsimp only at h1 h2 h3 ⊢
 refine Tells.ite (fun c1 => Tells.some ?_) (fun c1 => Tells.ite (fun c2 => Tells.some ?_) (fun c2 => ?_))
 ·obtain ⟨g1, g2⟩ := h1 c1
  exact ⟨fun h => absurd g1 h, fun _ => .inl ⟨rfl, .inr g2⟩⟩
 ·have c2 : e ≠ 0 := by simpa using c2
  exact ⟨fun _ => ⟨rfl, h2 c2⟩, fun h => absurd h c2⟩
 ·have c2 : e = 0 := by simpa using c2
  obtain ⟨g1, g2, g3⟩ := h3 c1 c2
  refine Tells.ite (fun c3 => Tells.some ⟨fun h => absurd c2 h, fun _ => .inl ⟨rfl, .inl ?_⟩⟩) (fun c3 => ?_)
  ·have c3 : xs.length = 0 := by simpa using c3
   exact List.eq_nil_of_length_eq_zero (by omega)
  ·have c3 : xs.length ≠ 0 := by simpa using c3
   refine Tells.ok (w58 (by omega) (by omega)) ?_
   have fin : ∀ v : q00, v.1 = xr1 l ∧ I64 v.2.1 ∧ v.2.2.1 = [] → ka6 l (v, 0, ()) := fun v hv => ⟨fun h => absurd rfl h, fun _ => .inr ⟨g2, hv⟩⟩
   refine Tells.iter (fun (e : Int × Int × Int × List UInt8) => 0 ≤ e.1 ∧ e.1 ≤ xs.length ∧ e.2.1 = xr1 l ∧ I64 e.2.2.1 ∧ e.2.2.2 = []) (fun (e : Int × Int × Int × List UInt8) => xs.length - e.1.toNat) ?_ N _ ?_ (by dsimp only; omega)
   ·rintro K ⟨i, k, n, s⟩ ⟨k1, k2, k3, k4, k5⟩ hK
    dsimp only at k1 k2 k3 k4 k5 hK
    unfold zu2
    dsimp only
    refine Tells.dec (fun c => ?_) (fun c => Tells.some (fin _ ⟨k3, k4, k5⟩))
    have hx := g3 _ (zq3 (d := q32) k1 c)
    rw [z74, Option.bind_some]
    refine Tells.ok (w58 (by omega) (by omega)) (Tells.ite (fun _ => Tells.ok (inI (by omega) (by omega)) (hK _ ⟨by dsimp only; omega, by dsimp only; omega, hx⟩ (by dsimp only; omega))) (fun _ => Tells.ok (inI (by omega) (by omega)) (hK _ ⟨by dsimp only; omega, by dsimp only; omega, k3, k4, k5⟩ (by dsimp only; omega))))
   ·exact ⟨by simp, by simp, g3 _ (zq3 (d := q32) (by omega) (by omega))⟩
end
end Go.Proofs.YtgicljncknbgcaaGreat.Abs
