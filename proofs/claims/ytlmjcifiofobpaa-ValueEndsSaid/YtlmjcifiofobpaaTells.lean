/- num's calls in the form that the laws take them: two numbers, of which something is known. -/
import Derived.Test.YtlmjcifiofobpaaDecimals
namespace Go.Proofs.Ytlmjcifiofobpaa
open Go.ChangeShapes Go.WideShapes Go.ChangeAt Go.RowKit
set_option linter.unusedVariables false
set_option linter.unusedSimpArgs false

/-- function f, called so, tells the two numbers, and leaves old memory alone -/
def Tells (f : Nat) (args : Array Value) (v e : Int) : Prop :=
  ∀ w : World, Calls Try.prog f args w fun x w' => x = .returned (.tuple #[.int .i64 v, .int .i64 e]) ∧ Below w.heap.size w w'
theorem Tells.of_same {f : Nat} {args : Array Value} {v : Int} (h : ∀ w : World, Calls Try.prog f args w fun x w' => x = .returned (ans v) ∧ w = w') : Tells f args (toldV v) (toldE v) :=
  fun w => (h w).mono fun x w' ⟨h1, h2⟩ => ⟨h1, by rw [← h2]; exact Below.refl _ _⟩
theorem Tells.of_below {f : Nat} {args : Array Value} {v : Int} (h : ∀ w : World, Calls Try.prog f args w fun x w' => x = .returned (ans v) ∧ Below w.heap.size w w') : Tells f args (toldV v) (toldE v) := h
theorem Tells.of_pair {f : Nat} {args : Array Value} {v e : Int} (h : ∀ w : World, Calls Try.prog f args w fun x w' => x = .returned (.tuple #[.int .i64 v, .int .i64 e]) ∧ w = w') : Tells f args v e :=
  fun w => (h w).mono fun x w' ⟨h1, h2⟩ => ⟨h1, by rw [← h2]; exact Below.refl _ _⟩
theorem toldV_in {v : Int} (h : I64 v) : toldV v = v := by unfold toldV; exact if_pos h
theorem toldE_in {v : Int} (h : I64 v) : toldE v = 0 := by unfold toldE; exact if_pos h
theorem toldV_out {v : Int} (h : ¬ I64 v) : toldV v = 0 := by unfold toldV; exact if_neg h
theorem toldE_out {v : Int} (h : ¬ I64 v) : toldE v = 9 := by unfold toldE; exact if_neg h
theorem Tells.inside {f : Nat} {args : Array Value} {v : Int} (h : Tells f args (toldV v) (toldE v)) (hv : I64 v) : Tells f args v 0 := by rw [toldV_in hv, toldE_in hv] at h; exact h
theorem Tells.outside {f : Nat} {args : Array Value} {v : Int} (h : Tells f args (toldV v) (toldE v)) (hv : ¬ I64 v) : Tells f args 0 9 := by rw [toldV_out hv, toldE_out hv] at h; exact h

section
variable (a b : Int) (ha : I64 a) (hb : I64 b)
include ha hb
theorem add_tells : Tells 17 #[.int .i64 a, .int .i64 b] (toldV (a + b)) (toldE (a + b)) := .of_same fun w => add_calls a b w ha hb
theorem sub_tells : Tells 19 #[.int .i64 a, .int .i64 b] (toldV (a - b)) (toldE (a - b)) := .of_same fun w => sub_calls a b w ha hb
theorem mul_tells : Tells 18 #[.int .i64 a, .int .i64 b] (toldV (a * b)) (toldE (a * b)) := .of_same fun w => mul_calls a b w ha hb
theorem quo_tells (h0 : b ≠ 0) : Tells 20 #[.int .i64 a, .int .i64 b] (toldV (a.tdiv b)) (toldE (a.tdiv b)) := .of_same fun w => quo_calls a b w ha hb h0
theorem mod_tells (h0 : b ≠ 0) : Tells 21 #[.int .i64 a, .int .i64 b] (toldV (a.tmod b)) (toldE (a.tmod b)) := .of_same fun w => mod_calls a b w ha hb h0
theorem muldec_tells : Tells 13 #[.int .i64 a, .int .i64 b] (toldV (overV a b 10000)) (toldE (overV a b 10000)) := .of_below fun w => muldec_calls a b w ha hb
theorem divdec_tells (h0 : b ≠ 0) : Tells 14 #[.int .i64 a, .int .i64 b] (toldV (overV a 10000 b)) (toldE (overV a 10000 b)) := .of_below fun w => divdec_calls a b w ha hb h0
end
theorem scale_tells (a : Int) (ha : I64 a) : Tells 16 #[.int .i64 a] (toldV (a * 10000)) (toldE (a * 10000)) := .of_same fun w => scale_calls a w ha
theorem quo_tells0 (a : Int) : Tells 20 #[.int .i64 a, .int .i64 0] 0 10 := .of_pair (quo_zero a)
theorem mod_tells0 (a : Int) : Tells 21 #[.int .i64 a, .int .i64 0] 0 10 := .of_pair (mod_zero a)
theorem divdec_tells0 (a : Int) : Tells 14 #[.int .i64 a, .int .i64 0] 0 10 := .of_pair (divdec_zero a)

theorem known_calls (w : World) : Calls Try.prog 15 #[] w fun e w' => e = .returned (.bool true) ∧ Below w.heap.size w w' := by
  have k1 := hide (show Tells 20 #[.int .i64 (-7), .int .i64 2] (-3) 0 from quo_tells (-7) 2 (by unfold I64; omega) (by unfold I64; omega) (by omega))
  have k2 := hide (show Tells 21 #[.int .i64 (-7), .int .i64 2] (-1) 0 from mod_tells (-7) 2 (by unfold I64; omega) (by unfold I64; omega) (by omega))
  have k3 := hide (show Tells 13 #[.int .i64 15000, .int .i64 1] 2 0 from muldec_tells 15000 1 (by unfold I64; omega) (by unfold I64; omega))
  have k4 := hide (show Tells 14 #[.int .i64 10000, .int .i64 30000] 3333 0 from divdec_tells 10000 30000 (by unfold I64; omega) (by unfold I64; omega) (by omega))
  have k5 := hide (show Tells 20 #[.int .i64 (-9223372036854775808), .int .i64 (-1)] 0 9 from quo_tells (-9223372036854775808) (-1) (by unfold I64; omega) (by unfold I64; omega) (by omega))
  go_enter Try.func15, Try.ntmps15
  go_wp2_with fail
  refine (k1.out _).mono ?_
  rintro e w1 ⟨rfl, hb1⟩
  go_wp2_with fail
  refine (k2.out _).mono ?_
  rintro e w2 ⟨rfl, hb2⟩
  go_wp2_with fail
  refine (k3.out _).mono ?_
  rintro e w3 ⟨rfl, hb3⟩
  go_wp2_with fail
  refine (k4.out _).mono ?_
  rintro e w4 ⟨rfl, hb4⟩
  go_wp2_with fail
  refine (k5.out _).mono ?_
  rintro e w5 ⟨rfl, hb5⟩
  go_wp2_with fail
  go_ret
  exact ⟨rfl, (((hb1.trans (hb2.mono hb1.size)).trans (hb3.mono (Nat.le_trans hb1.size hb2.size))).trans (hb4.mono (Nat.le_trans hb1.size (Nat.le_trans hb2.size hb3.size)))).trans (hb5.mono (Nat.le_trans hb1.size (Nat.le_trans hb2.size (Nat.le_trans hb3.size hb4.size))))⟩
end Go.Proofs.Ytlmjcifiofobpaa
