/- The contracts of package num: what each function returns, as plain numbers. -/
import Derived.Test.YtlmjcifiofobpaaDivide
import Derived.BigQuiet
namespace Go.Proofs.Ytlmjcifiofobpaa
open Go.ChangeShapes Go.WideShapes Go.ChangeAt Go.RowKit
set_option linter.unusedVariables false
set_option linter.unusedSimpArgs false

def I64 (n : Int) : Prop := -9223372036854775808 ≤ n ∧ n ≤ 9223372036854775807
theorem I64.nat {n : Int} (h : I64 n) : n.natAbs < 18446744073709551616 := by unfold I64 at h; omega

theorem mul64_calls (x y : Nat) (w : World) (hx : x < 18446744073709551616) (hy : y < 18446744073709551616) :
    Calls Try.prog 50 #[.int .u64 x, .int .u64 y] w fun e w' => e = .returned (.tuple #[.int .u64 ((x * y / 18446744073709551616 : Nat) : Int), .int .u64 ((x * y % 18446744073709551616 : Nat) : Int)]) ∧ w = w' :=
  (Try.bits_Mul64 x y hx hy w).mono fun _ _ h => ⟨h.1, h.2.symm⟩


theorem add_calls (a b : Int) (w : World) (ha : I64 a) (hb : I64 b) : Calls Try.prog 17 #[.int .i64 a, .int .i64 b] w fun e w' => e = .returned (ans (a + b)) ∧ w = w' := by
  unfold I64 at ha hb
  obtain ⟨a1, a2⟩ := ha
  obtain ⟨b1, b2⟩ := hb
  by_cases h1 : a + b < -9223372036854775808
  · have hw : decide (wrap64 (a + b) < 0) = false := by unfold wrap64; simp; omega
    have h2 : a < 0 := by omega
    have h3 : b < 0 := by omega
    go_enter Try.func17, Try.ntmps17
    go_wp2
    go_ret2
    exact ⟨ans_out' _ (by omega), rfl⟩
  · by_cases h2 : 9223372036854775807 < a + b
    · have hw : wrap64 (a + b) < 0 := by unfold wrap64; omega
      have h2 : decide (a < 0) = false := by simp; omega
      have h3 : decide (b < 0) = false := by simp; omega
      go_enter Try.func17, Try.ntmps17
      go_wp2
      go_ret2
      exact ⟨ans_out' _ (by omega), rfl⟩
    · by_cases h3 : a < 0
      · by_cases h4 : b < 0
        · by_cases h5 : a + b < 0
          all_goals first
            | (exfalso; omega)
            | (go_enter Try.func17, Try.ntmps17; go_wp2; go_ret2; exact ⟨ans_in' _ _ rfl (by omega) (by omega), rfl⟩)
        · by_cases h5 : a + b < 0
          all_goals first
            | (exfalso; omega)
            | (go_enter Try.func17, Try.ntmps17; go_wp2; go_ret2; exact ⟨ans_in' _ _ rfl (by omega) (by omega), rfl⟩)
      · by_cases h4 : b < 0
        · by_cases h5 : a + b < 0
          all_goals first
            | (exfalso; omega)
            | (go_enter Try.func17, Try.ntmps17; go_wp2; go_ret2; exact ⟨ans_in' _ _ rfl (by omega) (by omega), rfl⟩)
        · by_cases h5 : a + b < 0
          all_goals first
            | (exfalso; omega)
            | (go_enter Try.func17, Try.ntmps17; go_wp2; go_ret2; exact ⟨ans_in' _ _ rfl (by omega) (by omega), rfl⟩)

theorem sub_calls (a b : Int) (w : World) (ha : I64 a) (hb : I64 b) : Calls Try.prog 19 #[.int .i64 a, .int .i64 b] w fun e w' => e = .returned (ans (a - b)) ∧ w = w' := by
  unfold I64 at ha hb
  obtain ⟨a1, a2⟩ := ha
  obtain ⟨b1, b2⟩ := hb
  by_cases h1 : a - b < -9223372036854775808
  · have hw : decide (wrap64 (a - b) < 0) = false := by unfold wrap64; simp; omega
    have h2 : a < 0 := by omega
    have h3 : decide (b < 0) = false := by simp; omega
    go_enter Try.func19, Try.ntmps19
    go_wp2
    go_ret2
    exact ⟨ans_out' _ (by omega), rfl⟩
  · by_cases h2 : 9223372036854775807 < a - b
    · have hw : wrap64 (a - b) < 0 := by unfold wrap64; omega
      have h2 : decide (a < 0) = false := by simp; omega
      have h3 : b < 0 := by omega
      go_enter Try.func19, Try.ntmps19
      go_wp2
      go_ret2
      exact ⟨ans_out' _ (by omega), rfl⟩
    · by_cases h3 : a < 0
      · by_cases h4 : b < 0
        · by_cases h5 : a - b < 0
          all_goals first
            | (exfalso; omega)
            | (go_enter Try.func19, Try.ntmps19; go_wp2; go_ret2; exact ⟨ans_in' _ _ rfl (by omega) (by omega), rfl⟩)
        · by_cases h5 : a - b < 0
          all_goals first
            | (exfalso; omega)
            | (go_enter Try.func19, Try.ntmps19; go_wp2; go_ret2; exact ⟨ans_in' _ _ rfl (by omega) (by omega), rfl⟩)
      · by_cases h4 : b < 0
        · by_cases h5 : a - b < 0
          all_goals first
            | (exfalso; omega)
            | (go_enter Try.func19, Try.ntmps19; go_wp2; go_ret2; exact ⟨ans_in' _ _ rfl (by omega) (by omega), rfl⟩)
        · by_cases h5 : a - b < 0
          all_goals first
            | (exfalso; omega)
            | (go_enter Try.func19, Try.ntmps19; go_wp2; go_ret2; exact ⟨ans_in' _ _ rfl (by omega) (by omega), rfl⟩)

theorem sgn_mul (a b : Int) (n : Int) (hn : n = ((a.natAbs * b.natAbs : Nat) : Int)) : sgn (decide (a < 0) != decide (b < 0)) n = a * b := by
  subst hn
  rw [Int.natCast_mul]
  by_cases ha : a < 0 <;> by_cases hb : b < 0 <;> simp only [ha, hb, sgn, decide_true, decide_false, bne_self_eq_false, Bool.false_eq_true, if_false, if_true, bne_iff_ne, ne_eq, not_false_eq_true, reduceCtorEq, Bool.true_bne, Bool.false_bne, Bool.not_false, Bool.not_true]
  · rw [show ((a.natAbs : Nat) : Int) = -a by omega, show ((b.natAbs : Nat) : Int) = -b by omega, Int.neg_mul_neg]
  · rw [show ((a.natAbs : Nat) : Int) = -a by omega, show ((b.natAbs : Nat) : Int) = b by omega, Int.neg_mul, Int.neg_neg]
  · rw [show ((a.natAbs : Nat) : Int) = a by omega, show ((b.natAbs : Nat) : Int) = -b by omega, Int.mul_neg, Int.neg_neg]
  · rw [show ((a.natAbs : Nat) : Int) = a by omega, show ((b.natAbs : Nat) : Int) = b by omega]
theorem sgn_tdiv (a b : Int) : sgn (decide (a < 0) != decide (b < 0)) ((a.natAbs / b.natAbs : Nat) : Int) = a.tdiv b := by
  by_cases ha : a < 0 <;> by_cases hb : b < 0 <;> simp only [ha, hb, sgn, decide_true, decide_false, bne_self_eq_false, Bool.false_eq_true, if_false, if_true, bne_iff_ne, ne_eq, not_false_eq_true, reduceCtorEq, Bool.true_bne, Bool.false_bne, Bool.not_false, Bool.not_true]
  · obtain ⟨x, rfl⟩ : ∃ x : Nat, a = -(x : Int) := ⟨a.natAbs, by omega⟩
    obtain ⟨y, rfl⟩ : ∃ y : Nat, b = -(y : Int) := ⟨b.natAbs, by omega⟩
    rw [Int.neg_tdiv_neg, Int.natAbs_neg, Int.natAbs_neg]; rfl
  · obtain ⟨x, rfl⟩ : ∃ x : Nat, a = -(x : Int) := ⟨a.natAbs, by omega⟩
    obtain ⟨y, rfl⟩ : ∃ y : Nat, b = (y : Int) := ⟨b.natAbs, by omega⟩
    rw [Int.neg_tdiv, Int.natAbs_neg]; rfl
  · obtain ⟨x, rfl⟩ : ∃ x : Nat, a = (x : Int) := ⟨a.natAbs, by omega⟩
    obtain ⟨y, rfl⟩ : ∃ y : Nat, b = -(y : Int) := ⟨b.natAbs, by omega⟩
    rw [Int.tdiv_neg, Int.natAbs_neg]; rfl
  · obtain ⟨x, rfl⟩ : ∃ x : Nat, a = (x : Int) := ⟨a.natAbs, by omega⟩
    obtain ⟨y, rfl⟩ : ∃ y : Nat, b = (y : Int) := ⟨b.natAbs, by omega⟩
    rfl
theorem sgn_tmod (a b : Int) : sgn (decide (a < 0)) ((a.natAbs % b.natAbs : Nat) : Int) = a.tmod b := by
  by_cases ha : a < 0 <;> simp only [ha, sgn, decide_true, decide_false, Bool.false_eq_true, if_false, if_true]
  · obtain ⟨x, rfl⟩ : ∃ x : Nat, a = -(x : Int) := ⟨a.natAbs, by omega⟩
    rw [Int.neg_tmod, Int.natAbs_neg]
    by_cases hb : b < 0
    · obtain ⟨y, rfl⟩ : ∃ y : Nat, b = -(y : Int) := ⟨b.natAbs, by omega⟩
      rw [Int.tmod_neg, Int.natAbs_neg]; rfl
    · obtain ⟨y, rfl⟩ : ∃ y : Nat, b = (y : Int) := ⟨b.natAbs, by omega⟩
      rfl
  · obtain ⟨x, rfl⟩ : ∃ x : Nat, a = (x : Int) := ⟨a.natAbs, by omega⟩
    by_cases hb : b < 0
    · obtain ⟨y, rfl⟩ : ∃ y : Nat, b = -(y : Int) := ⟨b.natAbs, by omega⟩
      rw [Int.tmod_neg, Int.natAbs_neg]; rfl
    · obtain ⟨y, rfl⟩ : ∃ y : Nat, b = (y : Int) := ⟨b.natAbs, by omega⟩
      rfl

theorem signedN_calls (neg : Bool) (hi lo : Nat) (w : World) (h : lo < 18446744073709551616) :
    Calls Try.prog 52 #[.bool neg, .int .u64 hi, .int .u64 lo] w fun e w' => e = .returned (ans (sgn neg ((hi * 18446744073709551616 + lo : Nat) : Int))) ∧ w = w' := by
  have := signed_calls neg hi lo w (by omega) (by omega) (by omega)
  rw [show ((hi * 18446744073709551616 + lo : Nat) : Int) = (hi : Int) * 18446744073709551616 + lo by omega]
  exact this

theorem mul_calls (a b : Int) (w : World) (ha : I64 a) (hb : I64 b) : Calls Try.prog 18 #[.int .i64 a, .int .i64 b] w fun e w' => e = .returned (ans (a * b)) ∧ w = w' := by
  have ha' := ha.nat
  have hb' := hb.nat
  unfold I64 at ha hb
  obtain ⟨a1, a2⟩ := ha
  obtain ⟨b1, b2⟩ := hb
  have hfin := hide (sgn_mul a b (((a.natAbs * b.natAbs / 18446744073709551616) * 18446744073709551616 + a.natAbs * b.natAbs % 18446744073709551616 : Nat) : Int) (by rw [Nat.div_add_mod']))
  go_enter Try.func18, Try.ntmps18
  go_wp2_with fail
  refine (size_calls _ _ a1 a2).mono ?_
  rintro e w' ⟨rfl, rfl⟩
  go_wp2_with fail
  refine (size_calls _ _ b1 b2).mono ?_
  rintro e w' ⟨rfl, rfl⟩
  go_wp2_with fail
  refine (mul64_calls _ _ _ ha' hb').mono ?_
  rintro e w' ⟨rfl, rfl⟩
  have hm : a.natAbs * b.natAbs % 18446744073709551616 < 18446744073709551616 := Nat.mod_lt _ (by omega)
  generalize a.natAbs * b.natAbs / 18446744073709551616 = hi at *
  generalize a.natAbs * b.natAbs % 18446744073709551616 = lo at *
  go_wp2_with fail
  refine (signedN_calls _ _ _ _ hm).mono ?_
  rintro e w' ⟨rfl, rfl⟩
  unfold ans
  go_wp2_with fail
  go_ret2
  exact ⟨by rw [← hfin.out]; rfl, rfl⟩

theorem quo_zero (a : Int) (w : World) : Calls Try.prog 20 #[.int .i64 a, .int .i64 0] w fun e w' => e = .returned (.tuple #[.int .i64 0, .int .i64 10]) ∧ w = w' := by
  go_enter Try.func20, Try.ntmps20
  go_wp2_with fail
  go_ret2
  exact ⟨rfl, rfl⟩
theorem mod_zero (a : Int) (w : World) : Calls Try.prog 21 #[.int .i64 a, .int .i64 0] w fun e w' => e = .returned (.tuple #[.int .i64 0, .int .i64 10]) ∧ w = w' := by
  go_enter Try.func21, Try.ntmps21
  go_wp2_with fail
  go_ret2
  exact ⟨rfl, rfl⟩
theorem divdec_zero (a : Int) (w : World) : Calls Try.prog 14 #[.int .i64 a, .int .i64 0] w fun e w' => e = .returned (.tuple #[.int .i64 0, .int .i64 10]) ∧ w = w' := by
  go_enter Try.func14, Try.ntmps14
  go_wp2_with fail
  go_ret2
  exact ⟨rfl, rfl⟩
theorem quo_calls (a b : Int) (w : World) (ha : I64 a) (hb : I64 b) (h0 : b ≠ 0) : Calls Try.prog 20 #[.int .i64 a, .int .i64 b] w fun e w' => e = .returned (ans (a.tdiv b)) ∧ w = w' := by
  have ha' := ha.nat
  have hb' := hb.nat
  unfold I64 at ha hb
  obtain ⟨a1, a2⟩ := ha
  obtain ⟨b1, b2⟩ := hb
  have hz : (b == 0) = false := by simpa using h0
  have hz' : (((b.natAbs : Nat) : Int) == 0) = false := by simp; omega
  have hq : a.natAbs / b.natAbs < 18446744073709551616 := Nat.lt_of_le_of_lt (Nat.div_le_self _ _) ha'
  have hfin := hide (sgn_tdiv a b)
  have he : ((a.natAbs : Nat) : Int) / ((b.natAbs : Nat) : Int) = ((a.natAbs / b.natAbs : Nat) : Int) := by simp
  generalize a.natAbs / b.natAbs = q at *
  have hB : 1 ≤ ((b.natAbs : Nat) : Int) := by omega
  clear h0
  go_enter Try.func20, Try.ntmps20
  go_wp2_with fail
  refine (size_calls _ _ a1 a2).mono ?_
  rintro e w' ⟨rfl, rfl⟩
  go_wp2_with fail
  refine (size_calls _ _ b1 b2).mono ?_
  rintro e w' ⟨rfl, rfl⟩
  generalize a.natAbs = A at *
  generalize b.natAbs = B at *
  go_wp2_with fail
  refine (signedN_calls _ 0 _ _ hq).mono ?_
  rintro e w' ⟨rfl, rfl⟩
  unfold ans
  go_wp2_with fail
  go_ret2
  exact ⟨by rw [← hfin.out]; rfl, rfl⟩
theorem mod_calls (a b : Int) (w : World) (ha : I64 a) (hb : I64 b) (h0 : b ≠ 0) : Calls Try.prog 21 #[.int .i64 a, .int .i64 b] w fun e w' => e = .returned (ans (a.tmod b)) ∧ w = w' := by
  have ha' := ha.nat
  have hb' := hb.nat
  unfold I64 at ha hb
  obtain ⟨a1, a2⟩ := ha
  obtain ⟨b1, b2⟩ := hb
  have hz : (b == 0) = false := by simpa using h0
  have hz' : (((b.natAbs : Nat) : Int) == 0) = false := by simp; omega
  have hq : a.natAbs % b.natAbs < 18446744073709551616 := Nat.lt_of_le_of_lt (Nat.mod_le _ _) ha'
  have hfin := hide (sgn_tmod a b)
  have he : ((a.natAbs : Nat) : Int) % ((b.natAbs : Nat) : Int) = ((a.natAbs % b.natAbs : Nat) : Int) := by simp
  generalize a.natAbs % b.natAbs = q at *
  have hB : 1 ≤ ((b.natAbs : Nat) : Int) := by omega
  clear h0
  go_enter Try.func21, Try.ntmps21
  go_wp2_with fail
  refine (size_calls _ _ a1 a2).mono ?_
  rintro e w' ⟨rfl, rfl⟩
  go_wp2_with fail
  refine (size_calls _ _ b1 b2).mono ?_
  rintro e w' ⟨rfl, rfl⟩
  generalize a.natAbs = A at *
  generalize b.natAbs = B at *
  go_wp2_with fail
  refine (signedN_calls _ 0 _ _ hq).mono ?_
  rintro e w' ⟨rfl, rfl⟩
  unfold ans
  go_wp2_with fail
  go_ret2
  exact ⟨by rw [← hfin.out]; rfl, rfl⟩
theorem scale_calls (a : Int) (w : World) (ha : I64 a) : Calls Try.prog 16 #[.int .i64 a] w fun e w' => e = .returned (ans (a * 10000)) ∧ w = w' := by
  go_enter Try.func16, Try.ntmps16
  go_wp2_with fail
  refine (mul_calls _ _ _ ha (by unfold I64; omega)).mono ?_
  rintro e w' ⟨rfl, rfl⟩
  unfold ans
  go_wp2_with fail
  go_ret2
  exact ⟨rfl, rfl⟩
end Go.Proofs.Ytlmjcifiofobpaa
