/- Plain laws of the rounded quotient. -/
import Derived.Test.YtlmjcifiofobpaaTells
namespace Go.Proofs.Ytlmjcifiofobpaa
open Go.ChangeShapes Go.WideShapes Go.ChangeAt Go.RowKit
set_option linter.unusedVariables false
set_option linter.unusedSimpArgs false

theorem wf_I64 {a : Int} (h : (Lit.int .i64 a).wf = true) : I64 a := bounds_i64 h
theorem overV_comm (a b d : Int) : overV a b d = overV b a d := by
  unfold overV overSign
  rw [Nat.mul_comm]
  cases decide (a < 0) <;> cases decide (b < 0) <;> rfl
theorem tmod_sides (a b : Int) : (a.tmod b).natAbs ≤ a.natAbs ∧ (0 ≤ a → 0 ≤ a.tmod b) ∧ (a ≤ 0 → a.tmod b ≤ 0) := by
  refine ⟨by rw [Int.natAbs_tmod]; exact Nat.mod_le _ _, fun h => Int.tmod_nonneg b h, fun h => ?_⟩
  have h1 := Int.tmod_nonneg b (a := -a) (by omega)
  rw [Int.neg_tmod] at h1
  omega
theorem mod_inside (a b : Int) (ha : I64 a) : I64 (a.tmod b) := by
  obtain ⟨h1, h2, h3⟩ := tmod_sides a b
  unfold I64 at *
  by_cases h : 0 ≤ a
  · have := h2 h
    omega
  · have := h3 (by omega)
    omega

theorem rneN_near (n d : Nat) (hd : 0 < d) : 2 * n ≤ 2 * (rneN n d * d) + d ∧ 2 * (rneN n d * d) ≤ 2 * n + d ∧ ((2 * n = 2 * (rneN n d * d) + d ∨ 2 * (rneN n d * d) = 2 * n + d) → rneN n d % 2 = 0) := by
  have h1 := Nat.div_add_mod n d
  have h2 := Nat.mod_lt n hd
  rw [Nat.mul_comm] at h1
  unfold rneN
  generalize n / d = q at *
  generalize n % d = r at *
  split
  · rw [Nat.add_mul]
    generalize q * d = a at *
    omega
  · generalize q * d = a at *
    omega
theorem rneN_exact (n d k : Nat) (hd : 0 < d) (h : n = k * d) : rneN n d = k := by
  subst h
  unfold rneN
  rw [Nat.mul_mod_left, Nat.mul_div_cancel _ hd, if_neg (by omega)]
theorem rneN_scale (n d k : Nat) (hk : 0 < k) : rneN (k * n) (k * d) = rneN n d := by
  unfold rneN
  rw [Nat.mul_div_mul_left _ _ hk, Nat.mul_mod_mul_left]
  have e1 : (k * d < 2 * (k * (n % d))) = (d < 2 * (n % d)) := by
    rw [← Nat.mul_assoc, Nat.mul_comm 2 k, Nat.mul_assoc]
    exact propext (Nat.mul_lt_mul_left hk)
  have e2 : (2 * (k * (n % d)) = k * d) = (2 * (n % d) = d) := by
    rw [← Nat.mul_assoc, Nat.mul_comm 2 k, Nat.mul_assoc]
    exact propext ⟨fun h => Nat.eq_of_mul_eq_mul_left hk h, fun h => by rw [h]⟩
  simp only [e1, e2]

theorem sgn_natAbs (a : Int) : sgn (decide (a < 0)) (a.natAbs : Int) = a := by
  by_cases h : a < 0 <;> simp only [h, decide_true, decide_false, sgn, if_true, Bool.false_eq_true, if_false] <;> omega
theorem sgn_sgn (s t : Bool) (n : Int) : sgn s (sgn t n) = sgn (s != t) n := by cases s <;> cases t <;> simp [sgn]
theorem sgn_times (s t : Bool) (n m : Int) : sgn s n * sgn t m = sgn (s != t) (n * m) := by
  cases s <;> cases t <;> simp [sgn, Int.neg_mul, Int.mul_neg]

/-- what the rounded quotient is: v d is next to a b -/
theorem overV_times (a b d : Int) : ∃ s : Bool, overV a b d * d = sgn s ((rneN (a.natAbs * b.natAbs) d.natAbs * d.natAbs : Nat) : Int) ∧ a * b = sgn s ((a.natAbs * b.natAbs : Nat) : Int) := by
  refine ⟨decide (a < 0) != decide (b < 0), ?_, (sgn_mul a b _ rfl).symm⟩
  have h := sgn_natAbs d
  unfold overV
  generalize rneN (a.natAbs * b.natAbs) d.natAbs = R
  calc sgn (overSign a b d) (R : Int) * d = sgn (overSign a b d) (R : Int) * sgn (decide (d < 0)) (d.natAbs : Int) := by rw [h]
    _ = sgn (overSign a b d != decide (d < 0)) ((R : Int) * (d.natAbs : Int)) := sgn_times _ _ _ _
    _ = _ := by
      rw [Int.natCast_mul]
      unfold overSign
      cases decide (a < 0) <;> cases decide (b < 0) <;> cases decide (d < 0) <;> rfl
theorem overV_even (a b d : Int) : ((overV a b d).tmod 2 = 0) ↔ rneN (a.natAbs * b.natAbs) d.natAbs % 2 = 0 := by
  unfold overV
  generalize rneN (a.natAbs * b.natAbs) d.natAbs = R
  have e : (R : Int).tmod 2 = ((R % 2 : Nat) : Int) := rfl
  cases overSign a b d <;> simp only [sgn_true, sgn_false, Int.neg_tmod, e] <;> omega
theorem over_near (a b d : Int) (hd : d ≠ 0) : -(d.natAbs : Int) ≤ 2 * (overV a b d * d - a * b) ∧ 2 * (overV a b d * d - a * b) ≤ d.natAbs ∧
    ((2 * (overV a b d * d - a * b) = d.natAbs ∨ 2 * (overV a b d * d - a * b) = -(d.natAbs : Int)) → (overV a b d).tmod 2 = 0) := by
  obtain ⟨s, h1, h2⟩ := overV_times a b d
  obtain ⟨h3, h4, h5⟩ := rneN_near (a.natAbs * b.natAbs) d.natAbs (by omega)
  rw [overV_even, h1, h2]
  generalize rneN (a.natAbs * b.natAbs) d.natAbs = R at *
  generalize R * d.natAbs = A at *
  generalize a.natAbs * b.natAbs = B at *
  clear h1 h2
  cases s <;> simp only [sgn_true, sgn_false]
  · exact ⟨by omega, by omega, fun h => h5 (by omega)⟩
  · exact ⟨by omega, by omega, fun h => h5 (by omega)⟩
theorem overV_exact (a b d k : Int) (hd : d ≠ 0) (h : a * b = k * d) : overV a b d = k := by
  have hn : a.natAbs * b.natAbs = k.natAbs * d.natAbs := by rw [← Int.natAbs_mul, ← Int.natAbs_mul, h]
  obtain ⟨s, h1, h2⟩ := overV_times a b d
  rw [rneN_exact _ _ k.natAbs (by omega) hn] at h1
  rw [hn] at h2
  have h3 : overV a b d * d = k * d := by rw [h1, ← h2, h]
  exact Int.eq_of_mul_eq_mul_right hd h3
theorem overV_scale (a b : Int) : overV (a * 10000) 10000 (b * 10000) = overV a 10000 b := by
  unfold overV
  have e1 : overSign (a * 10000) 10000 (b * 10000) = overSign a 10000 b := by
    unfold overSign
    rw [show decide (a * 10000 < 0) = decide (a < 0) by rw [decide_eq_decide]; omega, show decide (b * 10000 < 0) = decide (b < 0) by rw [decide_eq_decide]; omega]
  have e2 : (a * 10000).natAbs * (10000 : Int).natAbs = 10000 * (a.natAbs * (10000 : Int).natAbs) := by rw [Int.natAbs_mul, Nat.mul_comm 10000, Nat.mul_right_comm]; rfl
  have e3 : (b * 10000).natAbs = 10000 * b.natAbs := by rw [Int.natAbs_mul, Nat.mul_comm]; rfl
  rw [e1, e2, e3, rneN_scale _ _ _ (by omega)]
end Go.Proofs.Ytlmjcifiofobpaa
