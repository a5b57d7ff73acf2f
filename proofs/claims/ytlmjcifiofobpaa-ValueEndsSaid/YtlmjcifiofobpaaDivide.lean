/- The contracts of package num and of math/bits.Div64 at this seat's numbers: what each function returns, as plain numbers; the world below the heap's size stays. -/
import Derived.Test.YtlmjcifiofobpaaEnds
import Derived.Test.YtlmjcifiofobpaaShelf
import Derived.WalkKit
import Derived.ProofKit
import Derived.OpenShut
import Derived.BigQuiet
import Derived.Deep.QuietTactic
import Derived.Deep.DeepCutAuto
import Derived.Deep.LoopGhost
import Derived.Deep.CutBlock
namespace Go.Proofs.Ytlmjcifiofobpaa
open Go.ChangeShapes Go.WideShapes Go.ChangeAt Go.RowKit
set_option linter.unusedVariables false
set_option linter.unusedSimpArgs false
namespace KD
/-- one digit: N = u * 2^32 + c, y = y1 * 2^32 + y0 -/
theorem q_le (u c y1 y0 B : Nat) (hB : B = 4294967296) (hy1 : 2147483648 ≤ y1) (hy0 : y0 < B) (hc : c < B) (hu : u < y1 * B + y0) :
    (u * B + c) / (y1 * B + y0) ≤ u / y1 ∧ u / y1 ≤ 4294967297 ∧ (u * B + c) / (y1 * B + y0) < B := by
  subst hB
  refine ⟨?_, ?_, ?_⟩
  · rw [Nat.le_div_iff_mul_le (by omega)]
    have h := Nat.div_mul_le_self (u * 4294967296 + c) (y1 * 4294967296 + y0)
    generalize (u * 4294967296 + c) / (y1 * 4294967296 + y0) = Q at *
    have h1 : Q * (y1 * 4294967296 + y0) = Q * y1 * 4294967296 + Q * y0 := by rw [Nat.mul_add, ← Nat.mul_assoc]
    have h2 : 0 ≤ Q * y0 := Nat.zero_le _
    rw [h1] at h
    generalize Q * y1 = a at *
    generalize Q * y0 = b at *
    omega
  · have : u / y1 < 4294967298 := by
      rw [Nat.div_lt_iff_lt_mul (by omega)]
      omega
    omega
  · rw [Nat.div_lt_iff_lt_mul (by omega)]
    omega

/-- the test says no: found -/
theorem found (u c y1 y0 q : Nat) (hy : 0 < y1 * 4294967296 + y0) (hq : (u * 4294967296 + c) / (y1 * 4294967296 + y0) ≤ q) (hu : q * y1 ≤ u)
    (ht : q * y0 ≤ 4294967296 * (u - q * y1) + c) : q = (u * 4294967296 + c) / (y1 * 4294967296 + y0) := by
  refine Nat.le_antisymm ?_ hq
  rw [Nat.le_div_iff_mul_le hy, Nat.mul_add, ← Nat.mul_assoc]
  generalize q * y1 = a at *
  generalize q * y0 = b at *
  omega

/-- the test says yes: it is less -/
theorem lower (u c y1 y0 q : Nat) (hy : 0 < y1 * 4294967296 + y0) (hu : q * y1 ≤ u)
    (ht : 4294967296 * (u - q * y1) + c < q * y0) : (u * 4294967296 + c) / (y1 * 4294967296 + y0) ≤ q - 1 ∧ 1 ≤ q := by
  have h : (u * 4294967296 + c) / (y1 * 4294967296 + y0) < q := by
    rw [Nat.div_lt_iff_lt_mul hy, Nat.mul_add, ← Nat.mul_assoc]
    generalize q * y1 = a at *
    generalize q * y0 = b at *
    omega
  generalize (u * 4294967296 + c) / (y1 * 4294967296 + y0) = Q at *
  omega
end KD

theorem ret_int {k : IntKind} {a b : Int} (h : a = b) : Ending.returned (.int k a) = .returned (.int k b) := by rw [h]

theorem size_calls (n : Int) (w : World) (h1 : -9223372036854775808 ≤ n) (h2 : n ≤ 9223372036854775807) :
    Calls Try.prog 51 #[.int .i64 n] w fun e w' => e = .returned (.int .u64 n.natAbs) ∧ w = w' := by
  by_cases h : n < 0
  · go_enter Try.func51, Try.ntmps51
    go_wp2
    go_ret
    exact ⟨ret_int (by simp only [IntKind.wrap_u64]; omega), rfl⟩
  · go_enter Try.func51, Try.ntmps51
    go_wp2
    go_ret
    exact ⟨ret_int (by omega), rfl⟩

/-- A whole number as it is told: itself, or ErrOver. -/
def toldV (v : Int) : Int := if -9223372036854775808 ≤ v ∧ v ≤ 9223372036854775807 then v else 0
def toldE (v : Int) : Int := if -9223372036854775808 ≤ v ∧ v ≤ 9223372036854775807 then 0 else 9
def ans (v : Int) : Value := .tuple #[.int .i64 (toldV v), .int .i64 (toldE v)]
theorem ans_in (v : Int) (h1 : -9223372036854775808 ≤ v) (h2 : v ≤ 9223372036854775807) : ans v = .tuple #[.int .i64 v, .int .i64 0] := by
  unfold ans toldV toldE; rw [if_pos ⟨h1, h2⟩, if_pos ⟨h1, h2⟩]
theorem ans_out (v : Int) (h : v < -9223372036854775808 ∨ 9223372036854775807 < v) : ans v = .tuple #[.int .i64 0, .int .i64 9] := by
  unfold ans toldV toldE; rw [if_neg (by omega), if_neg (by omega)]
theorem ans_in' (v u : Int) (hu : u = v) (h1 : -9223372036854775808 ≤ v) (h2 : v ≤ 9223372036854775807) : Ending.returned (.tuple #[.int .i64 u, .int .i64 0]) = .returned (ans v) := by
  rw [ans_in v h1 h2, hu]
theorem ans_out' (v : Int) (h : v < -9223372036854775808 ∨ 9223372036854775807 < v) : Ending.returned (.tuple #[.int .i64 0, .int .i64 9]) = .returned (ans v) := by
  rw [ans_out v h]
def sgn (neg : Bool) (m : Int) : Int := if neg then -m else m
theorem sgn_true (m : Int) : sgn true m = -m := rfl
theorem sgn_false (m : Int) : sgn false m = m := rfl
def big63 : Int := 9223372036854775808

theorem signed_calls (neg : Bool) (hi lo : Int) (w : World) (h1 : 0 ≤ hi) (h3 : 0 ≤ lo) (h4 : lo ≤ 18446744073709551615) :
    Calls Try.prog 52 #[.bool neg, .int .u64 hi, .int .u64 lo] w fun e w' => e = .returned (ans (sgn neg (hi * 18446744073709551616 + lo))) ∧ w = w' := by
  by_cases ha : 0 < hi
  · go_enter Try.func52, Try.ntmps52
    go_wp2
    go_ret2
    exact ⟨ans_out' _ (by cases neg <;> simp only [sgn_true, sgn_false] <;> omega), rfl⟩
  by_cases hb : 9223372036854775808 < lo
  · go_enter Try.func52, Try.ntmps52
    go_wp2
    go_ret2
    exact ⟨ans_out' _ (by cases neg <;> simp only [sgn_true, sgn_false] <;> omega), rfl⟩
  by_cases hc : lo < 9223372036854775808
  · cases neg
    · go_enter Try.func52, Try.ntmps52
      go_wp2
      go_ret2
      exact ⟨ans_in' _ _ (by simp only [sgn_false]; omega) (by simp only [sgn_false]; omega) (by simp only [sgn_false]; omega), rfl⟩
    · go_enter Try.func52, Try.ntmps52
      go_wp2
      go_ret2
      exact ⟨ans_in' _ _ (by simp only [sgn_true, IntKind.wrap_i64, wrap64]; omega) (by simp only [sgn_true]; omega) (by simp only [sgn_true]; omega), rfl⟩
  · have he : (lo == 9223372036854775808) = true := by simp; omega
    cases neg
    · go_enter Try.func52, Try.ntmps52
      go_wp2
      go_ret2
      exact ⟨ans_out' _ (by simp only [sgn_false]; omega), rfl⟩
    · go_enter Try.func52, Try.ntmps52
      go_wp2
      go_ret2
      exact ⟨ans_in' _ _ (by simp only [sgn_true, IntKind.wrap_i64, wrap64]; omega) (by simp only [sgn_true]; omega) (by simp only [sgn_true]; omega), rfl⟩

theorem bitLen_spec (x : Nat) : 0 < x → x < 2 ^ 64 → 1 ≤ Lib.bitLen x ∧ 2 ^ (Lib.bitLen x - 1) ≤ x ∧ x < 2 ^ Lib.bitLen x := by
  induction x using Nat.strongRecOn with
  | _ x ih =>
    intro h hx
    by_cases h1 : x = 1
    · subst h1; decide +kernel
    · rw [Lib.bitLen_half x (by omega) hx]
      obtain ⟨i1, i2, i3⟩ := ih (x / 2) (by omega) (by omega) (by omega)
      refine ⟨by omega, ?_, ?_⟩
      · rw [show 1 + Lib.bitLen (x / 2) - 1 = (Lib.bitLen (x / 2) - 1) + 1 by omega, Nat.pow_succ]; omega
      · rw [Nat.add_comm, Nat.pow_succ]; omega

theorem lz_calls (x : Nat) (w : World) (h0 : 0 < x) (h1 : x < 18446744073709551616) :
    Calls Try.prog 88 #[.int .u64 x] w fun e w' => ∃ s : Nat, e = .returned (.int .i64 s) ∧ s ≤ 63 ∧ 9223372036854775808 ≤ x * 2 ^ s ∧ x * 2 ^ s < 18446744073709551616 ∧ w = w' := by
  refine (Try.bits_LeadingZeros64 x w (by omega) (by omega)).mono ?_
  rintro e w' ⟨rfl, rfl⟩
  rw [Int.toNat_natCast]
  have hb := bitLen_spec x h0 h1
  have hle : Lib.bitLen x ≤ 64 := Lib.bitLen_le x 64 (by omega) (by omega)
  have h1' : 1 ≤ Lib.bitLen x := hb.1
  have e64 : 2 ^ Lib.bitLen x * 2 ^ (64 - Lib.bitLen x) = 18446744073709551616 := by rw [← Nat.pow_add, show Lib.bitLen x + (64 - Lib.bitLen x) = 64 by omega]
  have e63 : 2 ^ (Lib.bitLen x - 1) * 2 ^ (64 - Lib.bitLen x) = 9223372036854775808 := by rw [← Nat.pow_add, show Lib.bitLen x - 1 + (64 - Lib.bitLen x) = 63 by omega]
  refine ⟨64 - Lib.bitLen x, by rw [Int.natCast_sub hle]; rfl, by omega, ?_, ?_, rfl⟩
  · rw [← e63]; exact Nat.mul_le_mul_right _ hb.2.1
  · rw [← e64]; exact Nat.mul_lt_mul_of_pos_right hb.2.2 (Nat.two_pow_pos _)


theorem div_start (hi lo y s : Nat) (h0 : 0 < hi) (h1 : lo < 18446744073709551616) (h3 : hi < y) (hs : s ≤ 63) (hy1 : 9223372036854775808 ≤ y * 2 ^ s) (hy2 : y * 2 ^ s < 18446744073709551616) :
    (hi * 18446744073709551616 + lo) * 2 ^ s % 18446744073709551616 = lo * 2 ^ s % 18446744073709551616 ∧
    (hi * 2 ^ s) ||| (lo / 2 ^ (64 - s)) = (hi * 18446744073709551616 + lo) * 2 ^ s / 18446744073709551616 ∧ hi * 2 ^ s + 2 ^ s ≤ y * 2 ^ s ∧
    (hi * 18446744073709551616 + lo) * 2 ^ s / 18446744073709551616 < y * 2 ^ s := by
  have e64 : 2 ^ s * 2 ^ (64 - s) = 18446744073709551616 := by rw [← Nat.pow_add, show s + (64 - s) = 64 by omega]
  have hp : 0 < 2 ^ s := Nat.two_pow_pos s
  have hp2 : 0 < 2 ^ (64 - s) := Nat.two_pow_pos _
  have hle : hi * 2 ^ s + 2 ^ s ≤ y * 2 ^ s := by
    have : (hi + 1) * 2 ^ s ≤ y * 2 ^ s := Nat.mul_le_mul_right _ h3
    rw [Nat.add_mul, Nat.one_mul] at this; exact this
  have hlo : lo / 2 ^ (64 - s) < 2 ^ s := by
    rw [Nat.div_lt_iff_lt_mul hp2, e64]; exact h1
  have ex : (hi * 18446744073709551616 + lo) * 2 ^ s = 18446744073709551616 * (hi * 2 ^ s) + lo * 2 ^ s := by
    rw [Nat.add_mul, Nat.mul_right_comm, Nat.mul_comm (hi * 2 ^ s)]
  have ed : lo * 2 ^ s / 18446744073709551616 = lo / 2 ^ (64 - s) := by
    rw [← e64, Nat.mul_comm (2 ^ s) (2 ^ (64 - s)), Nat.mul_div_mul_right _ _ hp]
  have eq2 : (hi * 18446744073709551616 + lo) * 2 ^ s / 18446744073709551616 = hi * 2 ^ s + lo / 2 ^ (64 - s) := by
    rw [ex, Nat.mul_add_div (by omega), ed]
  refine ⟨?_, ?_, hle, ?_⟩
  · rw [ex, Nat.mul_add_mod]
  · rw [eq2, Nat.mul_comm hi, ← Nat.two_pow_add_eq_or_of_lt hlo]
  · rw [eq2]; omega


/-- what the walk of Div64 needs of its normalised numbers, each as the walk spells it -/
theorem div_norm (hi lo y s : Nat) (h0 : 0 < hi) (h1 : lo < 18446744073709551616) (h3 : hi < y) (hs : s ≤ 63) (hy1 : 9223372036854775808 ≤ y * 2 ^ s) (hy2 : y * 2 ^ s < 18446744073709551616) :
    ∃ Y H L D U Y1 Y0 L1 L0 M : Nat, (y : Int) * 2 ^ s = Y ∧ (hi : Int) * 2 ^ s = H ∧ (lo : Int) * 2 ^ s = L ∧ (lo : Int) / 2 ^ (64 - s) = D ∧ bits .or .u64 (H : Int) (D : Int) = U ∧
      bits .and .u64 (Y : Int) 4294967295 = Y0 ∧ (Y : Int) / 4294967296 = Y1 ∧ IntKind.u64.wrap (L : Int) = M ∧ bits .and .u64 (M : Int) 4294967295 = L0 ∧ (M : Int) / 4294967296 = L1 ∧
      Y < 18446744073709551616 ∧ H < 18446744073709551616 ∧ M < 18446744073709551616 ∧ U < Y ∧ Y = Y1 * 4294967296 + Y0 ∧ Y0 < 4294967296 ∧ 2147483648 ≤ Y1 ∧ L0 < 4294967296 ∧ L1 < 4294967296 ∧
      Y = y * 2 ^ s ∧ (hi * 18446744073709551616 + lo) * 2 ^ s = U * 18446744073709551616 + L1 * 4294967296 + L0 := by
  obtain ⟨hm, hor, hle, hlt⟩ := div_start hi lo y s h0 h1 h3 hs hy1 hy2
  have hp : 0 < 2 ^ s := Nat.two_pow_pos s
  have hH : hi * 2 ^ s < 18446744073709551616 := by omega
  have hD : lo / 2 ^ (64 - s) < 18446744073709551616 := Nat.lt_of_le_of_lt (Nat.div_le_self _ _) h1
  have hand : ∀ n : Nat, n < 18446744073709551616 → bits .and .u64 (n : Int) 4294967295 = ((n % 4294967296 : Nat) : Int) := by
    intro a ha
    have h := bits_and_u64_nat a 4294967295 ha (by omega)
    rw [Nat.and_two_pow_sub_one_eq_mod a 32] at h
    exact h
  have hsplit := Nat.div_add_mod ((hi * 18446744073709551616 + lo) * 2 ^ s) 18446744073709551616
  refine ⟨y * 2 ^ s, hi * 2 ^ s, lo * 2 ^ s, lo / 2 ^ (64 - s), (hi * 18446744073709551616 + lo) * 2 ^ s / 18446744073709551616, y * 2 ^ s / 4294967296, y * 2 ^ s % 4294967296,
    lo * 2 ^ s % 18446744073709551616 / 4294967296, lo * 2 ^ s % 18446744073709551616 % 4294967296, lo * 2 ^ s % 18446744073709551616, by simp, by simp, by simp, by simp, ?_, hand _ hy2, by omega,
    by rw [IntKind.wrap_u64]; omega, hand _ (by omega), by omega, hy2, hH, by omega, hlt, by omega, by omega, by omega, by omega, by omega, rfl, ?_⟩
  · rw [bits_or_u64_nat _ _ hH hD, hor]
  · rw [← hm]
    omega

/-- one digit of the quotient is found; its remainder -/
def Div1 (U c Y q : Nat) : Prop := q = (U * 4294967296 + c) / Y
theorem Div1.rest {U c Y q : Nat} (h : Div1 U c Y q) (hY : 0 < Y) (hU : U < Y) (hc : c < 4294967296) : q * Y ≤ U * 4294967296 + c ∧ U * 4294967296 + c - q * Y < Y ∧ q < 4294967296 ∧ U * 4294967296 + c - q * Y = (U * 4294967296 + c) % Y := by
  unfold Div1 at h
  have h1 := Nat.div_add_mod (U * 4294967296 + c) Y
  have h2 := Nat.mod_lt (U * 4294967296 + c) hY
  have h3 : (U * 4294967296 + c) / Y < 4294967296 := by
    rw [Nat.div_lt_iff_lt_mul hY]
    omega
  rw [← h, Nat.mul_comm] at h1
  generalize q * Y = a at *
  omega
/-- the round's number is one too many: what is behind it -/
theorem div_down {U c Y1 Y0 q r : Nat} (hY1 : 2147483648 ≤ Y1) (hY0 : Y0 < 4294967296) (hr : q * Y1 + r = U) (hq : q ≤ 4294967297) (hc : c < 4294967296)
    (hQ : (U * 4294967296 + c) / (Y1 * 4294967296 + Y0) < 4294967296)
    (h : 4294967296 ≤ q ∨ 4294967296 * r + c < q * Y0) : 1 ≤ q ∧ (U * 4294967296 + c) / (Y1 * 4294967296 + Y0) ≤ q - 1 ∧ (q - 1) * Y1 + (r + Y1) = U ∧
      (4294967296 ≤ r + Y1 → Div1 U c (Y1 * 4294967296 + Y0) (q - 1)) := by
  have h1 : 1 ≤ q ∧ (U * 4294967296 + c) / (Y1 * 4294967296 + Y0) ≤ q - 1 := by
    rcases h with h | h
    · omega
    · have := KD.lower U c Y1 Y0 q (by omega) (by omega) (by rw [show U - q * Y1 = r by omega]; exact h)
      omega
  have h2 : (q - 1) * Y1 + (r + Y1) = U := by
    obtain ⟨p, rfl⟩ : ∃ p, q = p + 1 := ⟨q - 1, by omega⟩
    rw [Nat.add_sub_cancel]
    rw [Nat.add_mul] at hr
    omega
  refine ⟨h1.1, h1.2, h2, fun h3 => KD.found U c Y1 Y0 (q - 1) (by omega) h1.2 (by omega) ?_⟩
  rw [show U - (q - 1) * Y1 = r + Y1 by omega]
  have h4 : (q - 1) * Y0 ≤ 4294967296 * 4294967295 := Nat.mul_le_mul (by omega) (by omega)
  omega
theorem div_here {U c Y1 Y0 q r : Nat} (hY1 : 2147483648 ≤ Y1) (hr : q * Y1 + r = U) (hQ : (U * 4294967296 + c) / (Y1 * 4294967296 + Y0) ≤ q) (h : q * Y0 ≤ 4294967296 * r + c) : Div1 U c (Y1 * 4294967296 + Y0) q :=
  KD.found U c Y1 Y0 q (by omega) hQ (by omega) (by rw [show U - q * Y1 = r by omega]; exact h)
theorem div_first {U c Y1 Y0 : Nat} (hY1 : 2147483648 ≤ Y1) (hY1' : Y1 < 4294967296) (hY0 : Y0 < 4294967296) (hc : c < 4294967296) (hU : U < Y1 * 4294967296 + Y0) :
    ∃ q P : Nat, (U : Int) / Y1 = q ∧ (q : Int) * Y1 = P ∧ q * Y1 = P ∧ P ≤ U ∧ U < P + Y1 ∧ q ≤ 4294967297 ∧ (U * 4294967296 + c) / (Y1 * 4294967296 + Y0) ≤ q ∧ (U * 4294967296 + c) / (Y1 * 4294967296 + Y0) < 4294967296 := by
  obtain ⟨c1, c2, c3⟩ := KD.q_le U c Y1 Y0 4294967296 rfl hY1 hY0 hc hU
  exact ⟨U / Y1, U / Y1 * Y1, by simp, by simp, rfl, Nat.div_mul_le_self _ _, Nat.lt_div_mul_add (by omega), c2, c1, c3⟩
/-- what both digits make -/
theorem div_ends {hi lo y s U L1 L0 q1 q0 : Nat} (hy : 0 < y) (hh : hi < y) (hl : lo < 18446744073709551616) (hs : (hi * 18446744073709551616 + lo) * 2 ^ s = U * 18446744073709551616 + L1 * 4294967296 + L0)
    (h1 : Div1 U L1 (y * 2 ^ s) q1) (h0 : Div1 (U * 4294967296 + L1 - q1 * (y * 2 ^ s)) L0 (y * 2 ^ s) q0) :
    q1 * 4294967296 + q0 = (hi * 18446744073709551616 + lo) / y ∧ q1 * 4294967296 + q0 < 18446744073709551616 ∧
      ((U * 4294967296 + L1 - q1 * (y * 2 ^ s)) * 4294967296 + L0 - q0 * (y * 2 ^ s)) / 2 ^ s = (hi * 18446744073709551616 + lo) % y := by
  have hp : 0 < 2 ^ s := Nat.two_pow_pos s
  have hY : 0 < y * 2 ^ s := Nat.mul_pos hy hp
  unfold Div1 at h1 h0
  have a1 := Nat.div_add_mod (U * 4294967296 + L1) (y * 2 ^ s)
  have m1 := Nat.mod_lt (U * 4294967296 + L1) hY
  rw [← h1, Nat.mul_comm] at a1
  have a0 := Nat.div_add_mod ((U * 4294967296 + L1 - q1 * (y * 2 ^ s)) * 4294967296 + L0) (y * 2 ^ s)
  have m0 := Nat.mod_lt ((U * 4294967296 + L1 - q1 * (y * 2 ^ s)) * 4294967296 + L0) hY
  rw [← h0, Nat.mul_comm] at a0
  have hd := Nat.mul_div_mul_right (hi * 18446744073709551616 + lo) y hp
  have hm := Nat.mul_mod_mul_right (2 ^ s) (hi * 18446744073709551616 + lo) y
  have hN : (hi * 18446744073709551616 + lo) / y < 18446744073709551616 := by
    rw [Nat.div_lt_iff_lt_mul hy]
    have : (hi + 1) * 18446744073709551616 ≤ y * 18446744073709551616 := Nat.mul_le_mul_right _ hh
    omega
  rw [hs] at hd hm
  have he : U * 18446744073709551616 + L1 * 4294967296 + L0 = ((U * 4294967296 + L1 - q1 * (y * 2 ^ s)) * 4294967296 + L0 - q0 * (y * 2 ^ s)) + (y * 2 ^ s) * (q1 * 4294967296 + q0) := by
    have e2 : (y * 2 ^ s) * (q1 * 4294967296 + q0) = q1 * (y * 2 ^ s) * 4294967296 + q0 * (y * 2 ^ s) := by
      generalize y * 2 ^ s = Y
      rw [Nat.mul_add, ← Nat.mul_assoc, Nat.mul_comm Y q1, Nat.mul_comm Y q0]
    rw [e2]
    generalize q1 * (y * 2 ^ s) = a at *
    generalize q0 * (y * 2 ^ s) = b at *
    omega
  have hr : (U * 4294967296 + L1 - q1 * (y * 2 ^ s)) * 4294967296 + L0 - q0 * (y * 2 ^ s) < y * 2 ^ s := by
    generalize q1 * (y * 2 ^ s) = a at *
    generalize q0 * (y * 2 ^ s) = b at *
    omega
  rw [he, Nat.add_mul_div_left _ _ hY, Nat.div_eq_of_lt hr, Nat.zero_add] at hd
  rw [he, Nat.add_mul_mod_self_left, Nat.mod_eq_of_lt hr] at hm
  refine ⟨hd, by omega, ?_⟩
  rw [hm, Nat.mul_div_cancel _ hp]

theorem wrap3 (U c q Y R : Nat) (h : q * Y + R = U * 4294967296 + c) (hR : R < 18446744073709551616) :
    IntKind.u64.wrap (IntKind.u64.wrap (IntKind.u64.wrap ((U : Int) * 4294967296) + (c : Int)) - IntKind.u64.wrap ((q : Int) * (Y : Int))) = (R : Int) := by
  simp only [IntKind.wrap_u64]
  have e : (q : Int) * (Y : Int) = ((q * Y : Nat) : Int) := by simp
  rw [e]
  generalize q * Y = a at *
  omega
theorem wrap_nat (a : Nat) (h : a < 18446744073709551616) : IntKind.u64.wrap (a : Int) = (a : Int) := by rw [IntKind.wrap_u64]; omega

set_option maxRecDepth 100000 in
set_option maxHeartbeats 1000000 in
theorem div64_big (hi lo y : Nat) (w : World) (h0 : 0 < hi) (h1 : lo < 18446744073709551616) (h2 : y < 18446744073709551616) (h3 : hi < y) :
    Calls Try.prog 78 #[.int .u64 hi, .int .u64 lo, .int .u64 y] w fun e w' => e = .returned (.tuple #[.int .u64 (((hi * 18446744073709551616 + lo) / y : Nat) : Int), .int .u64 (((hi * 18446744073709551616 + lo) % y : Nat) : Int)]) ∧ w = w' := by
  go_enter Try.func78, Try.ntmps78
  go_wp2_with fail
  refine (lz_calls _ _ (by omega) (by omega)).mono ?_
  rintro e w' ⟨s, rfl, hs, hy1, hy2, rfl⟩
  have hmin : min s 64 = s := by omega
  obtain ⟨Y, H, L, D, U, Y1, Y0, L1, L0, M, e1, e2, e3, e4, e5, e6, e7, e8, e9, e10, b1, b2, b3, b4, b5, b6, b7, b8, b9, b10, b11⟩ := div_norm hi lo y s h0 h1 h3 hs hy1 hy2
  have HY : Hid (Y = Y1 * 4294967296 + Y0 ∧ Y = y * 2 ^ s ∧ (hi * 18446744073709551616 + lo) * 2 ^ s = U * 18446744073709551616 + L1 * 4294967296 + L0) := ⟨b5, b10, b11⟩
  have b12 : Y1 < 4294967296 := by omega
  obtain ⟨q0, P0, d1, d2, k0, k2, k3, k1, kq⟩ := div_first b7 b12 b6 b9 (by rw [← b5]; exact b4)
  have HP := hide k0
  have HQ := hide kq
  clear b5 b10 b11 k0 kq
  go_upto_block 0 with fail
  go_cut [15] (fun s15 wx => ∃ q : Nat, s15 = .int .u64 q ∧ Div1 U L1 Y q ∧ wx = w)
  case first =>
    clear d1 d2 e1 e2 e3 e4 e5 e6 e7 e8 e9 e10 hy1 hy2 h3 h1 h2 h0 b2 b3 b1 hs hmin
    go_wp2_with fail
    go_loop [15, 16] (fun sq sr => ∃ q r : Nat, sq = .int .u64 q ∧ sr = .int .u64 r ∧ q * Y1 + r = U ∧ r < 4294967296 ∧ (U * 4294967296 + L1) / (Y1 * 4294967296 + Y0) ≤ q ∧ q ≤ 4294967297) (fun sq _ => (intOf sq).toNat)
    case atStart => exact ⟨q0, U - P0, rfl, by rw [Int.natCast_sub k2], by rw [HP.out]; omega, by omega, HQ.1, k1⟩
    case round =>
      obtain ⟨q, r, rfl, rfl, r1, r2, r3, r4⟩ := hrel
      have HR : Hid (q * Y1 + r = U) := r1
      clear r1
      have HD := fun h => div_down (c := L1) b7 b6 HR.out r4 b9 HQ.2 h
      have HE := fun h => div_here (c := L1) b7 HR.out r3 h
      have HDD := hide HD
      have HEE := hide HE
      clear HD HE
      have p1 : q * Y0 ≤ 18446744073709551615 := Nat.mul_le_mul r4 (show Y0 ≤ 4294967295 by omega)
      have f1 : (q : Int) * Y0 = ((q * Y0 : Nat) : Int) := by simp
      generalize hA : q * Y0 = A at *
      have HA : Hid (q * Y0 = A) := hA
      clear hA
      by_cases g1 : (4294967296 : Int) ≤ (q : Int)
      · have HF := hide (unhide HDD (.inl (by omega)))
        have i1 : (1 : Int) ≤ q := by omega
        by_cases g3 : (4294967296 : Int) ≤ (r : Int) + (Y1 : Int)
        · go_wp2_with fail
          go_meet
          obtain ⟨t1, t2, t3, t4⟩ := HF.out
          exact ⟨q - 1, by rw [Int.natCast_sub t1]; rfl, by rw [HY.1]; exact t4 (by omega), rfl⟩
        · go_wp2_with fail
          go_round
          case rel => obtain ⟨t1, t2, t3, t4⟩ := HF.out; exact ⟨q - 1, r + Y1, by rw [Int.natCast_sub t1]; rfl, by rw [Int.natCast_add], t3, by omega, t2, by omega⟩
          case measure => simp [intOf]; omega
      · by_cases g2 : 4294967296 * (r : Int) + (L1 : Int) < (A : Int)
        · have HF := hide (unhide HDD (.inr (by omega)))
          have i1 : (1 : Int) ≤ q := by have := HF.out.1; omega
          by_cases g3 : (4294967296 : Int) ≤ (r : Int) + (Y1 : Int)
          · go_wp2_with fail
            go_meet
            obtain ⟨t1, t2, t3, t4⟩ := HF.out
            exact ⟨q - 1, by rw [Int.natCast_sub t1]; rfl, by rw [HY.1]; exact t4 (by omega), rfl⟩
          · go_wp2_with fail
            go_round
            case rel => obtain ⟨t1, t2, t3, t4⟩ := HF.out; exact ⟨q - 1, r + Y1, by rw [Int.natCast_sub t1]; rfl, by rw [Int.natCast_add], t3, by omega, t2, by omega⟩
            case measure => simp [intOf]; omega
        · go_wp2_with fail
          go_meet
          exact ⟨q, rfl, by rw [HY.1]; exact unhide HEE (by omega), rfl⟩
  case rest =>
    obtain ⟨q, rfl, hq, rfl⟩ := hcut
    clear d1 d2 k1 k2 k3 HP HQ
    have HQ1 := hide hq
    obtain ⟨R, hR, hR1, hR2, hR3⟩ : ∃ R : Nat, U * 4294967296 + L1 - q * Y = R ∧ R < Y ∧ q < 4294967296 ∧ q * Y + R = U * 4294967296 + L1 := by
      obtain ⟨t1, t2, t3, t4⟩ := hq.rest (by omega) b4 b9
      exact ⟨_, rfl, t2, t3, by omega⟩
    have HR := hide (And.intro hR hR3)
    clear hR hR3 hq
    obtain ⟨q0, P0, d1, d2, k0, k2, k3, k1, kq⟩ := div_first (U := R) b7 b12 b6 b8 (by rw [← HY.1]; exact hR1)
    have HP := hide k0
    have HQ := hide kq
    clear k0 kq
    go_upto_region 21 with fail
    go_cut [17] (fun s17 wx => s17 = .int .u64 R ∧ wx = wc)
    case first =>
      go_wp2_with fail
      go_meet
      exact ⟨by rw [wrap3 U L1 q Y R HR.out.2 (by omega)], rfl⟩
    case rest =>
      obtain ⟨rfl, rfl⟩ := hcut
      go_upto_block 2 with fail
      go_cut [18] (fun s18 wx => ∃ q : Nat, s18 = .int .u64 q ∧ Div1 R L0 Y q ∧ wx = wc)
      case first =>
        clear d1 d2 e1 e2 e3 e4 e5 e6 e7 e8 e9 e10 hy1 hy2 h3 h1 h2 h0 b2 b3 b1 hs hmin
        go_wp2_with fail
        go_loop [18, 16] (fun sq sr => ∃ q r : Nat, sq = .int .u64 q ∧ sr = .int .u64 r ∧ q * Y1 + r = R ∧ r < 4294967296 ∧ (R * 4294967296 + L0) / (Y1 * 4294967296 + Y0) ≤ q ∧ q ≤ 4294967297) (fun sq _ => (intOf sq).toNat)
        case atStart => exact ⟨q0, R - P0, rfl, by rw [Int.natCast_sub k2], by rw [HP.out]; omega, by omega, HQ.1, k1⟩
        case round =>
          obtain ⟨q, r, rfl, rfl, r1, r2, r3, r4⟩ := hrel
          have HR : Hid (q * Y1 + r = R) := r1
          clear r1
          have HD := fun h => div_down (c := L0) b7 b6 HR.out r4 b8 HQ.2 h
          have HE := fun h => div_here (c := L0) b7 HR.out r3 h
          have HDD := hide HD
          have HEE := hide HE
          clear HD HE
          have p1 : q * Y0 ≤ 18446744073709551615 := Nat.mul_le_mul r4 (show Y0 ≤ 4294967295 by omega)
          have f1 : (q : Int) * Y0 = ((q * Y0 : Nat) : Int) := by simp
          generalize hA : q * Y0 = A at *
          have HA : Hid (q * Y0 = A) := hA
          clear hA
          by_cases g1 : (4294967296 : Int) ≤ (q : Int)
          · have HF := hide (unhide HDD (.inl (by omega)))
            have i1 : (1 : Int) ≤ q := by omega
            by_cases g3 : (4294967296 : Int) ≤ (r : Int) + (Y1 : Int)
            · go_wp2_with fail
              go_meet
              obtain ⟨t1, t2, t3, t4⟩ := HF.out
              exact ⟨q - 1, by rw [Int.natCast_sub t1]; rfl, by rw [HY.1]; exact t4 (by omega), rfl⟩
            · go_wp2_with fail
              go_round
              case rel => obtain ⟨t1, t2, t3, t4⟩ := HF.out; exact ⟨q - 1, r + Y1, by rw [Int.natCast_sub t1]; rfl, by rw [Int.natCast_add], t3, by omega, t2, by omega⟩
              case measure => simp [intOf]; omega
          · by_cases g2 : 4294967296 * (r : Int) + (L0 : Int) < (A : Int)
            · have HF := hide (unhide HDD (.inr (by omega)))
              have i1 : (1 : Int) ≤ q := by have := HF.out.1; omega
              by_cases g3 : (4294967296 : Int) ≤ (r : Int) + (Y1 : Int)
              · go_wp2_with fail
                go_meet
                obtain ⟨t1, t2, t3, t4⟩ := HF.out
                exact ⟨q - 1, by rw [Int.natCast_sub t1]; rfl, by rw [HY.1]; exact t4 (by omega), rfl⟩
              · go_wp2_with fail
                go_round
                case rel => obtain ⟨t1, t2, t3, t4⟩ := HF.out; exact ⟨q - 1, r + Y1, by rw [Int.natCast_sub t1]; rfl, by rw [Int.natCast_add], t3, by omega, t2, by omega⟩
                case measure => simp [intOf]; omega
            · go_wp2_with fail
              go_meet
              exact ⟨q, rfl, by rw [HY.1]; exact unhide HEE (by omega), rfl⟩
      case rest =>
      obtain ⟨p, rfl, hp, rfl⟩ := hcut
      have HP1 := hide hp
      obtain ⟨R0, hS, hS1, hS2⟩ : ∃ R0 : Nat, R * 4294967296 + L0 - p * Y = R0 ∧ p < 4294967296 ∧ p * Y + R0 = R * 4294967296 + L0 ∧ R0 < Y := by
        obtain ⟨t1, t2, t3, t4⟩ := hp.rest (by omega) hR1 b8
        exact ⟨_, rfl, t3, by omega, t2⟩
      have hw := wrap3 R L0 p Y R0 hS2.1 (by omega)
      have HS := hide hS
      clear hS hp hS2 d1 d2 k1 k2 k3
      go_wp2_with fail
      go_ret2
      have hE := div_ends (q1 := q) (q0 := p) (by omega) h3 h1 HY.2.2 (by rw [← HY.2.1]; exact HQ1) (by rw [← HY.2.1, HR.1]; exact HP1)
      rw [← HY.2.1, HR.1, HS.out] at hE
      refine ⟨?_, rfl⟩
      rw [← hE.1, ← hE.2.2]
      simp

theorem div64_small (lo y : Nat) (w : World) (h1 : lo < 18446744073709551616) (h2 : y < 18446744073709551616) (h3 : 0 < y) :
    Calls Try.prog 78 #[.int .u64 0, .int .u64 lo, .int .u64 y] w fun e w' => e = .returned (.tuple #[.int .u64 ((lo / y : Nat) : Int), .int .u64 ((lo % y : Nat) : Int)]) ∧ Below w.heap.size w w' := by
  go_enter Try.func78, Try.ntmps78
  go_wp2_with fail
  go_quiet (fail)
  go_wp2_with fail
  go_ret2
  have h4 : lo / y ≤ lo := Nat.div_le_self _ _
  refine ⟨?_, below_drewN (Below.refl _ _) _⟩
  show Ending.returned (.tuple #[.int .u64 (IntKind.u64.wrap ((lo : Int) / y)), .int .u64 ((lo : Int) % y)]) = _
  rw [show (lo : Int) / (y : Int) = ((lo / y : Nat) : Int) by simp, wrap_nat _ (Nat.lt_of_le_of_lt h4 h1)]
  simp
/-- bits.Div64, where it does not panic. -/
theorem div64_calls (hi lo y : Nat) (w : World) (h1 : lo < 18446744073709551616) (h2 : y < 18446744073709551616) (h3 : hi < y) :
    Calls Try.prog 78 #[.int .u64 hi, .int .u64 lo, .int .u64 y] w fun e w' => e = .returned (.tuple #[.int .u64 (((hi * 18446744073709551616 + lo) / y : Nat) : Int), .int .u64 (((hi * 18446744073709551616 + lo) % y : Nat) : Int)]) ∧ Below w.heap.size w w' := by
  rcases Nat.eq_zero_or_pos hi with rfl | h0
  · rw [Nat.zero_mul, Nat.zero_add]
    exact div64_small lo y w h1 h2 h3
  · exact (div64_big hi lo y w h0 h1 h2 h3).mono fun e w' h => ⟨h.1, by rw [← h.2]; exact Below.refl _ _⟩
end Go.Proofs.Ytlmjcifiofobpaa
