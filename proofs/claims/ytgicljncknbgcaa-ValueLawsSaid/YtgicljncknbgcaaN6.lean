/- Division of 128 bits: the numbers. -/
import Derived.Test.YtgicljncknbgcaaN5
namespace Go.Proofs.Ytgicljncknbgcaa.Abs
open Go
set_option linter.unusedVariables false
set_option linter.unusedSimpArgs false

theorem q_le (u c y1 y0 B : Nat) (hB : B = 4294967296) (hy1 : 2147483648 ≤ y1) (hy0 : y0 < B) (hc : c < B) (hu : u < y1 * B + y0) :
    (u * B + c) / (y1 * B + y0) ≤ u / y1 ∧ u / y1 ≤ 4294967297 ∧ (u * B + c) / (y1 * B + y0) < B := by
  subst hB
  refine ⟨?_, ?_, ?_⟩
  · rw [Nat.le_div_iff_mul_le (by omega)]
    have h := Nat.div_mul_le_self (u * 4294967296 + c) (y1 * 4294967296 + y0)
    generalize (u * 4294967296 + c) / (y1 * 4294967296 + y0) = Q at *
    have h1 : Q * (y1 * 4294967296 + y0) = Q * y1 * 4294967296 + Q * y0 := by rw [Nat.mul_add, ← Nat.mul_assoc]
    have h2 : 0 ≤ Q * y0 := Nat.zero_le _
    rw [h1] at h
    generalize Q * y1 = a at *
    generalize Q * y0 = b at *
    omega
  · have : u / y1 < 4294967298 := by
      rw [Nat.div_lt_iff_lt_mul (by omega)]
      omega
    omega
  · rw [Nat.div_lt_iff_lt_mul (by omega)]
    omega

/-- the test says no: found -/
theorem found (u c y1 y0 q : Nat) (hy : 0 < y1 * 4294967296 + y0) (hq : (u * 4294967296 + c) / (y1 * 4294967296 + y0) ≤ q) (hu : q * y1 ≤ u)
    (ht : q * y0 ≤ 4294967296 * (u - q * y1) + c) : q = (u * 4294967296 + c) / (y1 * 4294967296 + y0) := by
  refine Nat.le_antisymm ?_ hq
  rw [Nat.le_div_iff_mul_le hy, Nat.mul_add, ← Nat.mul_assoc]
  generalize q * y1 = a at *
  generalize q * y0 = b at *
  omega

/-- the test says yes: it is less -/
theorem lower (u c y1 y0 q : Nat) (hy : 0 < y1 * 4294967296 + y0) (hu : q * y1 ≤ u)
    (ht : 4294967296 * (u - q * y1) + c < q * y0) : (u * 4294967296 + c) / (y1 * 4294967296 + y0) ≤ q - 1 ∧ 1 ≤ q := by
  have h : (u * 4294967296 + c) / (y1 * 4294967296 + y0) < q := by
    rw [Nat.div_lt_iff_lt_mul hy, Nat.mul_add, ← Nat.mul_assoc]
    generalize q * y1 = a at *
    generalize q * y0 = b at *
    omega
  generalize (u * 4294967296 + c) / (y1 * 4294967296 + y0) = Q at *
  omega
theorem div_start (hi lo y s : Nat) (h0 : 0 < hi) (h1 : lo < 18446744073709551616) (h3 : hi < y) (hs : s ≤ 63) (hy1 : 9223372036854775808 ≤ y * 2 ^ s) (hy2 : y * 2 ^ s < 18446744073709551616) :
    (hi * 18446744073709551616 + lo) * 2 ^ s % 18446744073709551616 = lo * 2 ^ s % 18446744073709551616 ∧
    (hi * 2 ^ s) ||| (lo / 2 ^ (64 - s)) = (hi * 18446744073709551616 + lo) * 2 ^ s / 18446744073709551616 ∧ hi * 2 ^ s + 2 ^ s ≤ y * 2 ^ s ∧
    (hi * 18446744073709551616 + lo) * 2 ^ s / 18446744073709551616 < y * 2 ^ s := by
  have e64 : 2 ^ s * 2 ^ (64 - s) = 18446744073709551616 := by rw [← Nat.pow_add, show s + (64 - s) = 64 by omega]
  have hp : 0 < 2 ^ s := Nat.two_pow_pos s
  have hp2 : 0 < 2 ^ (64 - s) := Nat.two_pow_pos _
  have hle : hi * 2 ^ s + 2 ^ s ≤ y * 2 ^ s := by
    have : (hi + 1) * 2 ^ s ≤ y * 2 ^ s := Nat.mul_le_mul_right _ h3
    rw [Nat.add_mul, Nat.one_mul] at this; exact this
  have hlo : lo / 2 ^ (64 - s) < 2 ^ s := by
    rw [Nat.div_lt_iff_lt_mul hp2, e64]; exact h1
  have ex : (hi * 18446744073709551616 + lo) * 2 ^ s = 18446744073709551616 * (hi * 2 ^ s) + lo * 2 ^ s := by
    rw [Nat.add_mul, Nat.mul_right_comm, Nat.mul_comm (hi * 2 ^ s)]
  have ed : lo * 2 ^ s / 18446744073709551616 = lo / 2 ^ (64 - s) := by
    rw [← e64, Nat.mul_comm (2 ^ s) (2 ^ (64 - s)), Nat.mul_div_mul_right _ _ hp]
  have eq2 : (hi * 18446744073709551616 + lo) * 2 ^ s / 18446744073709551616 = hi * 2 ^ s + lo / 2 ^ (64 - s) := by
    rw [ex, Nat.mul_add_div (by omega), ed]
  refine ⟨?_, ?_, hle, ?_⟩
  · rw [ex, Nat.mul_add_mod]
  · rw [eq2, Nat.mul_comm hi, ← Nat.two_pow_add_eq_or_of_lt hlo]
  · rw [eq2]; omega


/-- one digit of the quotient is found; its remainder -/
def Div1 (U c Y q : Nat) : Prop := q = (U * 4294967296 + c) / Y
theorem Div1.rest {U c Y q : Nat} (h : Div1 U c Y q) (hY : 0 < Y) (hU : U < Y) (hc : c < 4294967296) : q * Y ≤ U * 4294967296 + c ∧ U * 4294967296 + c - q * Y < Y ∧ q < 4294967296 ∧ U * 4294967296 + c - q * Y = (U * 4294967296 + c) % Y := by
  unfold Div1 at h
  have h1 := Nat.div_add_mod (U * 4294967296 + c) Y
  have h2 := Nat.mod_lt (U * 4294967296 + c) hY
  have h3 : (U * 4294967296 + c) / Y < 4294967296 := by
    rw [Nat.div_lt_iff_lt_mul hY]
    omega
  rw [← h, Nat.mul_comm] at h1
  generalize q * Y = a at *
  omega
/-- the round's number is one too many: what is behind it -/
theorem div_down {U c Y1 Y0 q r : Nat} (hY1 : 2147483648 ≤ Y1) (hY0 : Y0 < 4294967296) (hr : q * Y1 + r = U) (hq : q ≤ 4294967297) (hc : c < 4294967296)
    (hQ : (U * 4294967296 + c) / (Y1 * 4294967296 + Y0) < 4294967296)
    (h : 4294967296 ≤ q ∨ 4294967296 * r + c < q * Y0) : 1 ≤ q ∧ (U * 4294967296 + c) / (Y1 * 4294967296 + Y0) ≤ q - 1 ∧ (q - 1) * Y1 + (r + Y1) = U ∧
      (4294967296 ≤ r + Y1 → Div1 U c (Y1 * 4294967296 + Y0) (q - 1)) := by
  have h1 : 1 ≤ q ∧ (U * 4294967296 + c) / (Y1 * 4294967296 + Y0) ≤ q - 1 := by
    rcases h with h | h
    · omega
    · have := lower U c Y1 Y0 q (by omega) (by omega) (by rw [show U - q * Y1 = r by omega]; exact h)
      omega
  have h2 : (q - 1) * Y1 + (r + Y1) = U := by
    obtain ⟨p, rfl⟩ : ∃ p, q = p + 1 := ⟨q - 1, by omega⟩
    rw [Nat.add_sub_cancel]
    rw [Nat.add_mul] at hr
    omega
  refine ⟨h1.1, h1.2, h2, fun h3 => found U c Y1 Y0 (q - 1) (by omega) h1.2 (by omega) ?_⟩
  rw [show U - (q - 1) * Y1 = r + Y1 by omega]
  have h4 : (q - 1) * Y0 ≤ 4294967296 * 4294967295 := Nat.mul_le_mul (by omega) (by omega)
  omega
theorem div_here {U c Y1 Y0 q r : Nat} (hY1 : 2147483648 ≤ Y1) (hr : q * Y1 + r = U) (hQ : (U * 4294967296 + c) / (Y1 * 4294967296 + Y0) ≤ q) (h : q * Y0 ≤ 4294967296 * r + c) : Div1 U c (Y1 * 4294967296 + Y0) q :=
  found U c Y1 Y0 q (by omega) hQ (by omega) (by rw [show U - q * Y1 = r by omega]; exact h)
theorem div_first {U c Y1 Y0 : Nat} (hY1 : 2147483648 ≤ Y1) (hY1' : Y1 < 4294967296) (hY0 : Y0 < 4294967296) (hc : c < 4294967296) (hU : U < Y1 * 4294967296 + Y0) :
    ∃ q P : Nat, (U : Int) / Y1 = q ∧ (q : Int) * Y1 = P ∧ q * Y1 = P ∧ P ≤ U ∧ U < P + Y1 ∧ q ≤ 4294967297 ∧ (U * 4294967296 + c) / (Y1 * 4294967296 + Y0) ≤ q ∧ (U * 4294967296 + c) / (Y1 * 4294967296 + Y0) < 4294967296 := by
  obtain ⟨c1, c2, c3⟩ := q_le U c Y1 Y0 4294967296 rfl hY1 hY0 hc hU
  exact ⟨U / Y1, U / Y1 * Y1, by simp, by simp, rfl, Nat.div_mul_le_self _ _, Nat.lt_div_mul_add (by omega), c2, c1, c3⟩
/-- what both digits make -/
theorem div_ends {hi lo y s U L1 L0 q1 q0 : Nat} (hy : 0 < y) (hh : hi < y) (hl : lo < 18446744073709551616) (hs : (hi * 18446744073709551616 + lo) * 2 ^ s = U * 18446744073709551616 + L1 * 4294967296 + L0)
    (h1 : Div1 U L1 (y * 2 ^ s) q1) (h0 : Div1 (U * 4294967296 + L1 - q1 * (y * 2 ^ s)) L0 (y * 2 ^ s) q0) :
    q1 * 4294967296 + q0 = (hi * 18446744073709551616 + lo) / y ∧ q1 * 4294967296 + q0 < 18446744073709551616 ∧
      ((U * 4294967296 + L1 - q1 * (y * 2 ^ s)) * 4294967296 + L0 - q0 * (y * 2 ^ s)) / 2 ^ s = (hi * 18446744073709551616 + lo) % y := by
  have hp : 0 < 2 ^ s := Nat.two_pow_pos s
  have hY : 0 < y * 2 ^ s := Nat.mul_pos hy hp
  unfold Div1 at h1 h0
  have a1 := Nat.div_add_mod (U * 4294967296 + L1) (y * 2 ^ s)
  have m1 := Nat.mod_lt (U * 4294967296 + L1) hY
  rw [← h1, Nat.mul_comm] at a1
  have a0 := Nat.div_add_mod ((U * 4294967296 + L1 - q1 * (y * 2 ^ s)) * 4294967296 + L0) (y * 2 ^ s)
  have m0 := Nat.mod_lt ((U * 4294967296 + L1 - q1 * (y * 2 ^ s)) * 4294967296 + L0) hY
  rw [← h0, Nat.mul_comm] at a0
  have hd := Nat.mul_div_mul_right (hi * 18446744073709551616 + lo) y hp
  have hm := Nat.mul_mod_mul_right (2 ^ s) (hi * 18446744073709551616 + lo) y
  have hN : (hi * 18446744073709551616 + lo) / y < 18446744073709551616 := by
    rw [Nat.div_lt_iff_lt_mul hy]
    have : (hi + 1) * 18446744073709551616 ≤ y * 18446744073709551616 := Nat.mul_le_mul_right _ hh
    omega
  rw [hs] at hd hm
  have he : U * 18446744073709551616 + L1 * 4294967296 + L0 = ((U * 4294967296 + L1 - q1 * (y * 2 ^ s)) * 4294967296 + L0 - q0 * (y * 2 ^ s)) + (y * 2 ^ s) * (q1 * 4294967296 + q0) := by
    have e2 : (y * 2 ^ s) * (q1 * 4294967296 + q0) = q1 * (y * 2 ^ s) * 4294967296 + q0 * (y * 2 ^ s) := by
      generalize y * 2 ^ s = Y
      rw [Nat.mul_add, ← Nat.mul_assoc, Nat.mul_comm Y q1, Nat.mul_comm Y q0]
    rw [e2]
    generalize q1 * (y * 2 ^ s) = a at *
    generalize q0 * (y * 2 ^ s) = b at *
    omega
  have hr : (U * 4294967296 + L1 - q1 * (y * 2 ^ s)) * 4294967296 + L0 - q0 * (y * 2 ^ s) < y * 2 ^ s := by
    generalize q1 * (y * 2 ^ s) = a at *
    generalize q0 * (y * 2 ^ s) = b at *
    omega
  rw [he, Nat.add_mul_div_left _ _ hY, Nat.div_eq_of_lt hr, Nat.zero_add] at hd
  rw [he, Nat.add_mul_mod_self_left, Nat.mod_eq_of_lt hr] at hm
  refine ⟨hd, by omega, ?_⟩
  rw [hm, Nat.mul_div_cancel _ hp]


/-! words of 64 bits -/
theorem wu {n : Int} (h1 : 0 ≤ n) (h2 : n ≤ 18446744073709551615) : IntKind.u64.wrap n = n := by rw [IntKind.wrap_u64]; omega
theorem wrap_nat (a : Nat) (h : a < 18446744073709551616) : IntKind.u64.wrap (a : Int) = (a : Int) := by rw [IntKind.wrap_u64]; omega
theorem ofInt_nat (a : Nat) (h : a < 18446744073709551616) : (BitVec.ofInt 64 (a : Int)).toNat = a := by
  rw [BitVec.ofInt_natCast, BitVec.toNat_ofNat]
  exact Nat.mod_eq_of_lt h
theorem iAnd_nat (a b : Nat) (ha : a < 18446744073709551616) (hb : b < 18446744073709551616) : iBits .and .u64 (a : Int) (b : Int) = ((a &&& b : Nat) : Int) := by
  show IntKind.u64.wrap (((BitVec.ofInt 64 (a : Int) &&& BitVec.ofInt 64 (b : Int)).toNat : Nat) : Int) = _
  rw [BitVec.toNat_and, ofInt_nat a ha, ofInt_nat b hb]
  exact wrap_nat _ (Nat.lt_of_le_of_lt Nat.and_le_left ha)
theorem iOr_nat (a b : Nat) (ha : a < 18446744073709551616) (hb : b < 18446744073709551616) : iBits .or .u64 (a : Int) (b : Int) = ((a ||| b : Nat) : Int) := by
  show IntKind.u64.wrap (((BitVec.ofInt 64 (a : Int) ||| BitVec.ofInt 64 (b : Int)).toNat : Nat) : Int) = _
  rw [BitVec.toNat_or, ofInt_nat a ha, ofInt_nat b hb]
  exact wrap_nat _ (Nat.or_lt_two_pow (n := 64) ha hb)
theorem iAnd_low (a : Nat) (ha : a < 18446744073709551616) : iBits .and .u64 (a : Int) 4294967295 = ((a % 4294967296 : Nat) : Int) := by
  have h := iAnd_nat a 4294967295 ha (by omega)
  rw [Nat.and_two_pow_sub_one_eq_mod a 32] at h
  exact h
theorem iAnd_one (a : Nat) (ha : a < 18446744073709551616) : iBits .and .u64 (a : Int) 1 = ((a % 2 : Nat) : Int) := by
  have h := iAnd_nat a 1 ha (by omega)
  rw [Nat.and_two_pow_sub_one_eq_mod a 1] at h
  exact h
theorem iShr_nat (a s : Nat) (hs : s ≤ 64) : iShr .u64 (a : Int) (s : Int) = ((a / 2 ^ s : Nat) : Int) := by
  show (a : Int).fdiv (2 ^ (min (s : Int).toNat 64)) = _
  rw [Int.toNat_natCast, Nat.min_eq_left hs, Int.fdiv_eq_ediv_of_nonneg _ (Int.le_of_lt (Int.pow_pos (by omega)))]
  simp
theorem iShl_nat (a s : Nat) (hs : s ≤ 64) : iShl .u64 (a : Int) (s : Int) = IntKind.u64.wrap ((a * 2 ^ s : Nat) : Int) := by
  show IntKind.u64.wrap ((a : Int) * 2 ^ (min (s : Int).toNat 64)) = _
  rw [Int.toNat_natCast, Nat.min_eq_left hs]
  simp
theorem iShr32 (a : Nat) : iShr .u64 (a : Int) (32 : Int) = ((a / 4294967296 : Nat) : Int) := iShr_nat a 32 (by omega)
theorem prod32 {a b : Nat} (ha : a < 4294967296) (hb : b < 4294967296) : a * b ≤ 18446744065119617025 := Nat.mul_le_mul (show a ≤ 4294967295 by omega) (show b ≤ 4294967295 by omega)
theorem wmul {a b : Nat} (ha : a < 4294967296) (hb : b < 4294967296) : IntKind.u64.wrap ((a : Int) * (b : Int)) = ((a * b : Nat) : Int) := by
  have := prod32 ha hb
  rw [← Int.natCast_mul]
  exact wrap_nat _ (by omega)
theorem wadd {a b : Nat} (h : a + b < 18446744073709551616) : IntKind.u64.wrap ((a : Int) + (b : Int)) = ((a + b : Nat) : Int) := by
  rw [← Int.natCast_add]
  exact wrap_nat _ h
theorem bits_Mul64_is (N x y : Nat) (hx : x < 18446744073709551616) (hy : y < 18446744073709551616) : bits_Mul64 N (x : Int) (y : Int) = some (((x * y / 18446744073709551616 : Nat) : Int), ((x * y % 18446744073709551616 : Nat) : Int), ()) := by
  unfold bits_Mul64
  rw [iAnd_low x hx, iAnd_low y hy, iShr32 x, iShr32 y]
  obtain ⟨a, ha⟩ : ∃ a, a = x / 4294967296 := ⟨_, rfl⟩
  obtain ⟨b, hb⟩ : ∃ b, b = x % 4294967296 := ⟨_, rfl⟩
  obtain ⟨c, hc⟩ : ∃ c, c = y / 4294967296 := ⟨_, rfl⟩
  obtain ⟨d, hd⟩ : ∃ d, d = y % 4294967296 := ⟨_, rfl⟩
  have h1 : a < 4294967296 := by omega
  have h2 : b < 4294967296 := by omega
  have h3 : c < 4294967296 := by omega
  have h4 : d < 4294967296 := by omega
  have ex : x = a * 4294967296 + b := by omega
  have ey : y = c * 4294967296 + d := by omega
  rw [← ha, ← hb, ← hc, ← hd]
  have p1 := prod32 h2 h4
  have p2 := prod32 h1 h4
  have p3 := prod32 h2 h3
  have p4 := prod32 h1 h3
  have exy : x * y = (a * c) * 18446744073709551616 + (a * d + b * c) * 4294967296 + b * d := by
    rw [ex, ey, Nat.add_mul, Nat.mul_add, Nat.mul_add]
    have e1 : a * 4294967296 * (c * 4294967296) = a * c * 18446744073709551616 := by
      rw [Nat.mul_mul_mul_comm]
    have e2 : a * 4294967296 * d = a * d * 4294967296 := by rw [Nat.mul_right_comm]
    have e3 : b * (c * 4294967296) = b * c * 4294967296 := by rw [Nat.mul_assoc]
    rw [e1, e2, e3]
    omega
  rw [wmul h2 h4, wmul h1 h4, wmul h2 h3, wmul h1 h3, iShr32 (b * d)]
  rw [wadd (a := a * d) (b := b * d / 4294967296) (by omega), iShr32, iAnd_low _ (by omega)]
  rw [wadd (a := (a * d + b * d / 4294967296) % 4294967296) (b := b * c) (by omega), iShr32]
  rw [wadd (a := a * c) (b := (a * d + b * d / 4294967296) / 4294967296) (by omega)]
  rw [wadd (a := a * c + (a * d + b * d / 4294967296) / 4294967296) (b := ((a * d + b * d / 4294967296) % 4294967296 + b * c) / 4294967296) (by omega)]
  rw [← Int.natCast_mul, exy]
  generalize a * c = S at *
  generalize a * d = Q at *
  generalize b * c = R at *
  generalize b * d = T at *
  have e1 : S + (Q + T / 4294967296) / 4294967296 + ((Q + T / 4294967296) % 4294967296 + R) / 4294967296 = (S * 18446744073709551616 + (Q + R) * 4294967296 + T) / 18446744073709551616 := by omega
  rw [e1, IntKind.wrap_u64]
  congr 3
end Go.Proofs.Ytgicljncknbgcaa.Abs
