/- Package num: what the told functions tell. -/
import Derived.Test.YtgicljncknbgcaaN8
namespace Go.Proofs.Ytgicljncknbgcaa.Abs
open Go
set_option linter.unusedVariables false
set_option linter.unusedSimpArgs false

abbrev I64 (n : Int) : Prop := -9223372036854775808 ≤ n ∧ n ≤ 9223372036854775807
theorem wi {n : Int} (h1 : -9223372036854775808 ≤ n) (h2 : n ≤ 9223372036854775807) : IntKind.i64.wrap n = n := by rw [IntKind.wrap_i64]; omega
theorem intE_in {v : Int} (h : I64 v) : intE v = (v, 0, ()) := if_pos h
theorem intE_out {v : Int} (h : ¬ I64 v) : intE v = (0, 9, ()) := if_neg h
theorem num_size_is (N : Nat) {n : Int} (h : I64 n) : num_size N n = some (n.natAbs : Int) := by
  refine Tells.get ?_
  unfold num_size
  refine Tells.dec (fun c => Tells.some ?_) (fun c => Tells.some ?_)
  · rw [IntKind.wrap_u64, IntKind.wrap_u64]; omega
  · rw [IntKind.wrap_u64]; omega
theorem num_signed_is (N : Nat) {neg : Bool} {hi lo : Int} (h1 : 0 ≤ hi) (h2 : 0 ≤ lo) (h3 : lo ≤ 18446744073709551615) : num_signed N neg hi lo = some (intE (sg neg (hi * 18446744073709551616 + lo))) := by
  refine Tells.get ?_
  unfold num_signed
  have out : ¬ I64 (sg neg (hi * 18446744073709551616 + lo)) → Tells (some ((0, 9, ()) : Int × Int × Unit)) fun r => r = intE (sg neg (hi * 18446744073709551616 + lo)) := fun h => Tells.some (intE_out h).symm
  have ins : ∀ v : Int, v = sg neg (hi * 18446744073709551616 + lo) → I64 v → Tells (some ((v, 0, ()) : Int × Int × Unit)) fun r => r = intE (sg neg (hi * 18446744073709551616 + lo)) := fun v h hv => Tells.some (by rw [← h, intE_in hv])
  have w1 : lo ≤ 9223372036854775808 → IntKind.i64.wrap (0 - IntKind.i64.wrap lo) = -lo := fun h => by rw [IntKind.wrap_i64, IntKind.wrap_i64]; omega
  refine Tells.dec (fun c => out ?_) (fun c => ?_)
  · unfold sg I64; split <;> omega
  have hz : hi = 0 := by omega
  subst hz
  simp only [Int.zero_mul, Int.zero_add] at out ins ⊢
  refine Tells.dec (fun c => out ?_) (fun c => ?_)
  · unfold sg I64; split <;> omega
  refine Tells.ite (fun c2 => ?_) (fun c2 => ?_)
  · have c2 : lo = 9223372036854775808 := by simpa using c2
    cases neg with
    | true =>
      refine Tells.no rfl (Tells.ok rfl ?_)
      rw [w1 (by omega)]
      exact ins _ rfl ⟨by omega, by omega⟩
    | false => exact Tells.ok rfl (out (by simp only [sg]; rw [if_neg (by simp)]; unfold I64; omega))
  · have c2 : lo ≠ 9223372036854775808 := by simpa using c2
    cases neg with
    | true =>
      refine Tells.ok rfl ?_
      rw [w1 (by omega)]
      exact ins _ rfl ⟨by omega, by omega⟩
    | false =>
      refine Tells.no rfl ?_
      rw [wi (by omega) (by omega)]
      exact ins _ rfl ⟨by omega, by omega⟩
theorem num_Add_is (N : Nat) {a b : Int} (ha : I64 a) (hb : I64 b) : num_Add N a b = some (intE (a + b)) := by
  refine Tells.get ?_
  unfold num_Add
  obtain ⟨a1, a2⟩ := ha
  obtain ⟨b1, b2⟩ := hb
  by_cases h : I64 (a + b)
  · rw [wi h.1 h.2, intE_in h]
    refine Tells.ite (fun c => Tells.ite (fun c2 => ?_) (fun c2 => Tells.some rfl)) (fun c => Tells.some rfl)
    simp only [beq_iff_eq, decide_eq_decide] at c
    exfalso
    simp only [Bool.not_eq_true', beq_eq_false_iff_ne, ne_eq, decide_eq_decide] at c2
    omega
  · have e : IntKind.i64.wrap (a + b) < 0 ↔ ¬ a < 0 := by
      rw [IntKind.wrap_i64]
      unfold I64 at h
      omega
    rw [intE_out h]
    unfold I64 at h
    refine Tells.ok ?_ (Tells.ok ?_ (Tells.some rfl))
    · simp only [beq_iff_eq, decide_eq_decide]; omega
    · simp only [Bool.not_eq_true', beq_eq_false_iff_ne, ne_eq, decide_eq_decide, e]; omega
theorem num_Sub_is (N : Nat) {a b : Int} (ha : I64 a) (hb : I64 b) : num_Sub N a b = some (intE (a - b)) := by
  refine Tells.get ?_
  unfold num_Sub
  obtain ⟨a1, a2⟩ := ha
  obtain ⟨b1, b2⟩ := hb
  by_cases h : I64 (a - b)
  · rw [wi h.1 h.2, intE_in h]
    refine Tells.ite (fun c => Tells.ite (fun c2 => ?_) (fun c2 => Tells.some rfl)) (fun c => Tells.some rfl)
    simp only [Bool.not_eq_true', beq_eq_false_iff_ne, ne_eq, decide_eq_decide] at c c2
    exfalso
    omega
  · have e : IntKind.i64.wrap (a - b) < 0 ↔ ¬ a < 0 := by
      rw [IntKind.wrap_i64]
      unfold I64 at h
      omega
    rw [intE_out h]
    unfold I64 at h
    refine Tells.ok ?_ (Tells.ok ?_ (Tells.some rfl))
    · simp only [Bool.not_eq_true', beq_eq_false_iff_ne, ne_eq, decide_eq_decide]; omega
    · simp only [Bool.not_eq_true', beq_eq_false_iff_ne, ne_eq, decide_eq_decide, e]; omega
theorem I64.nat {n : Int} (h : I64 n) : n.natAbs < 18446744073709551616 := by unfold I64 at h; omega
theorem num_Mul_is (N : Nat) {a b : Int} (ha : I64 a) (hb : I64 b) : num_Mul N a b = some (intE (a * b)) := by
  unfold num_Mul
  rw [num_size_is N ha, num_size_is N hb]
  simp only [Option.bind_some]
  rw [bits_Mul64_is N _ _ ha.nat hb.nat]
  simp only [Option.bind_some]
  rw [num_signed_is N (by omega) (by omega) (by omega)]
  simp only [Option.bind_some]
  congr 2
  rw [← sgn_mul a b _ rfl]
  congr 1
  have := Nat.div_add_mod (a.natAbs * b.natAbs) 18446744073709551616
  omega
theorem num_Scale_is (N : Nat) {a : Int} (ha : I64 a) : num_Scale N a = some (intE (a * 10000)) := by
  unfold num_Scale
  rw [num_Mul_is N ha (by unfold I64; omega)]
  rfl
theorem num_Quo_is (N : Nat) {a b : Int} (ha : I64 a) (hb : I64 b) (h0 : b ≠ 0) : num_Quo N a b = some (intE (a.tdiv b)) := by
  refine Tells.get ?_
  unfold num_Quo
  refine Tells.no (by simpa using h0) ?_
  refine Tells.bindE (num_size_is N ha) (Tells.bindE (num_size_is N hb) ?_)
  refine Tells.ok (by simp; omega) ?_
  rw [tdivE (by omega), show (a.natAbs : Int) / (b.natAbs : Int) = ((a.natAbs / b.natAbs : Nat) : Int) by simp]
  have hle : a.natAbs / b.natAbs ≤ a.natAbs := Nat.div_le_self _ _
  have := ha.nat
  rw [← sgn_tdiv a b]
  generalize a.natAbs / b.natAbs = Q at *
  rw [wrap_nat _ (by omega)]
  refine Tells.bindE (num_signed_is N (by omega) (by omega) (by omega)) (Tells.some ?_)
  congr 1
  simp only [Int.zero_mul, Int.zero_add]
  rfl
theorem num_Mod_is (N : Nat) {a b : Int} (ha : I64 a) (hb : I64 b) (h0 : b ≠ 0) : num_Mod N a b = some (intE (a.tmod b)) := by
  refine Tells.get ?_
  unfold num_Mod
  refine Tells.no (by simpa using h0) ?_
  refine Tells.bindE (num_size_is N ha) (Tells.bindE (num_size_is N hb) ?_)
  refine Tells.ok (by simp; omega) ?_
  rw [tmodE (by omega), show (a.natAbs : Int) % (b.natAbs : Int) = ((a.natAbs % b.natAbs : Nat) : Int) by simp]
  have hle : a.natAbs % b.natAbs ≤ a.natAbs := Nat.mod_le _ _
  have := ha.nat
  rw [← sgn_tmod a b]
  generalize a.natAbs % b.natAbs = Q at *
  refine Tells.bindE (num_signed_is N (by omega) (by omega) (by omega)) (Tells.some ?_)
  congr 1
  simp only [Int.zero_mul, Int.zero_add]
/-- the rounded quotient of a product -/
def overV (a b d : Int) : Int := sg ((decide (a < 0) != decide (b < 0)) != decide (d < 0)) (rneN (a.natAbs * b.natAbs) d.natAbs : Nat)
theorem num_over_is (N : Nat) (hN : 10 ≤ N) {a b d : Int} (ha : I64 a) (hb : I64 b) (hd : I64 d) (h0 : d ≠ 0) : num_over N a b d = some (intE (overV a b d)) := by
  refine Tells.get ?_
  unfold num_over
  refine Tells.bindE (num_size_is N ha) (Tells.bindE (num_size_is N hb) (Tells.bindE (bits_Mul64_is N _ _ ha.nat hb.nat) (Tells.bindE (num_size_is N hd) ?_)))
  obtain ⟨X, hX⟩ : ∃ X, X = a.natAbs * b.natAbs := ⟨_, rfl⟩
  obtain ⟨D, hD⟩ : ∃ D, D = d.natAbs := ⟨_, rfl⟩
  have hD0 : 0 < D := by omega
  have hD1 : D ≤ 9223372036854775808 := by unfold I64 at hd; omega
  have hsplit := Nat.div_add_mod X 18446744073709551616
  simp only [← hX, ← hD]
  obtain ⟨hi, hhi⟩ : ∃ hi, hi = X / 18446744073709551616 := ⟨_, rfl⟩
  obtain ⟨lo, hlo⟩ : ∃ lo, lo = X % 18446744073709551616 := ⟨_, rfl⟩
  rw [← hhi, ← hlo] at hsplit ⊢
  have hlo2 : lo < 18446744073709551616 := by omega
  have hov : overV a b d = sg ((decide (a < 0) != decide (b < 0)) != decide (d < 0)) (rneN X D : Nat) := by unfold overV; rw [hX, hD]
  have hq := Nat.div_add_mod X D
  have hr := Nat.mod_lt X hD0
  refine Tells.dec (fun c => Tells.some ?_) (fun c => ?_)
  · symm
    refine intE_out ?_
    have hbig : 18446744073709551616 ≤ X / D := by
      rw [Nat.le_div_iff_mul_le hD0]
      have : 18446744073709551616 * D ≤ 18446744073709551616 * hi := Nat.mul_le_mul_left _ (by omega)
      omega
    have : X / D ≤ rneN X D := by unfold rneN; split <;> omega
    rw [hov]
    unfold sg I64
    split <;> omega
  have hlt : hi < D := by omega
  have hX2 : hi * 18446744073709551616 + lo = X := by omega
  refine Tells.bindE (bits_Div64_is N hi lo D hN hlo2 (by omega) hlt) ?_
  simp only
  rw [hX2]
  obtain ⟨Q, hQ⟩ : ∃ Q, Q = X / D := ⟨_, rfl⟩
  obtain ⟨R, hR⟩ : ∃ R, R = X % D := ⟨_, rfl⟩
  have hQ1 : Q < 18446744073709551616 := by
    rw [hQ, Nat.div_lt_iff_lt_mul hD0]
    have : (hi + 1) * 18446744073709551616 ≤ D * 18446744073709551616 := Nat.mul_le_mul_right _ hlt
    rw [Nat.mul_comm]
    omega
  rw [← hQ, ← hR] at hq ⊢
  rw [← hR] at hr
  have hrne : rneN X D = if D < 2 * R ∨ (2 * R = D ∧ Q % 2 = 1) then Q + 1 else Q := by unfold rneN; rw [← hQ, ← hR]
  have ew : IntKind.u64.wrap ((D : Int) - (R : Int)) = ((D - R : Nat) : Int) := by rw [wu (by omega) (by omega)]; omega
  have ew2 : IntKind.u64.wrap ((Q : Int) + 1) = if Q = 18446744073709551615 then 0 else ((Q + 1 : Nat) : Int) := by
    rw [IntKind.wrap_u64]; split <;> omega
  rw [ew, ew2, iAnd_one Q hQ1]
  have more : (D < 2 * R ∨ (2 * R = D ∧ Q % 2 = 1)) → Tells (bif ((if Q = 18446744073709551615 then (0 : Int) else ((Q + 1 : Nat) : Int)) == 0) then some ((0, 9, ()) : Int × Int × Unit) else
      ((num_signed N (!((!((decide (a < 0)) == (decide (b < 0)))) == (decide (d < 0)))) 0 (if Q = 18446744073709551615 then (0 : Int) else ((Q + 1 : Nat) : Int))).bind fun (r5 : Int × Int × Unit) => some r5)) fun r => r = intE (overV a b d) := by
    intro h
    rw [if_pos h] at hrne
    by_cases hm : Q = 18446744073709551615
    · rw [if_pos hm]
      refine Tells.ok rfl (Tells.some ?_)
      symm
      refine intE_out ?_
      rw [hov, hrne]
      unfold sg I64
      split <;> omega
    · rw [if_neg hm]
      refine Tells.no (by simp; omega) (Tells.bindE (num_signed_is N (by omega) (by omega) (by omega)) (Tells.some ?_))
      rw [hov, hrne]
      simp only [Int.zero_mul, Int.zero_add]
      rfl
  have same : ¬ (D < 2 * R ∨ (2 * R = D ∧ Q % 2 = 1)) → Tells ((num_signed N (!((!((decide (a < 0)) == (decide (b < 0)))) == (decide (d < 0)))) 0 (Q : Int)).bind fun (r5 : Int × Int × Unit) => some r5) fun r => r = intE (overV a b d) := by
    intro h
    rw [if_neg h] at hrne
    refine Tells.bindE (num_signed_is N (by omega) (by omega) (by omega)) (Tells.some ?_)
    rw [hov, hrne]
    simp only [Int.zero_mul, Int.zero_add]
    rfl
  refine Tells.dec (fun c1 => more (by omega)) (fun c1 => Tells.ite (fun c2 => ?_) (fun c2 => ?_))
  · have c2 : (R : Int) = ((D - R : Nat) : Int) := by simpa using c2
    refine Tells.ite (fun c3 => more ?_) (fun c3 => same ?_)
    · have : ((Q % 2 : Nat) : Int) = 1 := by simpa using c3
      omega
    · have : ¬ ((Q % 2 : Nat) : Int) = 1 := by simpa using c3
      omega
  · have c2 : (R : Int) ≠ ((D - R : Nat) : Int) := by simpa using c2
    exact same (by omega)
theorem num_MulDec_is (N : Nat) (hN : 10 ≤ N) {a b : Int} (ha : I64 a) (hb : I64 b) : num_MulDec N a b = some (intE (overV a b 10000)) := by
  unfold num_MulDec
  rw [num_over_is N hN ha hb (by unfold I64; omega) (by omega)]
  rfl
theorem num_DivDec_is (N : Nat) (hN : 10 ≤ N) {a b : Int} (ha : I64 a) (hb : I64 b) (h0 : b ≠ 0) : num_DivDec N a b = some (intE (overV a 10000 b)) := by
  refine Tells.get ?_
  unfold num_DivDec
  refine Tells.no (by simpa using h0) (Tells.bindE (num_over_is N hN ha (by unfold I64; omega) hb h0) (Tells.some rfl))
theorem rneN_zero {d : Nat} (h : 0 < d) : rneN 0 d = 0 := by
  unfold rneN
  rw [Nat.zero_mod, Nat.zero_div, if_neg (by omega)]
theorem overV_even (a b : Int) {d : Int} (hd : d ≠ 0) : overV a b d = evenV (a * b) d := by
  unfold overV evenV
  rw [Int.natAbs_mul]
  by_cases ha : a = 0
  · subst ha
    rw [Int.natAbs_zero, Nat.zero_mul, rneN_zero (by omega)]
    simp [sg]
  · by_cases hb : b = 0
    · subst hb
      rw [Int.natAbs_zero, Nat.mul_zero, rneN_zero (by omega)]
      simp [sg]
    · have e : decide (a * b < 0) = (decide (a < 0) != decide (b < 0)) := by
        by_cases h1 : a < 0 <;> by_cases h2 : b < 0
        · have := Int.mul_pos_of_neg_of_neg h1 h2
          simp [h1, h2]; omega
        · have := Int.mul_neg_of_neg_of_pos h1 (show 0 < b by omega)
          simp [h1, h2]; omega
        · have := Int.mul_neg_of_pos_of_neg (show 0 < a by omega) h2
          simp [h1, h2]; omega
        · have := Int.mul_pos (show 0 < a by omega) (show 0 < b by omega)
          simp [h1, h2]; omega
      rw [e]
theorem w1_known_is (N : Nat) (hN : 10 ≤ N) : w1_known N = some true := by
  unfold w1_known
  rw [num_Quo_is N (by unfold I64; omega) (by unfold I64; omega) (by omega), num_Mod_is N (by unfold I64; omega) (by unfold I64; omega) (by omega), num_MulDec_is N hN (by unfold I64; omega) (by unfold I64; omega),
    num_DivDec_is N hN (by unfold I64; omega) (by unfold I64; omega) (by omega), num_Quo_is N (a := -9223372036854775808) (by unfold I64; omega) (by unfold I64; omega) (by omega)]
  decide +kernel
theorem w1_NumDoes_is (N : Nat) {a b : Int} (ha : I64 a) (hb : I64 b) (hN : 100000 ≤ N) (hl : N ≤ 1000000000) : w1_NumDoes N a b = some true := by
  refine Tells.get ?_
  unfold w1_NumDoes
  refine Tells.bind (r1_Of_tells ha.1 ha.2 (by omega)) fun x hx => Tells.bind (r1_Of_tells hb.1 hb.2 (by omega)) fun y hy => Tells.bind (r1_Of_tells (n := 10000) (by omega) (by omega) (by omega)) fun u hu => ?_
  refine Tells.bindE (num_Add_is N ha hb) (Tells.bindE (num_Sub_is N ha hb) (Tells.bindE (num_Mul_is N ha hb) (Tells.bindE (num_Scale_is N ha) (Tells.bindE (num_MulDec_is N (by omega) ha hb) ?_))))
  have told : ∀ {x : T_N1} {v : Int} {n : Nat}, Can x v n → n ≤ 50 → Tells (w1_told N (intE v).1 (intE v).2.1 x) fun r => r = true := fun hx hn => (w1_told_tells hx (by omega) hl).mono fun r hr => hr.2 rfl
  have go : ∀ {z : Bool} {k : Option Bool}, z = true → Tells k (fun r => r = true) → Tells (bif !z then some false else k) fun r => r = true := fun hz hk => by subst hz; exact hk
  have e10 : (10000 : Int) ≠ 0 := by omega
  refine Tells.bind (r1_Add_tells hx hy (by omega) hl) fun r hr => Tells.bind (told hr (by omega)) fun z hz => go hz ?_
  refine Tells.bind (r1_Sub_tells hx hy (by omega) hl) fun r hr => Tells.bind (told hr (by omega)) fun z hz => go hz ?_
  refine Tells.bind (r1_Mul_tells hx hy (by omega) hl) fun r hr => Tells.bind (told hr (by omega)) fun z hz => go hz ?_
  refine Tells.bind (r1_Mul_tells hx hu (by omega) hl) fun r hr => Tells.bind (told hr (by omega)) fun z hz => go hz ?_
  refine Tells.bind (r1_Mul_tells hx hy (by omega) hl) fun r hr => Tells.bind (r1_Even_tells hr hu e10 (by omega) hl) fun r2 hr2 => ?_
  rw [overV_even a b e10]
  refine Tells.bind (told hr2 (by omega)) fun z hz => go hz ?_
  by_cases h0 : b = 0
  · subst h0
    refine Tells.bindE (r := (0, 10, ())) rfl (Tells.bindE (r := (0, 10, ())) rfl (Tells.bindE (r := (0, 10, ())) rfl ?_))
    refine Tells.bindE (w1_known_is N (by omega)) (Tells.some rfl)
  · refine Tells.bindE (num_Quo_is N ha hb h0) (Tells.bindE (num_Mod_is N ha hb h0) (Tells.bindE (num_DivDec_is N (by omega) ha hb h0) ?_))
    refine Tells.no (by simpa using h0) ?_
    refine Tells.bind (r1_Quo_tells hx hy h0 (by omega) hl) fun q hq => ?_
    refine Tells.bind (told hq.1 (by omega)) fun z hz => ?_
    subst hz
    refine Tells.bind (told hq.2 (by omega)) fun z hz => ?_
    subst hz
    refine Tells.bind (r1_Mul_tells hx hu (by omega) hl) fun r hr => Tells.bind (r1_Even_tells hr hy h0 (by omega) hl) fun r2 hr2 => ?_
    rw [overV_even a 10000 h0]
    refine Tells.bind (told hr2 (by omega)) fun z hz => ?_
    subst hz
    exact Tells.bindE (w1_known_is N (by omega)) (Tells.some rfl)
end Go.Proofs.Ytgicljncknbgcaa.Abs
