/- Package value: what the told functions tell: comparisons, differences. -/
import Derived.Test.YtgicljncknbgcaaV1
namespace Go.Proofs.Ytgicljncknbgcaa.Abs
open Go
set_option linter.unusedVariables false
set_option linter.unusedSimpArgs false

def byV (v : T_Value) : Nat := if v.1 = 1 then 10000 else 1
def worth (v : T_Value) : Int := v.2.1 * (byV v : Int)
theorem value_units_is (N : Nat) (v : T_Value) (h : I64 v.2.1) : value_units N v = some (decide (v.2.1 < 0), ((v.2.1.natAbs * byV v / 18446744073709551616 : Nat) : Int), ((v.2.1.natAbs * byV v % 18446744073709551616 : Nat) : Int), ()) := by
  have hn := h.nat
  obtain ⟨k, n, s, u⟩ := v
  dsimp only at h hn ⊢
  have e1 : n < 0 → IntKind.u64.wrap (0 - IntKind.u64.wrap n) = ((n.natAbs : Nat) : Int) := fun h2 => by
    obtain ⟨a1, a2⟩ := h
    rw [IntKind.wrap_u64, IntKind.wrap_u64]; omega
  have e2 : ¬ n < 0 → IntKind.u64.wrap n = ((n.natAbs : Nat) : Int) := fun h2 => by
    obtain ⟨a1, a2⟩ := h
    rw [IntKind.wrap_u64]; omega
  have m1 := bits_Mul64_is N n.natAbs 10000 hn (by omega)
  have m2 := bits_Mul64_is N n.natAbs 1 hn (by omega)
  unfold value_units byV
  dsimp only
  by_cases hneg : n < 0
  · rw [e1 hneg]
    by_cases hk : k = 1
    · have hk' : (k == 1) = true := by simpa using hk
      simp only [hneg, hk', decide_true, cond_true, if_pos hk]
      rw [show (10000 : Int) = ((10000 : Nat) : Int) from rfl, m1]
      rfl
    · have hk' : (k == 1) = false := by simpa using hk
      simp only [hneg, hk', decide_true, cond_true, cond_false, if_neg hk]
      rw [show (1 : Int) = ((1 : Nat) : Int) from rfl, m2]
      rfl
  · rw [e2 hneg]
    by_cases hk : k = 1
    · have hk' : (k == 1) = true := by simpa using hk
      simp only [hneg, hk', decide_false, cond_true, cond_false, if_pos hk]
      rw [show (10000 : Int) = ((10000 : Nat) : Int) from rfl, m1]
      rfl
    · have hk' : (k == 1) = false := by simpa using hk
      simp only [hneg, hk', decide_false, cond_false, if_neg hk]
      rw [show (1 : Int) = ((1 : Nat) : Int) from rfl, m2]
      rfl
theorem value_isNumber_is (N : Nat) (v : T_Value) : value_isNumber N v = some (decide (v.1 = 1 ∨ v.1 = 2)) := by
  unfold value_isNumber
  by_cases h1 : v.1 = 1
  · simp [h1]
  · by_cases h2 : v.1 = 2
    · simp [h2]
    · have e1 : (v.1 == 1) = false := by simpa using h1
      have e2 : (v.1 == 2) = false := by simpa using h2
      simp [e1, e2, h1, h2]
def cmpV (a b : T_Value) : Int × Bool × Unit :=
  if (a.1 = 1 ∨ a.1 = 2) ∧ (b.1 = 1 ∨ b.1 = 2) then (cmpI (worth a) (worth b), true, ())
  else if a.1 = b.1 ∧ 3 ≤ a.1 ∧ a.1 ≤ 5 then (ordV a b, true, ()) else (0, false, ())
theorem cmp128 (X Y : Nat) : (if cmpI ((X / 18446744073709551616 : Nat) : Int) ((Y / 18446744073709551616 : Nat) : Int) ≠ 0 then cmpI ((X / 18446744073709551616 : Nat) : Int) ((Y / 18446744073709551616 : Nat) : Int) else cmpI ((X % 18446744073709551616 : Nat) : Int) ((Y % 18446744073709551616 : Nat) : Int)) = cmpI X Y := by
  have h1 := Nat.div_add_mod X 18446744073709551616
  have h2 := Nat.div_add_mod Y 18446744073709551616
  have h3 := Nat.mod_lt X (show 18446744073709551616 > 0 by omega)
  have h4 := Nat.mod_lt Y (show 18446744073709551616 > 0 by omega)
  generalize X / 18446744073709551616 = a at *
  generalize X % 18446744073709551616 = b at *
  generalize Y / 18446744073709551616 = c at *
  generalize Y % 18446744073709551616 = d at *
  unfold cmpI
  (repeat' split) <;> omega
theorem worth_sign (v : T_Value) : (worth v < 0 ↔ v.2.1 < 0) ∧ (worth v).natAbs = v.2.1.natAbs * byV v := by
  unfold worth byV
  split
  · exact ⟨by omega, by omega⟩
  · exact ⟨by omega, by omega⟩
theorem Compare_B1_is (N : Nat) (hN : 4 ≤ N) (a b : T_Value) (h : ¬ ((a.1 = 1 ∨ a.1 = 2) ∧ (b.1 = 1 ∨ b.1 = 2))) (u : Unit) : value_Compare_B1 N a.1 a.2.1 a.2.2.1 b.1 b.2.1 b.2.2.1 u = some (cmpV a b) := by
  unfold value_Compare_B1 cmpV
  rw [if_neg h]
  have ho : value_Order N (a.1, a.2.1, a.2.2.1, ()) (b.1, b.2.1, b.2.2.1, ()) = some (ordV a b) := value_Order_is N hN a b
  rw [ho]
  by_cases h1 : a.1 = b.1
  · by_cases h2 : a.1 < 3
    · rw [if_neg (by omega)]
      simp [h1, h1 ▸ h2]
    · by_cases h3 : a.1 > 5
      · rw [if_neg (by omega)]
        have h2' : ¬ b.1 < 3 := h1 ▸ h2
        have h3' : b.1 > 5 := h1 ▸ h3
        simp [h1, h2', h3']
      · rw [if_pos (by omega)]
        have h2' : ¬ b.1 < 3 := h1 ▸ h2
        have h3' : ¬ b.1 > 5 := h1 ▸ h3
        simp [h1, h2', h3']
  · rw [if_neg (by omega)]
    have e : (a.1 != b.1) = true := by simpa using h1
    simp [e]
theorem value_Compare_is (N : Nat) (hN : 4 ≤ N) (a b : T_Value) (ha : I64 a.2.1) (hb : I64 b.2.1) : value_Compare N a b = some (cmpV a b) := by
  unfold value_Compare value_Compare_t
  rw [value_isNumber_is, value_isNumber_is, value_units_is N a ha, value_units_is N b hb]
  simp only [Option.bind_some, at1_pos (show 0 < N by omega)]
  by_cases h1 : a.1 = 1 ∨ a.1 = 2
  · by_cases h2 : b.1 = 1 ∨ b.1 = 2
    · simp only [h1, h2, decide_true, cond_true, cmp_Compare_uint64_is, Option.bind_some, cmp_Or2 N hN]
      have hc : cmpV a b = (cmpI (worth a) (worth b), true, ()) := if_pos ⟨h1, h2⟩
      rw [hc]
      obtain ⟨s1, s2⟩ := worth_sign a
      obtain ⟨t1, t2⟩ := worth_sign b
      rw [← s2, ← t2, cmp128]
      have hr := cmpI_cp.rng ((worth a).natAbs : Int) ((worth b).natAbs : Int)
      have hi : inI64 (0 - cmpI ((worth a).natAbs : Int) ((worth b).natAbs : Int)) = true := inI (by omega) (by omega)
      rw [hi]
      by_cases n1 : a.2.1 < 0
      · by_cases n2 : b.2.1 < 0
        · simp only [n1, n2, decide_true, beq_self_eq_true, Bool.not_true, cond_false, cond_true]
          have : 0 - cmpI ((worth a).natAbs : Int) ((worth b).natAbs : Int) = cmpI (worth a) (worth b) := by
            have := s1.2 n1; have := t1.2 n2
            unfold cmpI
            (repeat' split) <;> omega
          rw [this]
        · simp only [n1, n2, decide_true, decide_false]
          have : cmpI (worth a) (worth b) = -1 := by
            have := s1.2 n1; have : ¬ worth b < 0 := fun h => n2 (t1.1 h)
            unfold cmpI
            (repeat' split) <;> omega
          rw [this]
          rfl
      · by_cases n2 : b.2.1 < 0
        · simp only [n1, n2, decide_true, decide_false]
          have : cmpI (worth a) (worth b) = 1 := by
            have := t1.2 n2; have : ¬ worth a < 0 := fun h => n1 (s1.1 h)
            unfold cmpI
            (repeat' split) <;> omega
          rw [this]
          rfl
        · simp only [n1, n2, decide_false, beq_self_eq_true, Bool.not_true, cond_false]
          have : cmpI ((worth a).natAbs : Int) ((worth b).natAbs : Int) = cmpI (worth a) (worth b) := by
            have : ¬ worth a < 0 := fun h => n1 (s1.1 h); have : ¬ worth b < 0 := fun h => n2 (t1.1 h)
            unfold cmpI
            (repeat' split) <;> omega
          rw [this]
    · simp only [h1, h2, decide_true, decide_false, cond_true, cond_false]
      exact Compare_B1_is N hN a b (fun h => h2 h.2) ()
  · simp only [h1, decide_false, cond_false]
    exact Compare_B1_is N hN a b (fun h => h1 h.1) ()
end Go.Proofs.Ytgicljncknbgcaa.Abs
