/- Package value: what the told functions tell: orders, comparisons. -/
import Derived.Test.YtgicljncknbgcaaM3
namespace Go.Proofs.Ytgicljncknbgcaa.Abs
open Go
set_option linter.unusedVariables false
set_option linter.unusedSimpArgs false

abbrev WfV (v : T_Value) : Prop := 0 ≤ v.1 ∧ v.1 ≤ 255 ∧ I64 v.2.1
theorem bl_irrefl : ∀ x : List UInt8, Op.bytesLess x x = false
  | [] => rfl
  | a :: x => by simp [Op.bytesLess, bl_irrefl x]
theorem bl_total : ∀ x y : List UInt8, x ≠ y → Op.bytesLess x y = !Op.bytesLess y x
  | [], [], h => absurd rfl h
  | [], _ :: _, _ => rfl
  | _ :: _, [], _ => rfl
  | a :: x, b :: y, h => by
    simp only [Op.bytesLess]
    by_cases hab : a = b
    · subst hab
      have hxy : x ≠ y := fun e => h (by rw [e])
      simp [bl_total x y hxy]
    · have h1 : (a == b) = false := by simpa using hab
      have h2 : (b == a) = false := by simpa using fun e => hab e.symm
      rw [h1, h2]
      simp only [Bool.false_and, Bool.or_false]
      by_cases h3 : a < b
      · have h4 : ¬ b < a := by rw [UInt8.lt_iff_toNat_lt] at *; omega
        simp [h3, h4]
      · have h4 : b < a := by
          rw [UInt8.lt_iff_toNat_lt] at *
          have : a.toNat ≠ b.toNat := fun e => hab (UInt8.toNat_inj.1 e)
          omega
        simp [h3, h4]
theorem bl_trans : ∀ x y z : List UInt8, Op.bytesLess x y = true → Op.bytesLess y z = true → Op.bytesLess x z = true
  | _, [], _, h, _ => by cases ‹List UInt8› <;> simp [Op.bytesLess] at h
  | _, _ :: _, [], _, h => by simp [Op.bytesLess] at h
  | [], _ :: _, _ :: _, _, _ => rfl
  | a :: x, b :: y, c :: z, h1, h2 => by
    simp only [Op.bytesLess, Bool.or_eq_true, decide_eq_true_eq, Bool.and_eq_true, beq_iff_eq] at *
    rcases h1 with h1 | ⟨rfl, h1⟩
    · rcases h2 with h2 | ⟨rfl, h2⟩
      · left; rw [UInt8.lt_iff_toNat_lt] at *; omega
      · exact .inl h1
    · rcases h2 with h2 | ⟨rfl, h2⟩
      · exact .inl h2
      · exact .inr ⟨rfl, bl_trans x y z h1 h2⟩
def cmpI (x y : Int) : Int := if x < y then -1 else if x > y then 1 else 0
def cmpL (x y : List UInt8) : Int := if Op.bytesLess x y = true then -1 else if x = y then 0 else 1
/-- a way to compare that is an order -/
structure Cp {α : Type} (f : α → α → Int) : Prop where
  rng : ∀ a b, -1 ≤ f a b ∧ f a b ≤ 1
  turn : ∀ a b, f b a = -f a b
  zero : ∀ a b, f a b = 0 ↔ a = b
  le : ∀ a b c, f a b ≤ 0 → f b c ≤ 0 → f a c ≤ 0
theorem Cp.ge {α : Type} {f : α → α → Int} (h : Cp f) (a b c : α) (h1 : 0 ≤ f a b) (h2 : 0 ≤ f b c) : 0 ≤ f a c := by
  have e1 := h.turn a b
  have e2 := h.turn b c
  have e3 := h.turn a c
  have := h.le c b a (by omega) (by omega)
  omega
theorem cmpI_cp : Cp cmpI := by
  refine ⟨?_, ?_, ?_, ?_⟩ <;> intros <;> simp only [cmpI] at * <;> (repeat' split at *) <;> omega
theorem cmpL_cp : Cp cmpL := by
  have tri : ∀ x y : List UInt8, (x = y ∧ cmpL x y = 0 ∧ cmpL y x = 0) ∨ (x ≠ y ∧ Op.bytesLess x y = true ∧ Op.bytesLess y x = false ∧ cmpL x y = -1 ∧ cmpL y x = 1) ∨ (x ≠ y ∧ Op.bytesLess x y = false ∧ Op.bytesLess y x = true ∧ cmpL x y = 1 ∧ cmpL y x = -1) := by
    intro x y
    by_cases h : x = y
    · subst h
      exact .inl ⟨rfl, by unfold cmpL; rw [bl_irrefl]; simp, by unfold cmpL; rw [bl_irrefl]; simp⟩
    · have ht := bl_total x y h
      have h' : ¬ y = x := fun e => h e.symm
      cases hb : Op.bytesLess y x
      · rw [hb] at ht
        exact .inr (.inl ⟨h, ht, rfl, by unfold cmpL; rw [if_pos (by rw [ht]; rfl)], by unfold cmpL; rw [if_neg (by rw [hb]; simp), if_neg h']⟩)
      · rw [hb] at ht
        exact .inr (.inr ⟨h, ht, rfl, by unfold cmpL; rw [if_neg (by rw [ht]; simp), if_neg h], by unfold cmpL; rw [if_pos hb]⟩)
  refine ⟨?_, ?_, ?_, ?_⟩
  · intro a b
    rcases tri a b with h | h | h <;> omega
  · intro a b
    rcases tri a b with h | h | h <;> omega
  · intro a b
    rcases tri a b with ⟨h, h1, _⟩ | ⟨h, _, _, h1, _⟩ | ⟨h, _, _, h1, _⟩
    · exact ⟨fun _ => h, fun _ => h1⟩
    · exact ⟨fun e => by omega, fun e => absurd e h⟩
    · exact ⟨fun e => by omega, fun e => absurd e h⟩
  · intro a b c h1 h2
    rcases tri a b with ⟨rfl, _⟩ | ⟨_, k1, _, k2, _⟩ | ⟨_, _, _, k2, _⟩
    · exact h2
    · rcases tri b c with ⟨rfl, _⟩ | ⟨_, q1, _, q2, _⟩ | ⟨_, _, _, q2, _⟩
      · exact h1
      · have := bl_trans a b c k1 q1
        unfold cmpL
        rw [if_pos this]
        omega
      · omega
    · omega
/-- one behind the other -/
def lex {α β : Type} (f : α → α → Int) (g : β → β → Int) (a b : α × β) : Int := if f a.1 b.1 ≠ 0 then f a.1 b.1 else g a.2 b.2
theorem Cp.lex {α β : Type} {f : α → α → Int} {g : β → β → Int} (hf : Cp f) (hg : Cp g) : Cp (Abs.lex f g) := by
  refine ⟨?_, ?_, ?_, ?_⟩
  · intro a b
    have := hf.rng a.1 b.1
    have := hg.rng a.2 b.2
    unfold Abs.lex
    split <;> omega
  · intro a b
    have := hf.turn a.1 b.1
    have := hg.turn a.2 b.2
    unfold Abs.lex
    (repeat' split) <;> omega
  · intro a b
    have h1 := hf.zero a.1 b.1
    have h2 := hg.zero a.2 b.2
    unfold Abs.lex
    constructor
    · intro h
      split at h
      · omega
      · rename_i h3
        have h3 : f a.1 b.1 = 0 := by omega
        exact Prod.ext (h1.1 h3) (h2.1 h)
    · rintro rfl
      rw [if_neg (by rw [h1.2 rfl]; simp)]
      exact h2.2 rfl
  · intro a b c h1 h2
    have l1 := hf.le a.1 b.1 c.1
    have l2 := hg.le a.2 b.2 c.2
    have z1 := hf.zero a.1 b.1
    have z2 := hf.zero b.1 c.1
    have z3 := hf.zero a.1 c.1
    unfold Abs.lex at *
    by_cases e1 : f a.1 b.1 = 0
    · have e := z1.1 e1
      rw [e] at h1 ⊢
      rw [e] at e1
      rw [if_neg (by rw [e1]; simp)] at h1
      by_cases e2 : f b.1 c.1 = 0
      · rw [if_neg (by rw [e2]; simp)] at h2 ⊢
        exact l2 h1 h2
      · rw [if_pos e2] at h2 ⊢
        exact h2
    · rw [if_pos e1] at h1
      by_cases e2 : f b.1 c.1 = 0
      · have e := z2.1 e2
        rw [← e, if_pos e1]
        exact h1
      · rw [if_pos e2] at h2
        have l3 := l1 h1 h2
        by_cases e3 : f a.1 c.1 = 0
        · have e := z3.1 e3
          rw [← e] at h2
          have := hf.turn a.1 b.1
          omega
        · rw [if_pos e3]; exact l3
def ordV (a b : T_Value) : Int := lex cmpI (lex cmpI cmpL) (a.1, a.2.1, a.2.2.1) (b.1, b.2.1, b.2.2.1)
theorem ordV_cp : Cp ordV := by
  have h := cmpI_cp.lex (cmpI_cp.lex cmpL_cp)
  refine ⟨fun a b => h.rng _ _, fun a b => h.turn _ _, fun a b => ?_, fun a b c => h.le _ _ _⟩
  unfold ordV
  rw [h.zero]
  obtain ⟨a1, a2, a3, _⟩ := a
  obtain ⟨b1, b2, b3, _⟩ := b
  simp
/-! the told ones -/
theorem cmp_Compare_uint8_is (N : Nat) (x y : Int) : cmp_Compare_uint8 N x y = some (cmpI x y) := by
  unfold cmp_Compare_uint8 cmp_isNaN_uint8 cmpI
  simp only [bne_self_eq_false, Option.bind_some, cond_false]
  by_cases h1 : x < y
  · simp [h1]
  · by_cases h2 : x > y <;> simp [h1, h2]
theorem cmp_Compare_int64_is (N : Nat) (x y : Int) : cmp_Compare_int64 N x y = some (cmpI x y) := by
  unfold cmp_Compare_int64 cmp_isNaN_int64 cmpI
  simp only [bne_self_eq_false, Option.bind_some, cond_false]
  by_cases h1 : x < y
  · simp [h1]
  · by_cases h2 : x > y <;> simp [h1, h2]
theorem cmp_Compare_uint64_is (N : Nat) (x y : Int) : cmp_Compare_uint64 N x y = some (cmpI x y) := by
  unfold cmp_Compare_uint64 cmp_isNaN_uint64 cmpI
  simp only [bne_self_eq_false, Option.bind_some, cond_false]
  by_cases h1 : x < y
  · simp [h1]
  · by_cases h2 : x > y <;> simp [h1, h2]
theorem cmp_Compare_string_is (N : Nat) (x y : List UInt8) : cmp_Compare_string N x y = some (cmpL x y) := by
  unfold cmp_Compare_string cmp_isNaN_string cmpL
  have h : (!(x == x)) = false := by simp
  have h' : (!(y == y)) = false := by simp
  simp only [h, h', bne_self_eq_false, Option.bind_some, cond_false]
  cases h1 : Op.bytesLess x y
  · by_cases h2 : x = y
    · simp [h2]
    · have h3 : (x == y) = false := by simpa using h2
      simp [h2, h3]
  · simp
theorem nz (x : Int) : (x != 0) = decide (x ≠ 0) := by by_cases h : x = 0 <;> simp [h]
theorem i1 : inI64 1 = true := rfl
theorem i2 : inI64 2 = true := rfl
theorem i3 : inI64 3 = true := rfl
theorem i4 : inI64 4 = true := rfl
theorem cmp_Or3 (N : Nat) (hN : 4 ≤ N) (x y z : Int) : cmp_Or_int N [x, y, z] = some (if x ≠ 0 then x else if y ≠ 0 then y else z) := by
  obtain ⟨n, rfl⟩ : ∃ n, N = n + 4 := ⟨N - 4, by omega⟩
  unfold cmp_Or_int cmp_Or_int_t
  by_cases hx : x = 0
  · by_cases hy : y = 0
    · by_cases hz : z = 0 <;> simp [iter, cmp_Or_int_B1, inR, nthD, nz, hx, hy, hz, i1, i2, i3]
    · simp [iter, cmp_Or_int_B1, inR, nthD, nz, hx, hy, i1, i2, i3]
  · simp [iter, cmp_Or_int_B1, inR, nthD, nz, hx]
theorem cmp_Or2 (N : Nat) (hN : 4 ≤ N) (x y : Int) : cmp_Or_int N [x, y] = some (if x ≠ 0 then x else y) := by
  obtain ⟨n, rfl⟩ : ∃ n, N = n + 4 := ⟨N - 4, by omega⟩
  unfold cmp_Or_int cmp_Or_int_t
  by_cases hx : x = 0
  · by_cases hy : y = 0 <;> simp [iter, cmp_Or_int_B1, inR, nthD, nz, hx, hy, i1, i2, i3]
  · simp [iter, cmp_Or_int_B1, inR, nthD, nz, hx]
theorem value_Order_is (N : Nat) (hN : 4 ≤ N) (a b : T_Value) : value_Order N a b = some (ordV a b) := by
  unfold value_Order
  rw [cmp_Compare_uint8_is, cmp_Compare_int64_is, cmp_Compare_string_is]
  simp only [Option.bind_some, cmp_Or3 N hN]
  rfl
end Go.Proofs.Ytgicljncknbgcaa.Abs
namespace Go.Proofs.Ytgicljncknbgcaa.Abs
open Go
set_option linter.unusedVariables false
set_option linter.unusedSimpArgs false

def byV (v : T_Value) : Nat := if v.1 = 1 then 10000 else 1
def worth (v : T_Value) : Int := v.2.1 * (byV v : Int)
theorem value_units_is (N : Nat) (v : T_Value) (h : I64 v.2.1) : value_units N v = some (decide (v.2.1 < 0), ((v.2.1.natAbs * byV v / 18446744073709551616 : Nat) : Int), ((v.2.1.natAbs * byV v % 18446744073709551616 : Nat) : Int), ()) := by
  have hn := h.nat
  obtain ⟨k, n, s, u⟩ := v
  dsimp only at h hn ⊢
  have e1 : n < 0 → IntKind.u64.wrap (0 - IntKind.u64.wrap n) = ((n.natAbs : Nat) : Int) := fun h2 => by
    obtain ⟨a1, a2⟩ := h
    rw [IntKind.wrap_u64, IntKind.wrap_u64]; omega
  have e2 : ¬ n < 0 → IntKind.u64.wrap n = ((n.natAbs : Nat) : Int) := fun h2 => by
    obtain ⟨a1, a2⟩ := h
    rw [IntKind.wrap_u64]; omega
  have m1 := bits_Mul64_is N n.natAbs 10000 hn (by omega)
  have m2 := bits_Mul64_is N n.natAbs 1 hn (by omega)
  unfold value_units byV
  dsimp only
  by_cases hneg : n < 0
  · rw [e1 hneg]
    by_cases hk : k = 1
    · have hk' : (k == 1) = true := by simpa using hk
      simp only [hneg, hk', decide_true, cond_true, if_pos hk]
      rw [show (10000 : Int) = ((10000 : Nat) : Int) from rfl, m1]
      rfl
    · have hk' : (k == 1) = false := by simpa using hk
      simp only [hneg, hk', decide_true, cond_true, cond_false, if_neg hk]
      rw [show (1 : Int) = ((1 : Nat) : Int) from rfl, m2]
      rfl
  · rw [e2 hneg]
    by_cases hk : k = 1
    · have hk' : (k == 1) = true := by simpa using hk
      simp only [hneg, hk', decide_false, cond_true, cond_false, if_pos hk]
      rw [show (10000 : Int) = ((10000 : Nat) : Int) from rfl, m1]
      rfl
    · have hk' : (k == 1) = false := by simpa using hk
      simp only [hneg, hk', decide_false, cond_false, if_neg hk]
      rw [show (1 : Int) = ((1 : Nat) : Int) from rfl, m2]
      rfl
theorem value_isNumber_is (N : Nat) (v : T_Value) : value_isNumber N v = some (decide (v.1 = 1 ∨ v.1 = 2)) := by
  unfold value_isNumber
  by_cases h1 : v.1 = 1
  · simp [h1]
  · by_cases h2 : v.1 = 2
    · simp [h2]
    · have e1 : (v.1 == 1) = false := by simpa using h1
      have e2 : (v.1 == 2) = false := by simpa using h2
      simp [e1, e2, h1, h2]
def cmpV (a b : T_Value) : Int × Bool × Unit :=
  if (a.1 = 1 ∨ a.1 = 2) ∧ (b.1 = 1 ∨ b.1 = 2) then (cmpI (worth a) (worth b), true, ())
  else if a.1 = b.1 ∧ 3 ≤ a.1 ∧ a.1 ≤ 5 then (ordV a b, true, ()) else (0, false, ())
theorem cmp128 (X Y : Nat) : (if cmpI ((X / 18446744073709551616 : Nat) : Int) ((Y / 18446744073709551616 : Nat) : Int) ≠ 0 then cmpI ((X / 18446744073709551616 : Nat) : Int) ((Y / 18446744073709551616 : Nat) : Int) else cmpI ((X % 18446744073709551616 : Nat) : Int) ((Y % 18446744073709551616 : Nat) : Int)) = cmpI X Y := by
  have h1 := Nat.div_add_mod X 18446744073709551616
  have h2 := Nat.div_add_mod Y 18446744073709551616
  have h3 := Nat.mod_lt X (show 18446744073709551616 > 0 by omega)
  have h4 := Nat.mod_lt Y (show 18446744073709551616 > 0 by omega)
  generalize X / 18446744073709551616 = a at *
  generalize X % 18446744073709551616 = b at *
  generalize Y / 18446744073709551616 = c at *
  generalize Y % 18446744073709551616 = d at *
  unfold cmpI
  (repeat' split) <;> omega
theorem worth_sign (v : T_Value) : (worth v < 0 ↔ v.2.1 < 0) ∧ (worth v).natAbs = v.2.1.natAbs * byV v := by
  unfold worth byV
  split
  · exact ⟨by omega, by omega⟩
  · exact ⟨by omega, by omega⟩
theorem Compare_B1_is (N : Nat) (hN : 4 ≤ N) (a b : T_Value) (h : ¬ ((a.1 = 1 ∨ a.1 = 2) ∧ (b.1 = 1 ∨ b.1 = 2))) (u : Unit) : value_Compare_B1 N a.1 a.2.1 a.2.2.1 b.1 b.2.1 b.2.2.1 u = some (cmpV a b) := by
  unfold value_Compare_B1 cmpV
  rw [if_neg h]
  have ho : value_Order N (a.1, a.2.1, a.2.2.1, ()) (b.1, b.2.1, b.2.2.1, ()) = some (ordV a b) := value_Order_is N hN a b
  rw [ho]
  by_cases h1 : a.1 = b.1
  · by_cases h2 : a.1 < 3
    · rw [if_neg (by omega)]
      simp [h1, h1 ▸ h2]
    · by_cases h3 : a.1 > 5
      · rw [if_neg (by omega)]
        have h2' : ¬ b.1 < 3 := h1 ▸ h2
        have h3' : b.1 > 5 := h1 ▸ h3
        simp [h1, h2', h3']
      · rw [if_pos (by omega)]
        have h2' : ¬ b.1 < 3 := h1 ▸ h2
        have h3' : ¬ b.1 > 5 := h1 ▸ h3
        simp [h1, h2', h3']
  · rw [if_neg (by omega)]
    have e : (a.1 != b.1) = true := by simpa using h1
    simp [e]
theorem value_Compare_is (N : Nat) (hN : 4 ≤ N) (a b : T_Value) (ha : I64 a.2.1) (hb : I64 b.2.1) : value_Compare N a b = some (cmpV a b) := by
  unfold value_Compare value_Compare_t
  rw [value_isNumber_is, value_isNumber_is, value_units_is N a ha, value_units_is N b hb]
  simp only [Option.bind_some, at1_pos (show 0 < N by omega)]
  by_cases h1 : a.1 = 1 ∨ a.1 = 2
  · by_cases h2 : b.1 = 1 ∨ b.1 = 2
    · simp only [h1, h2, decide_true, cond_true, cmp_Compare_uint64_is, Option.bind_some, cmp_Or2 N hN]
      have hc : cmpV a b = (cmpI (worth a) (worth b), true, ()) := if_pos ⟨h1, h2⟩
      rw [hc]
      obtain ⟨s1, s2⟩ := worth_sign a
      obtain ⟨t1, t2⟩ := worth_sign b
      rw [← s2, ← t2, cmp128]
      have hr := cmpI_cp.rng ((worth a).natAbs : Int) ((worth b).natAbs : Int)
      have hi : inI64 (0 - cmpI ((worth a).natAbs : Int) ((worth b).natAbs : Int)) = true := inI (by omega) (by omega)
      rw [hi]
      by_cases n1 : a.2.1 < 0
      · by_cases n2 : b.2.1 < 0
        · simp only [n1, n2, decide_true, beq_self_eq_true, Bool.not_true, cond_false, cond_true]
          have : 0 - cmpI ((worth a).natAbs : Int) ((worth b).natAbs : Int) = cmpI (worth a) (worth b) := by
            have := s1.2 n1; have := t1.2 n2
            unfold cmpI
            (repeat' split) <;> omega
          rw [this]
        · simp only [n1, n2, decide_true, decide_false]
          have : cmpI (worth a) (worth b) = -1 := by
            have := s1.2 n1; have : ¬ worth b < 0 := fun h => n2 (t1.1 h)
            unfold cmpI
            (repeat' split) <;> omega
          rw [this]
          rfl
      · by_cases n2 : b.2.1 < 0
        · simp only [n1, n2, decide_true, decide_false]
          have : cmpI (worth a) (worth b) = 1 := by
            have := t1.2 n2; have : ¬ worth a < 0 := fun h => n1 (s1.1 h)
            unfold cmpI
            (repeat' split) <;> omega
          rw [this]
          rfl
        · simp only [n1, n2, decide_false, beq_self_eq_true, Bool.not_true, cond_false]
          have : cmpI ((worth a).natAbs : Int) ((worth b).natAbs : Int) = cmpI (worth a) (worth b) := by
            have : ¬ worth a < 0 := fun h => n1 (s1.1 h); have : ¬ worth b < 0 := fun h => n2 (t1.1 h)
            unfold cmpI
            (repeat' split) <;> omega
          rw [this]
    · simp only [h1, h2, decide_true, decide_false, cond_true, cond_false]
      exact Compare_B1_is N hN a b (fun h => h2 h.2) ()
  · simp only [h1, decide_false, cond_false]
    exact Compare_B1_is N hN a b (fun h => h1 h.1) ()
end Go.Proofs.Ytgicljncknbgcaa.Abs
namespace Go.Proofs.Ytgicljncknbgcaa.Abs
open Go
set_option linter.unusedVariables false
set_option linter.unusedSimpArgs false

def vNone : T_Value := (0, 0, [], ())
def vTruth (b : Bool) : T_Value := (4, bif b then 1 else 0, [], ())
def nTrue : T_Value := (4, 1, [], ())
def nFalse : T_Value := (4, 0, [], ())
theorem value_Truth_is (N : Nat) (b : Bool) : value_Truth N b = some (vTruth b) := by cases b <;> rfl
def notV (v : T_Value) : T_Value := if v.1 = 4 then vTruth (v.2.1 == 0) else vNone
theorem value_Not_is (N : Nat) (v : T_Value) : value_Not N v = some (notV v) := by
  unfold value_Not notV
  by_cases h : v.1 = 4
  · simp [h, value_Truth_is]
  · have e : (v.1 != 4) = true := by simpa using h
    rw [e, if_neg h]; rfl
def allS (out : T_Value) : List T_Value → T_Value
  | [] => out
  | v :: l => if v.1 = 4 ∧ v.2.1 = 0 ∧ v.2.2.1 = [] then v else allS (if v.1 = 4 then out else vNone) l
theorem getD_drop {α : Type} (l : List α) (k : Nat) (d : α) (h : k < l.length) : l.drop k = l.getD k d :: l.drop (k + 1) := by
  rw [List.drop_eq_getElem_cons h]
  simp [List.getD, h]
theorem All_iter (N : Nat) (l : List T_Value) (hl : l.length ≤ 1000000) : ∀ (M k : Nat) (out : T_Value), k ≤ l.length → l.length - k < M →
    iter (value_All_B1 N l (l.length : Int) 0 0 []) M ((k : Int), out.1, out.2.1, out.2.2.1) = some (allS out (l.drop k))
  | 0, k, out, hk, hM => absurd hM (by omega)
  | M + 1, k, out, hk, hM => by
    have ih := All_iter N l hl M (k + 1)
    rw [iter]
    generalize iter (value_All_B1 N l (l.length : Int) 0 0 []) M = K at *
    unfold value_All_B1
    simp only []
    by_cases h : k < l.length
    · have e1 : decide ((k : Int) < (l.length : Int)) = true := by simpa using h
      have e2 : inR (k : Int) l.length = true := by unfold inR; simpa using h
      have e3 : inI64 ((k : Int) + 1) = true := inI (by omega) (by omega)
      have e4 : nthD l (k : Int) d_Value = l.getD k d_Value := rfl
      rw [e1, e2, e3, e4, value_Truth_is, getD_drop l k d_Value h]
      generalize l.getD k d_Value = v at *
      simp only [cond_true, Option.bind_some, allS, vTruth, cond_false, Bool.and_true]
      by_cases h1 : v.1 = 4 ∧ v.2.1 = 0 ∧ v.2.2.1 = []
      · rw [if_pos h1]
        obtain ⟨h1, h2, h3⟩ := h1
        simp [h1, h2, h3]
      · rw [if_neg h1]
        have e5 : (v.1 == 4 && (v.2.1 == 0 && v.2.2.1 == [])) = false := by
          rw [Bool.eq_false_iff]; intro h; apply h1; simpa using h
        rw [e5]
        by_cases h2 : v.1 = 4
        · have e6 : (v.1 != 4) = false := by simpa using h2
          rw [e6, if_pos h2]
          exact ih out (by omega) (by omega)
        · have e6 : (v.1 != 4) = true := by simpa using h2
          rw [e6, if_neg h2]
          exact ih vNone (by omega) (by omega)
    · have e1 : decide ((k : Int) < (l.length : Int)) = false := by simpa using h
      rw [e1, show l.drop k = [] from List.drop_eq_nil_of_le (by omega)]
      rfl
theorem value_All_is (N : Nat) (l : List T_Value) (hl : l.length ≤ 1000000) (hN : l.length < N) : value_All N l = some (allS nTrue l) := by
  unfold value_All value_All_t
  rw [value_Truth_is]
  exact All_iter N l hl N 0 nTrue (by omega) (by omega)
theorem Any_iter (N : Nat) (l : List T_Value) (hl : l.length ≤ 1000000) (hN : l.length < N) : ∀ (M k : Nat), k ≤ l.length → l.length - k < M →
    iter (value_Any_B1 N l (l.length : Int) 0 0 []) M ((l.take k).map notV, (k : Int)) = some (notV (allS nTrue (l.map notV)))
  | 0, k, hk, hM => absurd hM (by omega)
  | M + 1, k, hk, hM => by
    have ih := Any_iter N l hl hN M (k + 1)
    rw [iter]
    generalize iter (value_Any_B1 N l (l.length : Int) 0 0 []) M = K at *
    unfold value_Any_B1
    simp only []
    by_cases h : k < l.length
    · have e1 : decide ((k : Int) < (l.length : Int)) = true := by simpa using h
      have e2 : inR (k : Int) l.length = true := by unfold inR; simpa using h
      have e3 : inI64 ((k : Int) + 1) = true := inI (by omega) (by omega)
      have e4 : nthD l (k : Int) d_Value = l.getD k d_Value := rfl
      have ih := ih (by omega) (by omega)
      rw [e1, e2, e3, e4, value_Not_is]
      simp only [cond_true, Option.bind_some]
      have e5 : fits (((l.take k).map notV).length + ([notV (l.getD k d_Value)] : List T_Value).length) 4398046511104 = true := by
        unfold fits
        rw [Nat.ble_eq]
        simp; omega
      rw [e5]
      simp only [cond_true]
      rw [List.take_succ_eq_append_getElem h, List.map_append] at ih
      simp only [List.getD, List.getElem?_eq_getElem h, Option.getD_some]
      exact ih
    · have e1 : decide ((k : Int) < (l.length : Int)) = false := by simpa using h
      rw [e1, List.take_of_length_le (by omega)]
      simp only [cond_false]
      rw [value_All_is N _ (by simpa using hl) (by simpa using hN)]
      simp only [Option.bind_some, value_Not_is]
theorem value_Any_is (N : Nat) (l : List T_Value) (hl : l.length ≤ 1000000) (hN : l.length < N) : value_Any N l = some (notV (allS nTrue (l.map notV))) := by
  unfold value_Any value_Any_t
  exact Any_iter N l hl hN N 0 (by omega) (by omega)
/-! a difference -/
theorem alike_strange (N : Nat) (hN : 4 ≤ N) (a b : T_Value) (h : ¬ (a.1 = 1 ∨ a.1 = 2)) (h0 : a.1 ≠ 0) : value_alike N [a, b] = some ([], false, 8, ()) := by
  obtain ⟨n, rfl⟩ : ∃ n, N = n + 4 := ⟨N - 4, by omega⟩
  unfold value_alike value_alike_t
  have e : value_isNumber (n + 4) a = some false := by rw [value_isNumber_is]; simp [h]
  have e0 : (a.1 != 0) = true := by simpa using h0
  simp [iter, value_alike_B1, value_alike_B1t, inR, nthD, e, e0]
theorem fits1 : fits 1 4398046511104 = true := rfl
theorem fits2 : fits 2 4398046511104 = true := rfl
theorem value_dec_is (N : Nat) (v : T_Value) (h : I64 v.2.1) (h1 : v.1 = 1) : value_dec N v = some (if I64 (v.2.1 * 10000) then ((2, v.2.1 * 10000, [], ()), 0, ()) else ((0, 0, [], ()), 9, ())) := by
  unfold value_dec
  rw [num_Scale_is N h]
  have e : (v.1 == 2) = false := by rw [h1]; rfl
  rw [e]
  by_cases hs : I64 (v.2.1 * 10000)
  · rw [intE_in hs, if_pos hs]; rfl
  · rw [intE_out hs, if_neg hs]; rfl
theorem value_dec_2 (N : Nat) (v : T_Value) (h1 : v.1 = 2) : value_dec N v = some (v, 0, ()) := by
  unfold value_dec
  have e : (v.1 == 2) = true := by rw [h1]; rfl
  rw [e]; rfl
theorem alike_ints (N : Nat) (hN : 4 ≤ N) (a b : T_Value) (h1 : a.1 = 1) (h2 : b.1 = 1) : value_alike N [a, b] = some ([(1, a.2.1, [], ()), (1, b.2.1, [], ())], false, 0, ()) := by
  obtain ⟨n, rfl⟩ : ∃ n, N = n + 4 := ⟨N - 4, by omega⟩
  unfold value_alike value_alike_t
  have ea : value_isNumber (n + 4) a = some true := by rw [value_isNumber_is]; simp [h1]
  have eb : value_isNumber (n + 4) b = some true := by rw [value_isNumber_is]; simp [h2]
  simp [iter, value_alike_B1, value_alike_B1t, value_alike_B2, inR, nthD, ea, eb, h1, h2, i1, i2, i3, iMax, fits1, fits2]
def twoDec (x y : T_Value) : Option ((List T_Value) × Bool × Int × Unit) := some ([(2, x.2.1, [], ()), (2, y.2.1, [], ())], false, 0, ())
theorem alike_decs (N : Nat) (hN : 4 ≤ N) (a b x y : T_Value) (e f : Int) (h1 : a.1 = 1 ∨ a.1 = 2) (h2 : b.1 = 1 ∨ b.1 = 2) (h : a.1 = 2 ∨ b.1 = 2)
    (hx : value_dec N a = some (x, e, ())) (hy : value_dec N b = some (y, f, ())) :
    value_alike N [a, b] = if e ≠ 0 then some ([], false, e, ()) else if f ≠ 0 then some ([], false, f, ()) else twoDec x y := by
  obtain ⟨n, rfl⟩ : ∃ n, N = n + 4 := ⟨N - 4, by omega⟩
  unfold value_alike value_alike_t
  have ea : value_isNumber (n + 4) a = some true := by rw [value_isNumber_is]; simp [h1]
  have eb : value_isNumber (n + 4) b = some true := by rw [value_isNumber_is]; simp [h2]
  have hm : iMax (iMax 1 a.1) b.1 = 2 := by
    rcases h1 with h1 | h1 <;> rcases h2 with h2 | h2 <;> first | (exfalso; omega) | (rw [h1, h2]; rfl)
  have n1 : (a.1 == 0) = false := by rcases h1 with h1 | h1 <;> rw [h1] <;> rfl
  have n2 : (b.1 == 0) = false := by rcases h2 with h2 | h2 <;> rw [h2] <;> rfl
  by_cases he : e = 0
  · by_cases hf : f = 0
    · simp [iter, value_alike_B1, value_alike_B1t, value_alike_B2, inR, nthD, ea, eb, n1, n2, i1, i2, i3, hm, fits1, fits2, hx, hy, he, hf, nz, twoDec]
    · simp [iter, value_alike_B1, value_alike_B1t, value_alike_B2, inR, nthD, ea, eb, n1, n2, i1, i2, i3, hm, fits1, fits2, hx, hy, he, hf, nz, twoDec]
  · simp [iter, value_alike_B1, value_alike_B1t, value_alike_B2, inR, nthD, ea, eb, n1, n2, i1, i2, i3, hm, fits1, fits2, hx, hy, he, nz, twoDec]
/-- the difference of two that compare: refused, or of the sign of the comparison -/
def SubOk (a b : T_Value) (r : T_Value × Int × Unit) : Prop :=
  r.2.1 = 0 → (r.1.2.1 < 0 ↔ (cmpV a b).1 < 0) ∧ (r.1.2.1 = 0 ↔ (cmpV a b).1 = 0)
theorem cmp_sign (x y d : Int) (h1 : d < 0 ↔ x < y) (h2 : d = 0 ↔ x = y) : (d < 0 ↔ cmpI x y < 0) ∧ (d = 0 ↔ cmpI x y = 0) := by
  unfold cmpI
  (repeat' split) <;> omega
theorem value_Sub_ok (N : Nat) (hN : 4 ≤ N) (a b : T_Value) (ha : I64 a.2.1) (hb : I64 b.2.1) (hc : (cmpV a b).2.1 = true) : ∃ r, value_Sub N a b = some r ∧ SubOk a b r := by
  unfold value_Sub value_do_v1
  by_cases h : (a.1 = 1 ∨ a.1 = 2) ∧ (b.1 = 1 ∨ b.1 = 2)
  · have hcv : cmpV a b = (cmpI (worth a) (worth b), true, ()) := if_pos h
    obtain ⟨h1, h2⟩ := h
    by_cases hd : a.1 = 2 ∨ b.1 = 2
    · have fin : ∀ x y : T_Value, I64 x.2.1 → I64 y.2.1 → (x.2.1 < y.2.1 ↔ worth a < worth b) → (x.2.1 = y.2.1 ↔ worth a = worth b) →
          ∃ r, ((twoDec x y).bind fun (r : (List T_Value) × Bool × Int × Unit) =>
            bif r.2.1 then some ((0, 0, [], ()), r.2.2.1, ()) else
            bif (r.2.2.1 != 0) then some ((0, 0, [], ()), r.2.2.1, ()) else
            bif inR 0 r.1.length then
            bif (((nthD r.1 0 d_Value).1) == 2) then
              bif inR 0 r.1.length then
              bif inR 1 r.1.length then
              (num_Sub N ((nthD r.1 0 d_Value).2.1) ((nthD r.1 1 d_Value).2.1)).bind fun (r1 : Int × Int × Unit) =>
              bif (r1.2.1 != 0) then
                some ((0, 0, [], ()), r1.2.1, ())
              else
                bif inR 0 r.1.length then
                some (((nthD r.1 0 d_Value).1, r1.1, [], ()), 0, ())
                else none
              else none
              else none
            else
              bif inR 0 r.1.length then
              bif inR 1 r.1.length then
              (num_Sub N ((nthD r.1 0 d_Value).2.1) ((nthD r.1 1 d_Value).2.1)).bind fun (r2 : Int × Int × Unit) =>
              bif (r2.2.1 != 0) then
                some ((0, 0, [], ()), r2.2.1, ())
              else
                bif inR 0 r.1.length then
                some (((nthD r.1 0 d_Value).1, r2.1, [], ()), 0, ())
                else none
              else none
              else none
            else none) = some r ∧ SubOk a b r := by
        intro x y hx hy hl he
        simp only [twoDec, Option.bind_some, cond_false, bne_self_eq_false, inR, nthD, List.getD, num_Sub_is N hx hy]
        by_cases ho : I64 (x.2.1 - y.2.1)
        · refine ⟨((2, x.2.1 - y.2.1, [], ()), 0, ()), by simp [num_Sub_is N hx hy, intE_in ho], fun _ => ?_⟩
          rw [hcv]
          exact cmp_sign (worth a) (worth b) (x.2.1 - y.2.1) (by omega) (by omega)
        · exact ⟨((0, 0, [], ()), 9, ()), by simp [num_Sub_is N hx hy, intE_out ho], fun h => absurd h (by decide)⟩
      have bad : ∀ e : Int, e ≠ 0 → ∃ r, ((some (([] : List T_Value), false, e, ())).bind fun (r : (List T_Value) × Bool × Int × Unit) =>
            bif r.2.1 then some ((0, 0, [], ()), r.2.2.1, ()) else
            bif (r.2.2.1 != 0) then some ((0, 0, [], ()), r.2.2.1, ()) else
            bif inR 0 r.1.length then
            bif (((nthD r.1 0 d_Value).1) == 2) then
              bif inR 0 r.1.length then
              bif inR 1 r.1.length then
              (num_Sub N ((nthD r.1 0 d_Value).2.1) ((nthD r.1 1 d_Value).2.1)).bind fun (r1 : Int × Int × Unit) =>
              bif (r1.2.1 != 0) then
                some ((0, 0, [], ()), r1.2.1, ())
              else
                bif inR 0 r.1.length then
                some (((nthD r.1 0 d_Value).1, r1.1, [], ()), 0, ())
                else none
              else none
              else none
            else
              bif inR 0 r.1.length then
              bif inR 1 r.1.length then
              (num_Sub N ((nthD r.1 0 d_Value).2.1) ((nthD r.1 1 d_Value).2.1)).bind fun (r2 : Int × Int × Unit) =>
              bif (r2.2.1 != 0) then
                some ((0, 0, [], ()), r2.2.1, ())
              else
                bif inR 0 r.1.length then
                some (((nthD r.1 0 d_Value).1, r2.1, [], ()), 0, ())
                else none
              else none
              else none
            else none) = some r ∧ SubOk a b r := fun e he => ⟨((0, 0, [], ()), e, ()), by simp [he, nz], fun h => absurd h he⟩
      have wa1 : a.1 = 1 → worth a = a.2.1 * 10000 := fun h => by unfold worth byV; rw [if_pos h]; rfl
      have wb1 : b.1 = 1 → worth b = b.2.1 * 10000 := fun h => by unfold worth byV; rw [if_pos h]; rfl
      have wa2 : a.1 = 2 → worth a = a.2.1 := fun h => by unfold worth byV; rw [if_neg (by omega)]; omega
      have wb2 : b.1 = 2 → worth b = b.2.1 := fun h => by unfold worth byV; rw [if_neg (by omega)]; omega
      rcases h1 with h1 | h1
      · have h2 : b.1 = 2 := by omega
        have wa := wa1 h1
        have wb := wb2 h2
        have da := value_dec_is N a ha h1
        have db := value_dec_2 N b h2
        by_cases hs : I64 (a.2.1 * 10000)
        · rw [if_pos hs] at da
          rw [alike_decs N hN a b _ _ _ _ (.inl h1) (.inr h2) (.inr h2) da db, if_neg (by simp), if_neg (by simp)]
          obtain ⟨r, hr, ok⟩ := fin (2, a.2.1 * 10000, [], ()) b hs hb (by dsimp only; omega) (by dsimp only; omega)
          rw [hr]; exact ⟨r, rfl, ok⟩
        · rw [if_neg hs] at da
          rw [alike_decs N hN a b _ _ _ _ (.inl h1) (.inr h2) (.inr h2) da db, if_pos (by simp)]
          obtain ⟨r, hr, ok⟩ := bad 9 (by decide)
          rw [hr]; exact ⟨r, rfl, ok⟩
      · have da := value_dec_2 N a h1
        rcases h2 with h2 | h2
        · have wa := wa2 h1
          have wb := wb1 h2
          have db := value_dec_is N b hb h2
          by_cases hs : I64 (b.2.1 * 10000)
          · rw [if_pos hs] at db
            rw [alike_decs N hN a b _ _ _ _ (.inr h1) (.inl h2) (.inl h1) da db, if_neg (by simp), if_neg (by simp)]
            obtain ⟨r, hr, ok⟩ := fin a (2, b.2.1 * 10000, [], ()) ha hs (by dsimp only; omega) (by dsimp only; omega)
            rw [hr]; exact ⟨r, rfl, ok⟩
          · rw [if_neg hs] at db
            rw [alike_decs N hN a b _ _ _ _ (.inr h1) (.inl h2) (.inl h1) da db, if_neg (by simp), if_pos (by simp)]
            obtain ⟨r, hr, ok⟩ := bad 9 (by decide)
            rw [hr]; exact ⟨r, rfl, ok⟩
        · have wa := wa2 h1
          have wb := wb2 h2
          have db := value_dec_2 N b h2
          rw [alike_decs N hN a b _ _ _ _ (.inr h1) (.inr h2) (.inl h1) da db, if_neg (by simp), if_neg (by simp)]
          obtain ⟨r, hr, ok⟩ := fin a b ha hb (by omega) (by omega)
          rw [hr]; exact ⟨r, rfl, ok⟩
    · have h1 : a.1 = 1 := by omega
      have h2 : b.1 = 1 := by omega
      rw [alike_ints N hN a b h1 h2]
      have wa : worth a = a.2.1 * 10000 := by unfold worth byV; rw [if_pos h1]; rfl
      have wb : worth b = b.2.1 * 10000 := by unfold worth byV; rw [if_pos h2]; rfl
      by_cases ho : I64 (a.2.1 - b.2.1)
      · refine ⟨((1, a.2.1 - b.2.1, [], ()), 0, ()), by simp [inR, nthD, num_Sub_is N ha hb, intE_in ho], fun _ => ?_⟩
        rw [hcv]
        exact cmp_sign (worth a) (worth b) (a.2.1 - b.2.1) (by omega) (by omega)
      · exact ⟨((0, 0, [], ()), 9, ()), by simp [inR, nthD, num_Sub_is N ha hb, intE_out ho], fun h => absurd h (by decide)⟩
  · have hk : a.1 = b.1 ∧ 3 ≤ a.1 ∧ a.1 ≤ 5 := by
      unfold cmpV at hc
      rw [if_neg h] at hc
      by_cases hk : a.1 = b.1 ∧ 3 ≤ a.1 ∧ a.1 ≤ 5
      · exact hk
      · rw [if_neg hk] at hc; cases hc
    rw [alike_strange N hN a b (by omega) (by omega)]
    exact ⟨((0, 0, [], ()), 8, ()), by simp, fun h => absurd h (by decide)⟩
end Go.Proofs.Ytgicljncknbgcaa.Abs
