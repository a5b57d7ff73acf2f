/- Package value: what the told functions tell: orders, comparisons. -/
import Derived.Test.YtgicljncknbgcaaN9
namespace Go.Proofs.Ytgicljncknbgcaa.Abs
open Go
set_option linter.unusedVariables false
set_option linter.unusedSimpArgs false

abbrev WfV (v : T_Value) : Prop := 0 ≤ v.1 ∧ v.1 ≤ 255 ∧ I64 v.2.1
theorem bl_irrefl : ∀ x : List UInt8, Op.bytesLess x x = false
  | [] => rfl
  | a :: x => by simp [Op.bytesLess, bl_irrefl x]
theorem bl_total : ∀ x y : List UInt8, x ≠ y → Op.bytesLess x y = !Op.bytesLess y x
  | [], [], h => absurd rfl h
  | [], _ :: _, _ => rfl
  | _ :: _, [], _ => rfl
  | a :: x, b :: y, h => by
    simp only [Op.bytesLess]
    by_cases hab : a = b
    · subst hab
      have hxy : x ≠ y := fun e => h (by rw [e])
      simp [bl_total x y hxy]
    · have h1 : (a == b) = false := by simpa using hab
      have h2 : (b == a) = false := by simpa using fun e => hab e.symm
      rw [h1, h2]
      simp only [Bool.false_and, Bool.or_false]
      by_cases h3 : a < b
      · have h4 : ¬ b < a := by rw [UInt8.lt_iff_toNat_lt] at *; omega
        simp [h3, h4]
      · have h4 : b < a := by
          rw [UInt8.lt_iff_toNat_lt] at *
          have : a.toNat ≠ b.toNat := fun e => hab (UInt8.toNat_inj.1 e)
          omega
        simp [h3, h4]
theorem bl_trans : ∀ x y z : List UInt8, Op.bytesLess x y = true → Op.bytesLess y z = true → Op.bytesLess x z = true
  | _, [], _, h, _ => by cases ‹List UInt8› <;> simp [Op.bytesLess] at h
  | _, _ :: _, [], _, h => by simp [Op.bytesLess] at h
  | [], _ :: _, _ :: _, _, _ => rfl
  | a :: x, b :: y, c :: z, h1, h2 => by
    simp only [Op.bytesLess, Bool.or_eq_true, decide_eq_true_eq, Bool.and_eq_true, beq_iff_eq] at *
    rcases h1 with h1 | ⟨rfl, h1⟩
    · rcases h2 with h2 | ⟨rfl, h2⟩
      · left; rw [UInt8.lt_iff_toNat_lt] at *; omega
      · exact .inl h1
    · rcases h2 with h2 | ⟨rfl, h2⟩
      · exact .inl h2
      · exact .inr ⟨rfl, bl_trans x y z h1 h2⟩
def cmpI (x y : Int) : Int := if x < y then -1 else if x > y then 1 else 0
def cmpL (x y : List UInt8) : Int := if Op.bytesLess x y = true then -1 else if x = y then 0 else 1
/-- a way to compare that is an order -/
structure Cp {α : Type} (f : α → α → Int) : Prop where
  rng : ∀ a b, -1 ≤ f a b ∧ f a b ≤ 1
  turn : ∀ a b, f b a = -f a b
  zero : ∀ a b, f a b = 0 ↔ a = b
  le : ∀ a b c, f a b ≤ 0 → f b c ≤ 0 → f a c ≤ 0
theorem Cp.ge {α : Type} {f : α → α → Int} (h : Cp f) (a b c : α) (h1 : 0 ≤ f a b) (h2 : 0 ≤ f b c) : 0 ≤ f a c := by
  have e1 := h.turn a b
  have e2 := h.turn b c
  have e3 := h.turn a c
  have := h.le c b a (by omega) (by omega)
  omega
theorem cmpI_cp : Cp cmpI := by
  refine ⟨?_, ?_, ?_, ?_⟩ <;> intros <;> simp only [cmpI] at * <;> (repeat' split at *) <;> omega
theorem cmpL_cp : Cp cmpL := by
  have tri : ∀ x y : List UInt8, (x = y ∧ cmpL x y = 0 ∧ cmpL y x = 0) ∨ (x ≠ y ∧ Op.bytesLess x y = true ∧ Op.bytesLess y x = false ∧ cmpL x y = -1 ∧ cmpL y x = 1) ∨ (x ≠ y ∧ Op.bytesLess x y = false ∧ Op.bytesLess y x = true ∧ cmpL x y = 1 ∧ cmpL y x = -1) := by
    intro x y
    by_cases h : x = y
    · subst h
      exact .inl ⟨rfl, by unfold cmpL; rw [bl_irrefl]; simp, by unfold cmpL; rw [bl_irrefl]; simp⟩
    · have ht := bl_total x y h
      have h' : ¬ y = x := fun e => h e.symm
      cases hb : Op.bytesLess y x
      · rw [hb] at ht
        exact .inr (.inl ⟨h, ht, rfl, by unfold cmpL; rw [if_pos (by rw [ht]; rfl)], by unfold cmpL; rw [if_neg (by rw [hb]; simp), if_neg h']⟩)
      · rw [hb] at ht
        exact .inr (.inr ⟨h, ht, rfl, by unfold cmpL; rw [if_neg (by rw [ht]; simp), if_neg h], by unfold cmpL; rw [if_pos hb]⟩)
  refine ⟨?_, ?_, ?_, ?_⟩
  · intro a b
    rcases tri a b with h | h | h <;> omega
  · intro a b
    rcases tri a b with h | h | h <;> omega
  · intro a b
    rcases tri a b with ⟨h, h1, _⟩ | ⟨h, _, _, h1, _⟩ | ⟨h, _, _, h1, _⟩
    · exact ⟨fun _ => h, fun _ => h1⟩
    · exact ⟨fun e => by omega, fun e => absurd e h⟩
    · exact ⟨fun e => by omega, fun e => absurd e h⟩
  · intro a b c h1 h2
    rcases tri a b with ⟨rfl, _⟩ | ⟨_, k1, _, k2, _⟩ | ⟨_, _, _, k2, _⟩
    · exact h2
    · rcases tri b c with ⟨rfl, _⟩ | ⟨_, q1, _, q2, _⟩ | ⟨_, _, _, q2, _⟩
      · exact h1
      · have := bl_trans a b c k1 q1
        unfold cmpL
        rw [if_pos this]
        omega
      · omega
    · omega
/-- one behind the other -/
def lex {α β : Type} (f : α → α → Int) (g : β → β → Int) (a b : α × β) : Int := if f a.1 b.1 ≠ 0 then f a.1 b.1 else g a.2 b.2
theorem Cp.lex {α β : Type} {f : α → α → Int} {g : β → β → Int} (hf : Cp f) (hg : Cp g) : Cp (Abs.lex f g) := by
  refine ⟨?_, ?_, ?_, ?_⟩
  · intro a b
    have := hf.rng a.1 b.1
    have := hg.rng a.2 b.2
    unfold Abs.lex
    split <;> omega
  · intro a b
    have := hf.turn a.1 b.1
    have := hg.turn a.2 b.2
    unfold Abs.lex
    (repeat' split) <;> omega
  · intro a b
    have h1 := hf.zero a.1 b.1
    have h2 := hg.zero a.2 b.2
    unfold Abs.lex
    constructor
    · intro h
      split at h
      · omega
      · rename_i h3
        have h3 : f a.1 b.1 = 0 := by omega
        exact Prod.ext (h1.1 h3) (h2.1 h)
    · rintro rfl
      rw [if_neg (by rw [h1.2 rfl]; simp)]
      exact h2.2 rfl
  · intro a b c h1 h2
    have l1 := hf.le a.1 b.1 c.1
    have l2 := hg.le a.2 b.2 c.2
    have z1 := hf.zero a.1 b.1
    have z2 := hf.zero b.1 c.1
    have z3 := hf.zero a.1 c.1
    unfold Abs.lex at *
    by_cases e1 : f a.1 b.1 = 0
    · have e := z1.1 e1
      rw [e] at h1 ⊢
      rw [e] at e1
      rw [if_neg (by rw [e1]; simp)] at h1
      by_cases e2 : f b.1 c.1 = 0
      · rw [if_neg (by rw [e2]; simp)] at h2 ⊢
        exact l2 h1 h2
      · rw [if_pos e2] at h2 ⊢
        exact h2
    · rw [if_pos e1] at h1
      by_cases e2 : f b.1 c.1 = 0
      · have e := z2.1 e2
        rw [← e, if_pos e1]
        exact h1
      · rw [if_pos e2] at h2
        have l3 := l1 h1 h2
        by_cases e3 : f a.1 c.1 = 0
        · have e := z3.1 e3
          rw [← e] at h2
          have := hf.turn a.1 b.1
          omega
        · rw [if_pos e3]; exact l3
def ordV (a b : T_Value) : Int := lex cmpI (lex cmpI cmpL) (a.1, a.2.1, a.2.2.1) (b.1, b.2.1, b.2.2.1)
theorem ordV_cp : Cp ordV := by
  have h := cmpI_cp.lex (cmpI_cp.lex cmpL_cp)
  refine ⟨fun a b => h.rng _ _, fun a b => h.turn _ _, fun a b => ?_, fun a b c => h.le _ _ _⟩
  unfold ordV
  rw [h.zero]
  obtain ⟨a1, a2, a3, _⟩ := a
  obtain ⟨b1, b2, b3, _⟩ := b
  simp
/-! the told ones -/
theorem cmp_Compare_uint8_is (N : Nat) (x y : Int) : cmp_Compare_uint8 N x y = some (cmpI x y) := by
  unfold cmp_Compare_uint8 cmp_isNaN_uint8 cmpI
  simp only [bne_self_eq_false, Option.bind_some, cond_false]
  by_cases h1 : x < y
  · simp [h1]
  · by_cases h2 : x > y <;> simp [h1, h2]
theorem cmp_Compare_int64_is (N : Nat) (x y : Int) : cmp_Compare_int64 N x y = some (cmpI x y) := by
  unfold cmp_Compare_int64 cmp_isNaN_int64 cmpI
  simp only [bne_self_eq_false, Option.bind_some, cond_false]
  by_cases h1 : x < y
  · simp [h1]
  · by_cases h2 : x > y <;> simp [h1, h2]
theorem cmp_Compare_uint64_is (N : Nat) (x y : Int) : cmp_Compare_uint64 N x y = some (cmpI x y) := by
  unfold cmp_Compare_uint64 cmp_isNaN_uint64 cmpI
  simp only [bne_self_eq_false, Option.bind_some, cond_false]
  by_cases h1 : x < y
  · simp [h1]
  · by_cases h2 : x > y <;> simp [h1, h2]
theorem cmp_Compare_string_is (N : Nat) (x y : List UInt8) : cmp_Compare_string N x y = some (cmpL x y) := by
  unfold cmp_Compare_string cmp_isNaN_string cmpL
  have h : (!(x == x)) = false := by simp
  have h' : (!(y == y)) = false := by simp
  simp only [h, h', bne_self_eq_false, Option.bind_some, cond_false]
  cases h1 : Op.bytesLess x y
  · by_cases h2 : x = y
    · simp [h2]
    · have h3 : (x == y) = false := by simpa using h2
      simp [h2, h3]
  · simp
theorem nz (x : Int) : (x != 0) = decide (x ≠ 0) := by by_cases h : x = 0 <;> simp [h]
theorem i1 : inI64 1 = true := rfl
theorem i2 : inI64 2 = true := rfl
theorem i3 : inI64 3 = true := rfl
theorem i4 : inI64 4 = true := rfl
theorem cmp_Or3 (N : Nat) (hN : 4 ≤ N) (x y z : Int) : cmp_Or_int N [x, y, z] = some (if x ≠ 0 then x else if y ≠ 0 then y else z) := by
  obtain ⟨n, rfl⟩ : ∃ n, N = n + 4 := ⟨N - 4, by omega⟩
  unfold cmp_Or_int cmp_Or_int_t
  by_cases hx : x = 0
  · by_cases hy : y = 0
    · by_cases hz : z = 0 <;> simp [iter, cmp_Or_int_B1, inR, nthD, nz, hx, hy, hz, i1, i2, i3]
    · simp [iter, cmp_Or_int_B1, inR, nthD, nz, hx, hy, i1, i2, i3]
  · simp [iter, cmp_Or_int_B1, inR, nthD, nz, hx]
theorem cmp_Or2 (N : Nat) (hN : 4 ≤ N) (x y : Int) : cmp_Or_int N [x, y] = some (if x ≠ 0 then x else y) := by
  obtain ⟨n, rfl⟩ : ∃ n, N = n + 4 := ⟨N - 4, by omega⟩
  unfold cmp_Or_int cmp_Or_int_t
  by_cases hx : x = 0
  · by_cases hy : y = 0 <;> simp [iter, cmp_Or_int_B1, inR, nthD, nz, hx, hy, i1, i2, i3]
  · simp [iter, cmp_Or_int_B1, inR, nthD, nz, hx]
theorem value_Order_is (N : Nat) (hN : 4 ≤ N) (a b : T_Value) : value_Order N a b = some (ordV a b) := by
  unfold value_Order
  rw [cmp_Compare_uint8_is, cmp_Compare_int64_is, cmp_Compare_string_is]
  simp only [Option.bind_some, cmp_Or3 N hN]
  rfl
end Go.Proofs.Ytgicljncknbgcaa.Abs
