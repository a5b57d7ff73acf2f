/- Plain laws of the order of values. -/
import Derived.Test.YtlmjcifiofobpaaCompare
namespace Go.Proofs.Ytlmjcifiofobpaa
open Go.ChangeShapes Go.WideShapes Go.ChangeAt Go.RowKit
set_option linter.unusedVariables false
set_option linter.unusedSimpArgs false

theorem bl_irrefl : ∀ x : List UInt8, Op.bytesLess x x = false
  | [] => rfl
  | a :: x => by simp [Op.bytesLess, bl_irrefl x]
theorem bl_total : ∀ x y : List UInt8, x ≠ y → Op.bytesLess x y = !Op.bytesLess y x
  | [], [], h => absurd rfl h
  | [], _ :: _, _ => rfl
  | _ :: _, [], _ => rfl
  | a :: x, b :: y, h => by
    simp only [Op.bytesLess]
    by_cases hab : a = b
    · subst hab
      have hxy : x ≠ y := fun e => h (by rw [e])
      simp [bl_total x y hxy]
    · have h1 : (a == b) = false := by simpa using hab
      have h2 : (b == a) = false := by simpa using fun e => hab e.symm
      rw [h1, h2]
      simp only [Bool.false_and, Bool.or_false]
      by_cases h3 : a < b
      · have h4 : ¬ b < a := by rw [UInt8.lt_iff_toNat_lt] at *; omega
        simp [h3, h4]
      · have h4 : b < a := by
          rw [UInt8.lt_iff_toNat_lt] at *
          have : a.toNat ≠ b.toNat := fun e => hab (UInt8.toNat_inj.1 e)
          omega
        simp [h3, h4]
theorem bl_trans : ∀ x y z : List UInt8, Op.bytesLess x y = true → Op.bytesLess y z = true → Op.bytesLess x z = true
  | _, [], _, h, _ => by cases ‹List UInt8› <;> simp [Op.bytesLess] at h
  | _, _ :: _, [], _, h => by simp [Op.bytesLess] at h
  | [], _ :: _, _ :: _, _, _ => rfl
  | a :: x, b :: y, c :: z, h1, h2 => by
    simp only [Op.bytesLess, Bool.or_eq_true, decide_eq_true_eq, Bool.and_eq_true, beq_iff_eq] at *
    rcases h1 with h1 | ⟨rfl, h1⟩
    · rcases h2 with h2 | ⟨rfl, h2⟩
      · left; rw [UInt8.lt_iff_toNat_lt] at *; omega
      · exact .inl h1
    · rcases h2 with h2 | ⟨rfl, h2⟩
      · exact .inl h2
      · exact .inr ⟨rfl, bl_trans x y z h1 h2⟩

/-- a way to compare that is an order: by signs -/
structure Ordered (α : Type) (f : α → α → Int) : Prop where
  self : ∀ a, f a a = 0
  turn : ∀ a b, f b a = -f a b
  le : ∀ a b c, f a b ≤ 0 → f b c ≤ 0 → f a c ≤ 0
  zero : ∀ a b, f a b = 0 → ∀ c, f a c = f b c
theorem cmpI_ordered : Ordered Int cmpI := by
  refine ⟨?_, ?_, ?_, ?_⟩ <;> intros <;> simp only [cmpI] at * <;> (repeat' split at *) <;> omega
def cmpL (x y : List UInt8) : Int := if Op.bytesLess x y then -1 else if x == y then 0 else 1
theorem cmpL_cases (x y : List UInt8) : (x = y ∧ cmpL x y = 0) ∨ (x ≠ y ∧ Op.bytesLess x y = true ∧ Op.bytesLess y x = false ∧ cmpL x y = -1) ∨ (x ≠ y ∧ Op.bytesLess x y = false ∧ Op.bytesLess y x = true ∧ cmpL x y = 1) := by
  by_cases h : x = y
  · subst h
    exact .inl ⟨rfl, by unfold cmpL; rw [bl_irrefl]; simp⟩
  · have ht := bl_total x y h
    have hb : (x == y) = false := by simpa using h
    cases hx : Op.bytesLess x y
    · rw [hx] at ht
      exact .inr (.inr ⟨h, rfl, by simpa using ht, by unfold cmpL; rw [hx, hb]; rfl⟩)
    · rw [hx] at ht
      exact .inr (.inl ⟨h, rfl, by simpa using ht, by unfold cmpL; rw [hx]; rfl⟩)
theorem cmpL_ordered : Ordered (List UInt8) cmpL := by
  refine ⟨?_, ?_, ?_, ?_⟩
  · intro a
    rcases cmpL_cases a a with h | h | h
    · exact h.2
    · exact absurd rfl h.1
    · exact absurd rfl h.1
  · intro a b
    rcases cmpL_cases a b with ⟨rfl, h⟩ | ⟨h1, h2, h3, h4⟩ | ⟨h1, h2, h3, h4⟩
    · rw [h]; rfl
    · rcases cmpL_cases b a with ⟨rfl, h⟩ | ⟨g1, g2, g3, g4⟩ | ⟨g1, g2, g3, g4⟩
      · exact absurd rfl h1
      · rw [h3] at g2; cases g2
      · rw [g4, h4]; rfl
    · rcases cmpL_cases b a with ⟨rfl, h⟩ | ⟨g1, g2, g3, g4⟩ | ⟨g1, g2, g3, g4⟩
      · exact absurd rfl h1
      · rw [g4, h4]
      · rw [h3] at g2; cases g2
  · intro a b c h1 h2
    rcases cmpL_cases a b with ⟨rfl, h⟩ | ⟨a1, a2, a3, a4⟩ | ⟨a1, a2, a3, a4⟩
    · exact h2
    · rcases cmpL_cases b c with ⟨rfl, h⟩ | ⟨b1, b2, b3, b4⟩ | ⟨b1, b2, b3, b4⟩
      · exact h1
      · have := bl_trans a b c a2 b2
        unfold cmpL
        rw [this]
        simp
      · omega
    · omega
  · intro a b h c
    rcases cmpL_cases a b with ⟨rfl, _⟩ | ⟨a1, a2, a3, a4⟩ | ⟨a1, a2, a3, a4⟩
    · rfl
    · omega
    · omega
theorem cmpS_ordered : Ordered ByteArray cmpS :=
  ⟨fun a => cmpL_ordered.self _, fun a b => cmpL_ordered.turn _ _, fun a b c => cmpL_ordered.le _ _ _, fun a b h c => cmpL_ordered.zero _ _ h _⟩
/-- the first that parts -/
theorem or_ordered {α β : Type} {f : α → α → Int} {g : β → β → Int} (hf : Ordered α f) (hg : Ordered β g) : Ordered (α × β) fun a b => if f a.1 b.1 = 0 then g a.2 b.2 else f a.1 b.1 := by
  refine ⟨?_, ?_, ?_, ?_⟩
  · intro a
    rw [if_pos (hf.self _), hg.self]
  · intro a b
    rw [hf.turn a.1 b.1, hg.turn a.2 b.2]
    (repeat' split) <;> omega
  · intro a b c h1 h2
    have h3 := hf.le a.1 b.1 c.1
    have h4 := hg.le a.2 b.2 c.2
    have t1 := hf.le b.1 a.1 c.1
    have t2 := hf.le c.1 b.1 a.1
    have t3 := hf.le b.1 c.1 a.1
    have t4 := hf.le c.1 a.1 b.1
    have e1 := hf.turn a.1 b.1
    have e2 := hf.turn b.1 c.1
    have e3 := hf.turn a.1 c.1
    (repeat' split at *) <;> omega
  · intro a b h c
    have z1 : f a.1 b.1 = 0 := by
      split at h
      · assumption
      · omega
    rw [if_pos z1] at h
    rw [hf.zero _ _ z1, hg.zero _ _ h]

theorem ordV_eq (a b : Val) : ordV a b = if cmpI a.k b.k = 0 then (if cmpI a.n b.n = 0 then cmpS a.s b.s else cmpI a.n b.n) else cmpI a.k b.k := by
  unfold ordV
  simp only [orI]
  (repeat' split) <;> omega
theorem ordV_ordered : Ordered Val ordV := by
  have h := or_ordered cmpI_ordered (or_ordered cmpI_ordered cmpS_ordered)
  refine ⟨fun a => ?_, fun a b => ?_, fun a b c => ?_, fun a b hz c => ?_⟩
  · rw [ordV_eq]; exact h.self (a.k, a.n, a.s)
  · rw [ordV_eq, ordV_eq]; exact h.turn (a.k, a.n, a.s) (b.k, b.n, b.s)
  · rw [ordV_eq, ordV_eq, ordV_eq]; exact h.le (a.k, a.n, a.s) (b.k, b.n, b.s) (c.k, c.n, c.s)
  · rw [ordV_eq] at hz
    rw [ordV_eq, ordV_eq]
    exact h.zero (a.k, a.n, a.s) (b.k, b.n, b.s) hz (c.k, c.n, c.s)
theorem cmpV_num (a b : Val) (h : isNum a = true ∧ isNum b = true) : cmpV a b = (cmpI (worth a) (worth b), true) := by unfold cmpV; rw [h.1, h.2]; rfl
theorem cmpV_kind (a b : Val) (h : a.k = b.k ∧ 3 ≤ a.k ∧ a.k ≤ 5) : cmpV a b = (ordV a b, true) := by
  have h1 : isNum a = false := by unfold isNum; simp; omega
  unfold cmpV
  rw [h1, Bool.false_and, if_neg (by simp), if_neg (by omega)]
theorem cmpV_true (a b : Val) (h : (cmpV a b).2 = true) : (isNum a = true ∧ isNum b = true) ∨ (a.k = b.k ∧ 3 ≤ a.k ∧ a.k ≤ 5) := by
  unfold cmpV at h
  split at h
  · rename_i h1
    exact .inl (by simpa using h1)
  · split at h
    · simp at h
    · exact .inr (by omega)
theorem cmpV_self (a : Val) : (cmpV a a).1 = 0 ∧ (cmpV a a).2 = (decide (1 ≤ a.k) && decide (a.k ≤ 5)) := by
  by_cases h1 : a.k = 1 ∨ a.k = 2
  · have hn : isNum a = true := by unfold isNum; simpa using h1
    rw [cmpV_num a a ⟨hn, hn⟩]
    exact ⟨cmpI_ordered.self _, by simp; omega⟩
  · by_cases h2 : 3 ≤ a.k ∧ a.k ≤ 5
    · rw [cmpV_kind a a ⟨rfl, h2.1, h2.2⟩]
      exact ⟨ordV_ordered.self _, by simp; omega⟩
    · have hn : isNum a = false := by unfold isNum; simpa using h1
      have e : cmpV a a = (0, false) := by
        unfold cmpV
        rw [hn, Bool.false_and, if_neg (by simp), if_pos (by omega)]
      rw [e]
      refine ⟨rfl, ?_⟩
      dsimp only
      symm
      rw [Bool.and_eq_false_iff, decide_eq_false_iff_not, decide_eq_false_iff_not]
      omega
theorem Ordered.ge {α : Type} {f : α → α → Int} (h : Ordered α f) (a b c : α) (h1 : 0 ≤ f a b) (h2 : 0 ≤ f b c) : 0 ≤ f a c := by
  have e1 := h.turn a b
  have e2 := h.turn b c
  have e3 := h.turn a c
  have := h.le c b a (by omega) (by omega)
  omega
theorem cmpV_goes (a b c : Val) (h1 : (cmpV a b).2 = true) (h2 : (cmpV b c).2 = true) :
    (cmpV a c).2 = true ∧ ((cmpV a b).1 ≤ 0 → (cmpV b c).1 ≤ 0 → (cmpV a c).1 ≤ 0) ∧ (0 ≤ (cmpV a b).1 → 0 ≤ (cmpV b c).1 → 0 ≤ (cmpV a c).1) := by
  rcases cmpV_true a b h1 with h | h
  · rcases cmpV_true b c h2 with g | g
    · rw [cmpV_num a b h, cmpV_num b c g, cmpV_num a c ⟨h.1, g.2⟩]
      exact ⟨rfl, cmpI_ordered.le _ _ _, cmpI_ordered.ge _ _ _⟩
    · exfalso
      have := h.2
      unfold isNum at this
      simp at this
      omega
  · rcases cmpV_true b c h2 with g | g
    · exfalso
      have := g.1
      unfold isNum at this
      simp at this
      omega
    · rw [cmpV_kind a b h, cmpV_kind b c g, cmpV_kind a c ⟨by omega, h.2.1, h.2.2⟩]
      exact ⟨rfl, ordV_ordered.le _ _ _, ordV_ordered.ge _ _ _⟩
end Go.Proofs.Ytlmjcifiofobpaa
