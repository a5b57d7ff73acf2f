/- What a told function tells: a plain logic. -/
import Derived.Test.YtgicljncknbgcaaTN
namespace Go.Proofs.Ytgicljncknbgcaa.Abs
set_option linter.unusedVariables false
set_option linter.unusedSimpArgs false

def Tells {β : Type} (o : Option β) (P : β → Prop) : Prop := ∃ r, o = some r ∧ P r
section
variable {α β γ : Type} {P Q : β → Prop}
theorem Tells.some {r : β} (h : P r) : Tells (some r) P := ⟨r, rfl, h⟩
theorem Tells.eq {o : Option β} {r : β} (h : o = .some r) (hp : P r) : Tells o P := ⟨r, h, hp⟩
theorem Tells.mono {o : Option β} (h : Tells o P) (k : ∀ r, P r → Q r) : Tells o Q := let ⟨r, h1, h2⟩ := h; ⟨r, h1, k r h2⟩
theorem Tells.ok {g : Bool} {x y : Option β} (hg : g = true) (h : Tells x P) : Tells (bif g then x else y) P := by rw [hg]; exact h
theorem Tells.no {g : Bool} {x y : Option β} (hg : g = false) (h : Tells y P) : Tells (bif g then x else y) P := by rw [hg]; exact h
theorem Tells.ite {g : Bool} {x y : Option β} (h1 : g = true → Tells x P) (h2 : g = false → Tells y P) : Tells (bif g then x else y) P := by
  cases g
  · exact h2 rfl
  · exact h1 rfl
theorem Tells.dec {p : Prop} [Decidable p] {x y : Option β} (h1 : p → Tells x P) (h2 : ¬p → Tells y P) : Tells (bif decide p then x else y) P := by
  by_cases h : p
  · rw [decide_eq_true h]; exact h1 h
  · rw [decide_eq_false h]; exact h2 h
theorem Tells.bind {o : Option α} {f : α → Option β} {Q : α → Prop} (h : Tells o Q) (k : ∀ r, Q r → Tells (f r) P) : Tells (o.bind f) P := by
  obtain ⟨r, rfl, hq⟩ := h
  exact k r hq
theorem Tells.bindE {o : Option α} {f : α → Option β} {r : α} (h : o = .some r) (k : Tells (f r) P) : Tells (o.bind f) P := by
  rw [h]; exact k
/-- a loop: what holds at its head, what gets less -/
theorem Tells.iter {body : (α → Option β) → α → Option β} (I : α → Prop) (μ : α → Nat)
    (step : ∀ K a, I a → (∀ a', I a' → μ a' < μ a → Tells (K a') P) → Tells (body K a) P) : ∀ (N : Nat) (a : α), I a → μ a < N → Tells (Abs.iter body N a) P
  | 0, a, _, h => absurd h (Nat.not_lt_zero _)
  | N + 1, a, hI, h => step _ a hI fun a' hI' hlt => Tells.iter I μ step N a' hI' (by omega)
theorem Tells.get {o : Option β} {r : β} (h : Tells o (· = r)) : o = .some r := let ⟨_, h1, h2⟩ := h; by rw [h1, h2]
end
theorem inI {n : Int} (h1 : -9223372036854775808 ≤ n) (h2 : n ≤ 9223372036854775807) : inI64 n = true := (inI64_iff n).2 ⟨h1, h2⟩
theorem inRt {i : Int} {n : Nat} (h1 : 0 ≤ i) (h2 : i < n) : inR i n = true := by simp [inR, h1, h2]
theorem fitsT {n m : Nat} (h : n ≤ m) : fits n m = true := (fits_iff n m).2 h
theorem nthD_eq {α : Type} {xs : List α} {i : Nat} {d : α} (h : i < xs.length) : nthD xs (i : Int) d = xs[i] := by simp [nthD, h]
theorem upToT {i : Int} {n : Nat} (h1 : 0 ≤ i) (h2 : i ≤ n) : upTo i n = true := by simp [upTo, h1, h2]
theorem inBT {a b : Int} {n : Nat} (h1 : 0 ≤ a) (h2 : a ≤ b) (h3 : b ≤ n) : inB a b n = true := by simp [inB, h1, h2, h3]
end Go.Proofs.Ytgicljncknbgcaa.Abs
