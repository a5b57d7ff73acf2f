/- Plain laws of truths, and of how Compare goes with differences. -/
import Derived.Test.YtlmjcifiofobpaaLogic
import Derived.Test.YtlmjcifiofobpaaOrdered
namespace Go.Proofs.Ytlmjcifiofobpaa
open Go.ChangeShapes Go.WideShapes Go.ChangeAt Go.RowKit
set_option linter.unusedVariables false
set_option linter.unusedSimpArgs false

theorem bytes_eq {a b : ByteArray} (h : a.toList = b.toList) : a = b := by
  have e : ∀ x : ByteArray, x.toList = x.data.toList := fun x => Lib.toList_data x
  rw [e, e] at h
  cases a; cases b
  congr
  exact Array.toList_inj.1 h
theorem vEq_iff (a b : Val) : vEq a b = true ↔ a = b := by
  unfold vEq
  simp only [Bool.and_eq_true, beq_iff_eq]
  constructor
  · rintro ⟨h1, h2, h3⟩
    cases a; cases b
    simp only at *
    subst h1 h2
    rw [bytes_eq h3]
  · rintro rfl
    exact ⟨rfl, rfl, rfl⟩
theorem right_cases (v : Val) (h : rightB v = true) : v = truthV true ∨ v = truthV false ∨ v.k ≠ 4 := by
  by_cases h4 : v.k = 4
  · obtain ⟨k, n, s⟩ := v
    simp only at h4
    subst h4
    unfold rightB mayB at h
    simp at h
    obtain ⟨h1, h2⟩ := h
    have hs : s = ⟨#[]⟩ := bytes_eq (by rw [h1, Lib.toList_data])
    subst hs
    rcases h2 with rfl | rfl
    · exact .inr (.inl rfl)
    · exact .inl rfl
  · exact .inr (.inr h4)
theorem vEq_T : vEq (truthV true) (truthV false) = false := by kernel_rfl
theorem vEq_F : vEq (truthV false) (truthV false) = true := by kernel_rfl
theorem vEq_o (v : Val) (h : v.k ≠ 4) : vEq v (truthV false) = false := by unfold vEq truthV; simp [h]
theorem kT (b : Bool) : (truthV b).k = 4 := rfl
theorem kZ : Val.zero.k = 0 := rfl
theorem vEq_Z : vEq Val.zero (truthV false) = false := by kernel_rfl
theorem all_laws (a b c : Val) (ha : rightB a = true) (hb : rightB b = true) (hc : rightB c = true) :
    allF [a, b, c] (truthV true) = allF [c, a, b] (truthV true) ∧ anyF [a, b, c] = anyF [b, c, a] ∧ allF [a, b, c] (truthV true) = allF [allF [a, b] (truthV true), c] (truthV true) ∧
    notF (allF [a, b] (truthV true)) = anyF [notF a, notF b] := by
  have nT : notF (truthV true) = truthV false := rfl
  have nF : notF (truthV false) = truthV true := rfl
  have nO : ∀ v : Val, v.k ≠ 4 → notF v = Val.zero := fun v h => by unfold notF; rw [if_neg h]
  have nZ : notF Val.zero = Val.zero := rfl
  rcases right_cases a ha with rfl | rfl | ha <;> rcases right_cases b hb with rfl | rfl | hb <;> rcases right_cases c hc with rfl | rfl | hc <;>
    simp [allF, anyF, vEq_T, vEq_F, vEq_o, kT, kZ, vEq_Z, nT, nF, nO, nZ, *]

theorem orI_zero (x y z : Int) : orI [x, y, z] = 0 ↔ x = 0 ∧ y = 0 ∧ z = 0 := by
  simp only [orI]
  (repeat' split) <;> omega
theorem cmpI_zero (x y : Int) : cmpI x y = 0 ↔ x = y := by
  unfold cmpI
  (repeat' split) <;> omega
theorem cmpS_zero (x y : ByteArray) : cmpS x y = 0 ↔ x = y := by
  constructor
  · intro h
    rcases cmpL_cases x.toList y.toList with ⟨h1, _⟩ | ⟨_, _, _, h4⟩ | ⟨_, _, _, h4⟩
    · exact bytes_eq h1
    · have : cmpL x.toList y.toList = 0 := h
      omega
    · have : cmpL x.toList y.toList = 0 := h
      omega
  · rintro rfl
    exact cmpS_ordered.self x
theorem ordV_zero (a b : Val) : ordV a b = 0 ↔ a = b := by
  unfold ordV
  rw [orI_zero, cmpI_zero, cmpI_zero, cmpS_zero]
  cases a; cases b
  simp
theorem ordV_zero_b (a b : Val) : (ordV a b == 0) = vEq a b := by
  rw [Bool.eq_iff_iff, beq_iff_eq, ordV_zero, vEq_iff]
theorem cmpI_range (x y : Int) : -1 ≤ cmpI x y ∧ cmpI x y ≤ 1 := by
  unfold cmpI
  (repeat' split) <;> omega
theorem cmpS_range (x y : ByteArray) : -1 ≤ cmpS x y ∧ cmpS x y ≤ 1 := by
  unfold cmpS
  (repeat' split) <;> omega
theorem ordV_range (a b : Val) : -1 ≤ ordV a b ∧ ordV a b ≤ 1 := by
  have h1 := cmpI_range a.k b.k
  have h2 := cmpI_range a.n b.n
  have h3 := cmpS_range a.s b.s
  rw [ordV_eq]
  (repeat' split) <;> omega
theorem cmpV_range (a b : Val) : -1 ≤ (cmpV a b).1 ∧ (cmpV a b).1 ≤ 1 := by
  have h1 := cmpI_range (worth a) (worth b)
  have h2 := ordV_range a b
  unfold cmpV
  (repeat' split) <;> simp <;> omega
/-- Compare's other side, and differences -/
theorem cmpV_turn (a b : Val) (h : (cmpV a b).2 = true) : (cmpV b a).2 = true ∧ (cmpV b a).1 = -(cmpV a b).1 := by
  rcases cmpV_true a b h with h1 | h1
  · rw [cmpV_num a b h1, cmpV_num b a ⟨h1.2, h1.1⟩]
    exact ⟨rfl, cmpI_ordered.turn _ _⟩
  · rw [cmpV_kind a b h1, cmpV_kind b a ⟨h1.1.symm, by omega, by omega⟩]
    exact ⟨rfl, ordV_ordered.turn _ _⟩
theorem sub_worth (a b : Val) (na : isNum a = true) (nb : isNum b = true) (h0 : (vsub a b).2 = 0) : ∃ m : Int, 0 < m ∧ (vsub a b).1.n * m = worth a - worth b := by
  have ka : a.k = 1 ∨ a.k = 2 := by unfold isNum at na; simpa using na
  have kb : b.k = 1 ∨ b.k = 2 := by unfold isNum at nb; simpa using nb
  have hbad : anyBad [a, b] = false := by unfold anyBad badV; simp [na, nb]
  have hnull : anyNull [a, b] = false := by unfold anyNull; simp; omega
  have hS : ∀ x y : Int, (nSub x y).2 = 0 → I64 (x - y) ∧ (nSub x y).1 = x - y := by
    intro x y h
    by_cases hi : I64 (x - y)
    · exact ⟨hi, toldV_in hi⟩
    · exfalso
      unfold nSub toldE at h
      dsimp only at h
      unfold I64 at hi
      rw [if_neg hi] at h
      exact absurd h (by decide)
  unfold vsub doF at *
  by_cases hk : kindOf [a, b] = 2
  · by_cases hd : allDec [a, b] = true
    · have hal : alikeF [a, b] = ([asDec a, asDec b], false, 0) := by unfold alikeF; simp [hbad, hnull, hk, hd]
      rw [hal] at h0 ⊢
      have hw : ∀ v : Val, (v.k = 1 ∨ v.k = 2) → (decF v).2 = 0 → (decF v).1.n = worth v := by
        intro v hv h
        unfold decF worth at *
        split
        · rename_i h2
          rw [if_neg (by omega)]
        · rename_i h2
          rw [if_neg h2] at h
          split
          · rw [if_pos (by omega)]
          · rename_i h3
            rw [if_neg h3] at h
            exact absurd h (by decide)
      have hd2 : (decF a).2 = 0 ∧ (decF b).2 = 0 := by unfold allDec at hd; simpa using hd
      refine ⟨1, by omega, ?_⟩
      simp [asDec, toldF] at h0 ⊢
      rw [hw a ka hd2.1, hw b kb hd2.2] at h0 ⊢
      have hz : (nSub (worth a) (worth b)).2 = 0 := by
        by_cases hz : (nSub (worth a) (worth b)).2 = 0
        · exact hz
        · rw [if_neg hz] at h0
          exact absurd h0 hz
      rw [if_pos hz]
      simp [(hS _ _ hz).2]
    · have hal : alikeF [a, b] = ([], false, 9) := by unfold alikeF; simp [hbad, hnull, hk, hd]
      rw [hal] at h0
      simp at h0
  · have h1 : a.k = 1 ∧ b.k = 1 := by unfold kindOf at hk; simp at hk; omega
    have hal : alikeF [a, b] = ([asInt a, asInt b], false, 0) := by unfold alikeF; simp [hbad, hnull, hk]
    rw [hal] at h0 ⊢
    refine ⟨10000, by omega, ?_⟩
    simp [asInt, toldF] at h0 ⊢
    have hz : (nSub a.n b.n).2 = 0 := by
      by_cases hz : (nSub a.n b.n).2 = 0
      · exact hz
      · rw [if_neg hz] at h0
        exact absurd h0 hz
    rw [if_pos hz]
    unfold worth
    rw [if_pos h1.1, if_pos h1.2]
    simp [(hS _ _ hz).2]
    omega
theorem cmpV_sub (a b : Val) (h : (cmpV a b).2 = true) (h0 : (vsub a b).2 = 0) : decide ((vsub a b).1.n < 0) = decide ((cmpV a b).1 < 0) ∧ ((vsub a b).1.n == 0) = ((cmpV a b).1 == 0) := by
  rcases cmpV_true a b h with h1 | h1
  · obtain ⟨m, hm, he⟩ := sub_worth a b h1.1 h1.2 h0
    rw [cmpV_num a b h1]
    dsimp only
    have key : ((vsub a b).1.n < 0 ↔ worth a < worth b) ∧ ((vsub a b).1.n = 0 ↔ worth a = worth b) := by
      generalize (vsub a b).1.n = d at he
      constructor
      · constructor
        · intro hd
          have := Int.mul_neg_of_neg_of_pos hd hm
          omega
        · intro hw
          by_cases hd : d < 0
          · exact hd
          · have := Int.mul_nonneg (show 0 ≤ d by omega) (show 0 ≤ m by omega)
            omega
      · constructor
        · intro hd
          subst hd
          omega
        · intro hw
          have hz : d * m = 0 := by omega
          rcases Int.mul_eq_zero.1 hz with h | h
          · exact h
          · omega
    have k2 : cmpI (worth a) (worth b) < 0 ↔ worth a < worth b := by unfold cmpI; (repeat' split) <;> omega
    have k3 : cmpI (worth a) (worth b) = 0 ↔ worth a = worth b := cmpI_zero _ _
    constructor
    · rw [decide_eq_decide, key.1, k2]
    · rw [Bool.eq_iff_iff, beq_iff_eq, beq_iff_eq, key.2, k3]
  · exfalso
    have hbad : anyBad [a, b] = true := by
      unfold anyBad badV isNum
      simp
      omega
    unfold vsub doF alikeF at h0
    simp [hbad] at h0
end Go.Proofs.Ytlmjcifiofobpaa
