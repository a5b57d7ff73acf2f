/- The contract of package value's May. -/
import Derived.Test.YtlmjcifiofobpaaLogic
import Derived.Shelf.Strings.FuncGrows
import Derived.Shelf.Lay
namespace Go.Proofs.Ytlmjcifiofobpaa
open Go.ChangeShapes Go.WideShapes Go.ChangeAt Go.RowKit Go.Shelf Go.Lib
set_option linter.unusedVariables false
set_option linter.unusedSimpArgs false

def oddR (r : Nat) : Bool := decide (r < 32) || decide (126 < r)
def nameR (r : Nat) : Bool := (decide (r < 97) || decide (122 < r)) && (decide (r < 48) || decide (57 < r))
theorem odd_at (w : World) : PredAt Try.prog 86 #[] encR oddR w := fun W r _ => by
  unfold FnGives
  by_cases h1 : r < 32 <;> by_cases h2 : 126 < r
  all_goals
    have z1 : (r : Int) < 32 ↔ r < 32 := by omega
    have z2 : (126 : Int) < (r : Int) ↔ 126 < r := by omega
    go_enter Try.func86, Try.ntmps86
    go_wp2
    all_goals first | (exfalso; omega) | (go_ret; exact ⟨by simp [oddR, h1, h2], 0, rfl⟩)
theorem name_at (w : World) : PredAt Try.prog 87 #[] encR nameR w := fun W r _ => by
  unfold FnGives
  by_cases h1 : r < 97 <;> by_cases h2 : 122 < r <;> by_cases h3 : r < 48 <;> by_cases h4 : 57 < r
  all_goals
    have z1 : (r : Int) < 97 ↔ r < 97 := by omega
    have z2 : (122 : Int) < (r : Int) ↔ 122 < r := by omega
    have z3 : (r : Int) < 48 ↔ r < 48 := by omega
    have z4 : (57 : Int) < (r : Int) ↔ 57 < r := by omega
    go_enter Try.func87, Try.ntmps87
    go_wp2
    all_goals first | (exfalso; omega) | (go_ret; exact ⟨by simp [nameR, h1, h2, h3, h4], 0, rfl⟩)
def isTextF (s : ByteArray) : Bool := decide (s.size ≤ 200) && !decide (0 ≤ Lib.idxFunc oddR true s)
def headOK (s : ByteArray) : Bool := if h : 0 < s.size then decide (s.size ≤ 12) && (decide (97 ≤ (s[0].toNat : Int)) && decide ((s[0].toNat : Int) ≤ 122)) else false
def isNameF (s : ByteArray) : Bool := headOK s && !decide (0 ≤ Lib.idxFunc nameR true s)
theorem istext_calls (s : ByteArray) (w : World) : Calls Try.prog 69 #[.string s] w fun x w' => x = .returned (.bool (isTextF s)) ∧ Below w.heap.size w w' := by
  have hc := fun W => Try.strings_ContainsFunc 86 #[] (enters_of Try.func86 (by kernel_rfl) rfl) oddR s W (odd_at W)
  obtain ⟨B, hB⟩ : ∃ B, decide (0 ≤ Lib.idxFunc oddR true s) = B := ⟨_, rfl⟩
  rw [hB] at hc
  by_cases h : s.size ≤ 200
  · have h1 : (s.size : Int) ≤ 200 := by omega
    have hf := hide (show isTextF s = !B by unfold isTextF; rw [hB, decide_eq_true h]; rfl)
    have HC := hide hc
    clear hc h hB
    go_enter Try.func69, Try.ntmps69
    go_wp2_with fail
    refine (HC.out _).mono ?_
    rintro e w1 ⟨rfl, hn⟩
    go_wp2_with fail
    go_ret
    exact ⟨by rw [hf.out]; rfl, hn⟩
  · have h1 : ¬ (s.size : Int) ≤ 200 := by omega
    have hf := hide (show isTextF s = false by unfold isTextF; rw [decide_eq_false h]; rfl)
    clear hc h hB
    go_enter Try.func69, Try.ntmps69
    go_wp2_with fail
    go_ret
    exact ⟨by rw [hf.out]; rfl, below_refl w⟩
theorem isname_calls (s : ByteArray) (w : World) : Calls Try.prog 70 #[.string s] w fun x w' => x = .returned (.bool (isNameF s)) ∧ Below w.heap.size w w' := by
  have hc := fun W => Try.strings_ContainsFunc 87 #[] (enters_of Try.func87 (by kernel_rfl) rfl) nameR s W (name_at W)
  obtain ⟨B, hB⟩ : ∃ B, decide (0 ≤ Lib.idxFunc nameR true s) = B := ⟨_, rfl⟩
  rw [hB] at hc
  by_cases h0 : 0 < s.size
  · have g1 : s.toList.isEmpty = false := by
      rw [Lib.toList_data]
      cases h : s.data.toList
      · have h1 : s.data.toList.length = 0 := by rw [h]; rfl
        rw [Array.length_toList] at h1
        have e : s.size = s.data.size := rfl
        omega
      · rfl
    have g2 : ¬ s.toList = [] := by intro h; rw [h] at g1; cases g1
    by_cases h1 : s.size ≤ 12
    · by_cases h2 : 97 ≤ (s[0].toNat : Int)
      · by_cases h3 : (s[0].toNat : Int) ≤ 122
        · have hf := hide (show isNameF s = !B by unfold isNameF headOK; rw [hB, dif_pos h0, decide_eq_true h1, decide_eq_true h2, decide_eq_true h3]; rfl)
          have HC := hide hc
          clear hc hB
          go_enter Try.func70, Try.ntmps70
          go_wp2_with fail
          refine (HC.out _).mono ?_
          rintro e w1 ⟨rfl, hn⟩
          go_wp2_with fail
          go_ret
          exact ⟨by rw [hf.out]; rfl, hn⟩
        · have hf := hide (show isNameF s = false by unfold isNameF headOK; rw [dif_pos h0, decide_eq_false h3]; simp)
          clear hc hB
          go_enter Try.func70, Try.ntmps70
          go_wp2_with fail
          go_ret
          exact ⟨by rw [hf.out]; rfl, below_refl w⟩
      · have hf := hide (show isNameF s = false by unfold isNameF headOK; rw [dif_pos h0, decide_eq_false h2]; simp)
        clear hc hB
        go_enter Try.func70, Try.ntmps70
        go_wp2_with fail
        go_ret
        exact ⟨by rw [hf.out]; rfl, below_refl w⟩
    · have hf := hide (show isNameF s = false by unfold isNameF headOK; rw [dif_pos h0, decide_eq_false h1]; simp)
      clear hc hB
      go_enter Try.func70, Try.ntmps70
      go_wp2_with fail
      go_ret
      exact ⟨by rw [hf.out]; rfl, below_refl w⟩
  · have g1 : s.toList.isEmpty = true := by
      rw [Lib.toList_data, List.isEmpty_iff, ← List.length_eq_zero_iff, Array.length_toList]
      show s.size = 0
      omega
    have g2 : s.toList = [] := by simpa using g1
    have hf := hide (show isNameF s = false by unfold isNameF headOK; rw [dif_neg h0]; rfl)
    clear hc hB
    go_enter Try.func70, Try.ntmps70
    go_wp2_with fail
    go_ret
    exact ⟨by rw [hf.out]; rfl, below_refl w⟩

def mayF (v : Val) : Bool :=
  if v.k = 0 then vEq v Val.zero else if v.k = 1 ∨ v.k = 2 then v.s.toList.isEmpty else if v.k = 3 then decide (v.n = 0) && isTextF v.s else if v.k = 4 then mayB v else if v.k = 5 then decide (v.n = 0) && isNameF v.s else false
theorem eql38_zero (k n : Int) (s : ByteArray) (W : World) : (binOp .eql 38 (.agg #[.int .u8 k, .int .i64 n, .string s]) (.agg #[.int .u8 0, .int .i64 0, .string ⟨#[]⟩])).run Try.prog W = .ok (.bool (vEq ⟨k, n, s⟩ Val.zero)) W := eql38 ⟨k, n, s⟩ Val.zero W
set_option maxHeartbeats 800000 in
theorem may_calls (v : Val) (w : World) : Calls Try.prog 38 #[v.enc] w fun x w' => x = .returned (.bool (mayF v)) ∧ Below w.heap.size w w' := by
  obtain ⟨k, n, s⟩ := v
  unfold Val.enc
  dsimp only
  have hB := hide ((below_refl w).alloc (Nat.le_refl _) (.cells #[.int .u8 k, .int .i64 n, .string s] 38))
  by_cases k0 : k = 0
  · subst k0
    have he := fun W => eql38_zero 0 n s W
    have hf := hide (show mayF ⟨0, n, s⟩ = vEq ⟨0, n, s⟩ Val.zero from rfl)
    generalize vEq ⟨0, n, s⟩ Val.zero = q at he hf
    go_enter Try.func38, Try.ntmps38
    go_wp2_with fail
    go_ret
    exact ⟨by rw [hf.out]; rfl, hB.out⟩
  · by_cases k12 : k = 1 ∨ k = 2
    · have hf : Hid (mayF ⟨k, n, s⟩ = s.toList.isEmpty) := hide (by unfold mayF; rw [if_neg k0, if_pos k12])
      cases hs : s.toList.isEmpty
      all_goals
        have hs2 : (s.toList = []) = (s.toList.isEmpty = true) := by rw [List.isEmpty_iff]
        rw [hs] at hs2 hf
        simp only [Bool.false_eq_true] at hs2
        rcases k12 with rfl | rfl
        all_goals
          go_enter Try.func38, Try.ntmps38
          go_wp2_with fail
          go_ret
          exact ⟨by rw [hf.out]; rfl, hB.out⟩
    · by_cases k3 : k = 3
      · subst k3
        by_cases hn : n = 0
        · have hn' : (n == 0) = true := by simpa using hn
          have hf := hide (show mayF ⟨3, n, s⟩ = isTextF s by show (decide (n = 0) && isTextF s) = _; rw [decide_eq_true hn]; rfl)
          have HC := hide (fun W => istext_calls s W)
          generalize isTextF s = q at HC hf
          clear hn k0 k12
          go_enter Try.func38, Try.ntmps38
          go_wp2_with fail
          refine (HC.out _).mono ?_
          rintro e w1 ⟨rfl, hn⟩
          have hB2 := hide (hB.out.trans (hn.mono hB.out.size))
          clear hn
          go_wp2_with fail
          go_ret
          exact ⟨by rw [hf.out]; rfl, hB2.out⟩
        · have hn' : (n == 0) = false := by simpa using hn
          have hf := hide (show mayF ⟨3, n, s⟩ = false by show (decide (n = 0) && isTextF s) = _; rw [decide_eq_false hn]; rfl)
          clear hn k0 k12
          go_enter Try.func38, Try.ntmps38
          go_wp2_with fail
          go_ret
          exact ⟨by rw [hf.out]; rfl, hB.out⟩
      · by_cases k4 : k = 4
        · subst k4
          have hf : Hid (mayF ⟨4, n, s⟩ = mayB ⟨4, n, s⟩) := hide rfl
          clear k0 k12 k3
          by_cases h1 : s.toList = []
          · have h1' : s.toList.isEmpty = true := by rw [h1]; rfl
            by_cases h2 : n = 0
            · have h2' : (n == 0) = true := by simpa using h2
              have hg := hide (show mayB ⟨4, n, s⟩ = true by unfold mayB; simp [h1, h2])
              clear h2
              go_enter Try.func38, Try.ntmps38
              go_wp2_with fail
              go_ret
              exact ⟨by rw [hf.out, hg.out]; rfl, hB.out⟩
            · have h2' : (n == 0) = false := by simpa using h2
              by_cases h3 : n = 1
              · have h3' : (n == 1) = true := by simpa using h3
                have hg := hide (show mayB ⟨4, n, s⟩ = true by unfold mayB; simp [h1, h3])
                clear h2 h3
                go_enter Try.func38, Try.ntmps38
                go_wp2_with fail
                go_ret
                exact ⟨by rw [hf.out, hg.out]; rfl, hB.out⟩
              · have h3' : (n == 1) = false := by simpa using h3
                have hg := hide (show mayB ⟨4, n, s⟩ = false by unfold mayB; simp [h2, h3])
                clear h2 h3
                go_enter Try.func38, Try.ntmps38
                go_wp2_with fail
                go_ret
                exact ⟨by rw [hf.out, hg.out]; rfl, hB.out⟩
          · have h1' : s.toList.isEmpty = false := by simpa using h1
            have hg := hide (show mayB ⟨4, n, s⟩ = false by unfold mayB; simp [h1])
            clear h1
            go_enter Try.func38, Try.ntmps38
            go_wp2_with fail
            go_ret
            exact ⟨by rw [hf.out, hg.out]; rfl, hB.out⟩
        · by_cases k5 : k = 5
          · subst k5
            by_cases hn : n = 0
            · have hn' : (n == 0) = true := by simpa using hn
              have hf := hide (show mayF ⟨5, n, s⟩ = isNameF s by show (decide (n = 0) && isNameF s) = _; rw [decide_eq_true hn]; rfl)
              have HC := hide (fun W => isname_calls s W)
              generalize isNameF s = q at HC hf
              clear hn k0 k12
              go_enter Try.func38, Try.ntmps38
              go_wp2_with fail
              refine (HC.out _).mono ?_
              rintro e w1 ⟨rfl, hn⟩
              have hB2 := hide (hB.out.trans (hn.mono hB.out.size))
              clear hn
              go_wp2_with fail
              go_ret
              exact ⟨by rw [hf.out]; rfl, hB2.out⟩
            · have hn' : (n == 0) = false := by simpa using hn
              have hf := hide (show mayF ⟨5, n, s⟩ = false by show (decide (n = 0) && isNameF s) = _; rw [decide_eq_false hn]; rfl)
              clear hn k0 k12
              go_enter Try.func38, Try.ntmps38
              go_wp2_with fail
              go_ret
              exact ⟨by rw [hf.out]; rfl, hB.out⟩
          · have hf := hide (show mayF ⟨k, n, s⟩ = false by unfold mayF; rw [if_neg k0, if_neg k12, if_neg k3, if_neg k4, if_neg k5])
            have e0 : (k == 0) = false := by simpa using k0
            have e1 : (k == 1) = false := by simp; omega
            have e2 : (k == 2) = false := by simp; omega
            have e3 : (k == 3) = false := by simpa using k3
            have e4 : (k == 4) = false := by simpa using k4
            have e5 : (k == 5) = false := by simpa using k5
            clear k0 k12 k3 k4 k5
            go_enter Try.func38, Try.ntmps38
            go_wp2_with fail
            go_ret
            exact ⟨by rw [hf.out]; rfl, hB.out⟩
end Go.Proofs.Ytlmjcifiofobpaa
