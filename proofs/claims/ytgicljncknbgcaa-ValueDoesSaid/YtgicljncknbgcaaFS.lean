/- The walks of the functions of package value that call the library: texts and names. -/
import Derived.Laws.RangeAny
import Derived.WalkKit
import Derived.ProofKit
import Derived.Shelf.Strings.FuncGrows
import Derived.Shelf.Lay
import Derived.Test.YtgicljncknbgcaaShelf
namespace Go.Proofs.Ytgicljncknbgcaa.Abs.Walks
open Go Go.Proofs Go.ChangeShapes Go.WideShapes Go.ChangeAt Go.RowKit Go.Shelf Go.Lib
set_option linter.unusedVariables false
set_option linter.unusedSimpArgs false
theorem below_refl (w : World) : Below w.heap.size w w := Below.refl _ _
theorem hide {p : Prop} (h : p) : Hid p := h
def oddR (r : Nat) : Bool := decide (r < 32) || decide (126 < r)
def nameR (r : Nat) : Bool := (decide (r < 97) || decide (122 < r)) && (decide (r < 48) || decide (57 < r))
theorem odd_at (w : World) : PredAt Try.prog 76 #[] encR oddR w := fun W r _ => by
  unfold FnGives
  by_cases h1 : r < 32 <;> by_cases h2 : 126 < r
  all_goals
    have z1 : (r : Int) < 32 ↔ r < 32 := by omega
    have z2 : (126 : Int) < (r : Int) ↔ 126 < r := by omega
    go_enter Try.func76, Try.ntmps76
    go_wp2
    all_goals first | (exfalso; omega) | (go_ret; exact ⟨by simp [oddR, h1, h2], 0, rfl⟩)
theorem name_at (w : World) : PredAt Try.prog 77 #[] encR nameR w := fun W r _ => by
  unfold FnGives
  by_cases h1 : r < 97 <;> by_cases h2 : 122 < r <;> by_cases h3 : r < 48 <;> by_cases h4 : 57 < r
  all_goals
    have z1 : (r : Int) < 97 ↔ r < 97 := by omega
    have z2 : (122 : Int) < (r : Int) ↔ 122 < r := by omega
    have z3 : (r : Int) < 48 ↔ r < 48 := by omega
    have z4 : (57 : Int) < (r : Int) ↔ 57 < r := by omega
    go_enter Try.func77, Try.ntmps77
    go_wp2
    all_goals first | (exfalso; omega) | (go_ret; exact ⟨by simp [nameR, h1, h2, h3, h4], 0, rfl⟩)
def isTextF (s : ByteArray) : Bool := decide (s.size ≤ 200) && !decide (0 ≤ Lib.idxFunc oddR true s)
def headOK (s : ByteArray) : Bool := if h : 0 < s.size then decide (s.size ≤ 12) && (decide (97 ≤ (s[0].toNat : Int)) && decide ((s[0].toNat : Int) ≤ 122)) else false
def isNameF (s : ByteArray) : Bool := headOK s && !decide (0 ≤ Lib.idxFunc nameR true s)
theorem istext_calls (s : ByteArray) (w : World) : Calls Try.prog 60 #[.string s] w fun x w' => x = .returned (.bool (isTextF s)) ∧ Below w.heap.size w w' := by
  have hc := fun W => Try.strings_ContainsFunc 76 #[] (enters_of Try.func76 (by kernel_rfl) rfl) oddR s W (odd_at W)
  obtain ⟨B, hB⟩ : ∃ B, decide (0 ≤ Lib.idxFunc oddR true s) = B := ⟨_, rfl⟩
  rw [hB] at hc
  by_cases h : s.size ≤ 200
  · have h1 : (s.size : Int) ≤ 200 := by omega
    have hf := hide (show isTextF s = !B by unfold isTextF; rw [hB, decide_eq_true h]; rfl)
    have HC := hide hc
    clear hc h hB
    go_enter Try.func60, Try.ntmps60
    go_wp2_with fail
    refine (HC.out _).mono ?_
    rintro e w1 ⟨rfl, hn⟩
    go_wp2_with fail
    go_ret
    exact ⟨by rw [hf.out]; rfl, hn⟩
  · have h1 : ¬ (s.size : Int) ≤ 200 := by omega
    have hf := hide (show isTextF s = false by unfold isTextF; rw [decide_eq_false h]; rfl)
    clear hc h hB
    go_enter Try.func60, Try.ntmps60
    go_wp2_with fail
    go_ret
    exact ⟨by rw [hf.out]; rfl, below_refl w⟩
theorem isname_calls (s : ByteArray) (w : World) : Calls Try.prog 61 #[.string s] w fun x w' => x = .returned (.bool (isNameF s)) ∧ Below w.heap.size w w' := by
  have hc := fun W => Try.strings_ContainsFunc 77 #[] (enters_of Try.func77 (by kernel_rfl) rfl) nameR s W (name_at W)
  obtain ⟨B, hB⟩ : ∃ B, decide (0 ≤ Lib.idxFunc nameR true s) = B := ⟨_, rfl⟩
  rw [hB] at hc
  by_cases h0 : 0 < s.size
  · have g1 : s.toList.isEmpty = false := by
      rw [Lib.toList_data]
      cases h : s.data.toList
      · have h1 : s.data.toList.length = 0 := by rw [h]; rfl
        rw [Array.length_toList] at h1
        have e : s.size = s.data.size := rfl
        omega
      · rfl
    have g2 : ¬ s.toList = [] := by intro h; rw [h] at g1; cases g1
    by_cases h1 : s.size ≤ 12
    · by_cases h2 : 97 ≤ (s[0].toNat : Int)
      · by_cases h3 : (s[0].toNat : Int) ≤ 122
        · have hf := hide (show isNameF s = !B by unfold isNameF headOK; rw [hB, dif_pos h0, decide_eq_true h1, decide_eq_true h2, decide_eq_true h3]; rfl)
          have HC := hide hc
          clear hc hB
          go_enter Try.func61, Try.ntmps61
          go_wp2_with fail
          refine (HC.out _).mono ?_
          rintro e w1 ⟨rfl, hn⟩
          go_wp2_with fail
          go_ret
          exact ⟨by rw [hf.out]; rfl, hn⟩
        · have hf := hide (show isNameF s = false by unfold isNameF headOK; rw [dif_pos h0, decide_eq_false h3]; simp)
          clear hc hB
          go_enter Try.func61, Try.ntmps61
          go_wp2_with fail
          go_ret
          exact ⟨by rw [hf.out]; rfl, below_refl w⟩
      · have hf := hide (show isNameF s = false by unfold isNameF headOK; rw [dif_pos h0, decide_eq_false h2]; simp)
        clear hc hB
        go_enter Try.func61, Try.ntmps61
        go_wp2_with fail
        go_ret
        exact ⟨by rw [hf.out]; rfl, below_refl w⟩
    · have hf := hide (show isNameF s = false by unfold isNameF headOK; rw [dif_pos h0, decide_eq_false h1]; simp)
      clear hc hB
      go_enter Try.func61, Try.ntmps61
      go_wp2_with fail
      go_ret
      exact ⟨by rw [hf.out]; rfl, below_refl w⟩
  · have g1 : s.toList.isEmpty = true := by
      rw [Lib.toList_data, List.isEmpty_iff, ← List.length_eq_zero_iff, Array.length_toList]
      show s.size = 0
      omega
    have g2 : s.toList = [] := by simpa using g1
    have hf := hide (show isNameF s = false by unfold isNameF headOK; rw [dif_neg h0]; rfl)
    clear hc hB
    go_enter Try.func61, Try.ntmps61
    go_wp2_with fail
    go_ret
    exact ⟨by rw [hf.out]; rfl, below_refl w⟩

end Go.Proofs.Ytgicljncknbgcaa.Abs.Walks
