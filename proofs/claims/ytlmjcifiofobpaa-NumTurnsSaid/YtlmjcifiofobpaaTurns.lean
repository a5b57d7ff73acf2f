/- The walk of NumTurns, and what it tells. -/
import Derived.Test.YtlmjcifiofobpaaPlain
namespace Go.Proofs.Ytlmjcifiofobpaa
open Go.ChangeShapes Go.WideShapes Go.ChangeAt Go.RowKit
set_option linter.unusedVariables false
set_option linter.unusedSimpArgs false


set_option maxRecDepth 100000 in
set_option maxHeartbeats 3200000 in
theorem turns_walk (a b s e p g m i d k o l r : Int) (w : World) (k1' : Tells 17 #[.int .i64 a, .int .i64 b] s e) (k2' : Tells 17 #[.int .i64 b, .int .i64 a] s e)
    (k3' : Tells 18 #[.int .i64 a, .int .i64 b] p g) (k4' : Tells 18 #[.int .i64 b, .int .i64 a] p g) (k5' : Tells 13 #[.int .i64 a, .int .i64 b] m i) (k6' : Tells 13 #[.int .i64 b, .int .i64 a] m i)
    (k7' : Tells 19 #[.int .i64 a, .int .i64 b] d k) (k8' : Tells 19 #[.int .i64 b, .int .i64 a] o l)
    (k9' : b ≠ 0 → Tells 21 #[.int .i64 a, .int .i64 b] r 0)
    (hd' : ((k == 0) = false) ∨ ((k == 0) = true ∧ (l == 0) = false) ∨ ((k == 0) = true ∧ (l == 0) = true ∧ (d != wrap64 (-o)) = false))
    (hr' : b ≠ 0 → -9223372036854775807 ≤ r ∧ r ≤ 9223372036854775807 ∧ (0 < b → r < b ∧ -r < b) ∧ (b < 0 → b < r ∧ b < -r) ∧ (r = 0 ∨ (decide (r < 0) = decide (a < 0)))) :
    Calls Try.prog 6 #[.int .i64 a, .int .i64 b] w fun x w' => x = .returned (.bool true) ∧ Below w.heap.size w w' := by
  have k1 := hide k1'
  have k2 := hide k2'
  have k3 := hide k3'
  have k4 := hide k4'
  have k5 := hide k5'
  have k6 := hide k6'
  have k7 := hide k7'
  have k8 := hide k8'
  have k9 := hide k9'
  have hd := hide hd'
  have hr := hide hr'
  clear k1' k2' k3' k4' k5' k6' k7' k8' k9' hd' hr'
  go_enter Try.func6, Try.ntmps6
  go_wp2_with fail
  refine (k1.out _).mono ?_
  rintro e w1 ⟨rfl, hn⟩
  have hb := hn
  clear hn
  go_wp2_with fail
  refine (k2.out _).mono ?_
  rintro e w2 ⟨rfl, hn⟩
  replace hb := below_then hb hn
  clear hn
  go_wp2_with fail
  refine (k3.out _).mono ?_
  rintro e w3 ⟨rfl, hn⟩
  replace hb := below_then hb hn
  clear hn
  go_wp2_with fail
  refine (k4.out _).mono ?_
  rintro e w4 ⟨rfl, hn⟩
  replace hb := below_then hb hn
  clear hn
  go_wp2_with fail
  refine (k5.out _).mono ?_
  rintro e w5 ⟨rfl, hn⟩
  replace hb := below_then hb hn
  clear hn
  go_wp2_with fail
  refine (k6.out _).mono ?_
  rintro e w6 ⟨rfl, hn⟩
  replace hb := below_then hb hn
  clear hn
  go_wp2_with fail
  refine (k7.out _).mono ?_
  rintro e w7 ⟨rfl, hn⟩
  replace hb := below_then hb hn
  clear hn
  go_wp2_with fail
  refine (k8.out _).mono ?_
  rintro e w8 ⟨rfl, hn⟩
  replace hb := below_then hb hn
  clear hn
  rcases hd.out with q1 | ⟨q1, q2⟩ | ⟨q1, q2, q3⟩
  all_goals
    clear hd
    by_cases h0 : b = 0
    · subst h0
      have kk := hide (mod_tells0 a)
      go_wp2_with fail
      refine (kk.out _).mono ?_
      rintro e w9 ⟨rfl, hn⟩
      replace hb := below_then hb hn
      clear hn
      go_wp2_with fail
      refine (known_calls _).mono ?_
      rintro e w10 ⟨rfl, hn⟩
      replace hb := below_then hb hn
      clear hn
      go_wp2_with fail
      go_ret
      exact ⟨rfl, hb⟩
    · have kk := hide (unhide k9 h0)
      have hh := hide (unhide hr h0)
      obtain ⟨g1, g2, g3, g4, g5⟩ := unhide hr h0
      have hz : (b == 0) = false := by simpa using h0
      clear k9 hr h0 g5
      go_wp2_with fail
      refine (kk.out _).mono ?_
      rintro e w9 ⟨rfl, hn⟩
      replace hb := below_then hb hn
      clear hn
      by_cases hpos : 0 < b
      · obtain ⟨g6, g7⟩ := g3 hpos
        clear g3 g4
        rcases hh.out.2.2.2.2 with g5 | g5
        · have g5' : (r == 0) = true := by simpa using g5
          clear g5
          go_wp2_with fail
          refine (known_calls _).mono ?_
          rintro e w10 ⟨rfl, hn⟩
          replace hb := below_then hb hn
          clear hn
          go_wp2_with fail
          go_ret
          exact ⟨rfl, hb⟩
        · by_cases g8 : (r == 0) = true
          · clear g5
            go_wp2_with fail
            refine (known_calls _).mono ?_
            rintro e w10 ⟨rfl, hn⟩
            replace hb := below_then hb hn
            clear hn
            go_wp2_with fail
            go_ret
            exact ⟨rfl, hb⟩
          · have g9 : (r == 0) = false := by simpa using g8
            have g10 : (decide (r < 0) == decide (a < 0)) = true := by simp [g5]
            clear g5 g8
            go_wp2_with fail
            refine (known_calls _).mono ?_
            rintro e w10 ⟨rfl, hn⟩
            replace hb := below_then hb hn
            clear hn
            go_wp2_with fail
            go_ret
            exact ⟨rfl, hb⟩
      · have hneg : b < 0 := by have := hz; simp at this; omega
        obtain ⟨g6, g7⟩ := g4 hneg
        clear g3 g4
        rcases hh.out.2.2.2.2 with g5 | g5
        · have g5' : (r == 0) = true := by simpa using g5
          clear g5
          go_wp2_with fail
          refine (known_calls _).mono ?_
          rintro e w10 ⟨rfl, hn⟩
          replace hb := below_then hb hn
          clear hn
          go_wp2_with fail
          go_ret
          exact ⟨rfl, hb⟩
        · by_cases g8 : (r == 0) = true
          · clear g5
            go_wp2_with fail
            refine (known_calls _).mono ?_
            rintro e w10 ⟨rfl, hn⟩
            replace hb := below_then hb hn
            clear hn
            go_wp2_with fail
            go_ret
            exact ⟨rfl, hb⟩
          · have g9 : (r == 0) = false := by simpa using g8
            have g10 : (decide (r < 0) == decide (a < 0)) = true := by simp [g5]
            clear g5 g8
            go_wp2_with fail
            refine (known_calls _).mono ?_
            rintro e w10 ⟨rfl, hn⟩
            replace hb := below_then hb hn
            clear hn
            go_wp2_with fail
            go_ret
            exact ⟨rfl, hb⟩
end Go.Proofs.Ytlmjcifiofobpaa
