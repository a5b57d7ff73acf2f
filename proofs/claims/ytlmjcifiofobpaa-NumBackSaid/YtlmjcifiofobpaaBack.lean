/- The walk of NumBack. -/
import Derived.Test.YtlmjcifiofobpaaPlain
namespace Go.Proofs.Ytlmjcifiofobpaa
open Go.ChangeShapes Go.WideShapes Go.ChangeAt Go.RowKit
set_option linter.unusedVariables false
set_option linter.unusedSimpArgs false

set_option maxRecDepth 100000 in
set_option maxHeartbeats 6400000 in
theorem back_walk (a b s e p g q h r : Int) (w : World) (k1' : Tells 17 #[.int .i64 a, .int .i64 b] s e) (k2' : (e == 0) = true → Tells 19 #[.int .i64 s, .int .i64 b] a 0)
    (k3' : Tells 18 #[.int .i64 a, .int .i64 b] p g) (k4' : (g == 0) = true → (b != 0) = true → Tells 20 #[.int .i64 p, .int .i64 b] a 0)
    (k5' : Tells 20 #[.int .i64 a, .int .i64 b] q h) (k6' : (h == 0) = true → Tells 21 #[.int .i64 a, .int .i64 b] r 0)
    (k7' : Tells 13 #[.int .i64 a, .int .i64 10000] a 0) (k8' : (a == 0) = false → Tells 14 #[.int .i64 a, .int .i64 a] 10000 0)
    (hq' : (h == 0) = true → ∃ m : Int, q * b = m ∧ -9223372036854775808 ≤ m ∧ m ≤ 9223372036854775807 ∧ (wrap64 (m + r) != a) = false) (ha' : I64 a) :
    Calls Try.prog 5 #[.int .i64 a, .int .i64 b] w fun x w' => x = .returned (.bool true) ∧ Below w.heap.size w w' := by
  have k1 := hide k1'
  have k2 := hide k2'
  have k3 := hide k3'
  have k4 := hide k4'
  have k5 := hide k5'
  have k6 := hide k6'
  have k7 := hide k7'
  have k8 := hide k8'
  have hq := hide hq'
  have ha := hide ha'
  clear k1' k2' k3' k4' k5' k6' k7' k8' hq' ha'
  go_enter Try.func5, Try.ntmps5
  go_wp2_with fail
  refine (k1.out _).mono ?_
  rintro e w1 ⟨rfl, hn⟩
  have hb := hn
  clear hn
  by_cases c1 : (e == 0) = true
  · have kk := hide (unhide k2 c1)
    go_wp2_with fail
    refine (kk.out _).mono ?_
    rintro e w2 ⟨rfl, hn⟩
    replace hb := below_then hb hn
    clear hn
    clear kk
    go_wp2_with fail
    refine (k3.out _).mono ?_
    rintro e w3 ⟨rfl, hn⟩
    replace hb := below_then hb hn
    clear hn
    by_cases c2 : (g == 0) = true
    · by_cases c7 : (b != 0) = true
      · have kk := hide (unhide k4 c2 c7)
        go_wp2_with fail
        refine (kk.out _).mono ?_
        rintro e w4 ⟨rfl, hn⟩
        replace hb := below_then hb hn
        clear hn
        clear kk
        go_wp2_with fail
        refine (k5.out _).mono ?_
        rintro e w5 ⟨rfl, hn⟩
        replace hb := below_then hb hn
        clear hn
        by_cases c3 : (h == 0) = true
        · have kk := hide (unhide k6 c3)
          obtain ⟨m, m1, m2, m3, m4⟩ := unhide hq c3
          go_wp2_with fail
          refine (kk.out _).mono ?_
          rintro e w6 ⟨rfl, hn⟩
          replace hb := below_then hb hn
          clear hn
          go_wp2_with fail
          refine (k7.out _).mono ?_
          rintro e w7 ⟨rfl, hn⟩
          replace hb := below_then hb hn
          clear hn
          by_cases c4 : (a == 0) = true
          · obtain rfl : a = 0 := by simpa using c4
            have kk := hide (divdec_tells0 0)
            go_wp2_with fail
            refine (kk.out _).mono ?_
            rintro e w8 ⟨rfl, hn⟩
            replace hb := below_then hb hn
            clear hn
            go_wp2_with fail
            refine (known_calls _).mono ?_
            rintro e w9 ⟨rfl, hn⟩
            replace hb := below_then hb hn
            clear hn
            go_wp2_with fail
            go_ret
            exact ⟨rfl, hb⟩
          · have c5 : (a == 0) = false := by simpa using c4
            have c6 : (a != 0) = true := by simpa using c4
            have kk := hide (unhide k8 c5)
            clear c4
            go_wp2_with fail
            refine (kk.out _).mono ?_
            rintro e w8 ⟨rfl, hn⟩
            replace hb := below_then hb hn
            clear hn
            go_wp2_with fail
            refine (known_calls _).mono ?_
            rintro e w9 ⟨rfl, hn⟩
            replace hb := below_then hb hn
            clear hn
            go_wp2_with fail
            go_ret
            exact ⟨rfl, hb⟩
        · have c3' : (h == 0) = false := by simpa using c3
          clear c3
          go_wp2_with fail
          refine (k7.out _).mono ?_
          rintro e w7 ⟨rfl, hn⟩
          replace hb := below_then hb hn
          clear hn
          by_cases c4 : (a == 0) = true
          · obtain rfl : a = 0 := by simpa using c4
            have kk := hide (divdec_tells0 0)
            go_wp2_with fail
            refine (kk.out _).mono ?_
            rintro e w8 ⟨rfl, hn⟩
            replace hb := below_then hb hn
            clear hn
            go_wp2_with fail
            refine (known_calls _).mono ?_
            rintro e w9 ⟨rfl, hn⟩
            replace hb := below_then hb hn
            clear hn
            go_wp2_with fail
            go_ret
            exact ⟨rfl, hb⟩
          · have c5 : (a == 0) = false := by simpa using c4
            have c6 : (a != 0) = true := by simpa using c4
            have kk := hide (unhide k8 c5)
            clear c4
            go_wp2_with fail
            refine (kk.out _).mono ?_
            rintro e w8 ⟨rfl, hn⟩
            replace hb := below_then hb hn
            clear hn
            go_wp2_with fail
            refine (known_calls _).mono ?_
            rintro e w9 ⟨rfl, hn⟩
            replace hb := below_then hb hn
            clear hn
            go_wp2_with fail
            go_ret
            exact ⟨rfl, hb⟩
      · have c7' : (b != 0) = false := by simpa using c7
        clear c7
        go_wp2_with fail
        refine (k5.out _).mono ?_
        rintro e w5 ⟨rfl, hn⟩
        replace hb := below_then hb hn
        clear hn
        by_cases c3 : (h == 0) = true
        · have kk := hide (unhide k6 c3)
          obtain ⟨m, m1, m2, m3, m4⟩ := unhide hq c3
          go_wp2_with fail
          refine (kk.out _).mono ?_
          rintro e w6 ⟨rfl, hn⟩
          replace hb := below_then hb hn
          clear hn
          go_wp2_with fail
          refine (k7.out _).mono ?_
          rintro e w7 ⟨rfl, hn⟩
          replace hb := below_then hb hn
          clear hn
          by_cases c4 : (a == 0) = true
          · obtain rfl : a = 0 := by simpa using c4
            have kk := hide (divdec_tells0 0)
            go_wp2_with fail
            refine (kk.out _).mono ?_
            rintro e w8 ⟨rfl, hn⟩
            replace hb := below_then hb hn
            clear hn
            go_wp2_with fail
            refine (known_calls _).mono ?_
            rintro e w9 ⟨rfl, hn⟩
            replace hb := below_then hb hn
            clear hn
            go_wp2_with fail
            go_ret
            exact ⟨rfl, hb⟩
          · have c5 : (a == 0) = false := by simpa using c4
            have c6 : (a != 0) = true := by simpa using c4
            have kk := hide (unhide k8 c5)
            clear c4
            go_wp2_with fail
            refine (kk.out _).mono ?_
            rintro e w8 ⟨rfl, hn⟩
            replace hb := below_then hb hn
            clear hn
            go_wp2_with fail
            refine (known_calls _).mono ?_
            rintro e w9 ⟨rfl, hn⟩
            replace hb := below_then hb hn
            clear hn
            go_wp2_with fail
            go_ret
            exact ⟨rfl, hb⟩
        · have c3' : (h == 0) = false := by simpa using c3
          clear c3
          go_wp2_with fail
          refine (k7.out _).mono ?_
          rintro e w7 ⟨rfl, hn⟩
          replace hb := below_then hb hn
          clear hn
          by_cases c4 : (a == 0) = true
          · obtain rfl : a = 0 := by simpa using c4
            have kk := hide (divdec_tells0 0)
            go_wp2_with fail
            refine (kk.out _).mono ?_
            rintro e w8 ⟨rfl, hn⟩
            replace hb := below_then hb hn
            clear hn
            go_wp2_with fail
            refine (known_calls _).mono ?_
            rintro e w9 ⟨rfl, hn⟩
            replace hb := below_then hb hn
            clear hn
            go_wp2_with fail
            go_ret
            exact ⟨rfl, hb⟩
          · have c5 : (a == 0) = false := by simpa using c4
            have c6 : (a != 0) = true := by simpa using c4
            have kk := hide (unhide k8 c5)
            clear c4
            go_wp2_with fail
            refine (kk.out _).mono ?_
            rintro e w8 ⟨rfl, hn⟩
            replace hb := below_then hb hn
            clear hn
            go_wp2_with fail
            refine (known_calls _).mono ?_
            rintro e w9 ⟨rfl, hn⟩
            replace hb := below_then hb hn
            clear hn
            go_wp2_with fail
            go_ret
            exact ⟨rfl, hb⟩
    · have c2' : (g == 0) = false := by simpa using c2
      clear c2
      go_wp2_with fail
      refine (k5.out _).mono ?_
      rintro e w5 ⟨rfl, hn⟩
      replace hb := below_then hb hn
      clear hn
      by_cases c3 : (h == 0) = true
      · have kk := hide (unhide k6 c3)
        obtain ⟨m, m1, m2, m3, m4⟩ := unhide hq c3
        go_wp2_with fail
        refine (kk.out _).mono ?_
        rintro e w6 ⟨rfl, hn⟩
        replace hb := below_then hb hn
        clear hn
        go_wp2_with fail
        refine (k7.out _).mono ?_
        rintro e w7 ⟨rfl, hn⟩
        replace hb := below_then hb hn
        clear hn
        by_cases c4 : (a == 0) = true
        · obtain rfl : a = 0 := by simpa using c4
          have kk := hide (divdec_tells0 0)
          go_wp2_with fail
          refine (kk.out _).mono ?_
          rintro e w8 ⟨rfl, hn⟩
          replace hb := below_then hb hn
          clear hn
          go_wp2_with fail
          refine (known_calls _).mono ?_
          rintro e w9 ⟨rfl, hn⟩
          replace hb := below_then hb hn
          clear hn
          go_wp2_with fail
          go_ret
          exact ⟨rfl, hb⟩
        · have c5 : (a == 0) = false := by simpa using c4
          have c6 : (a != 0) = true := by simpa using c4
          have kk := hide (unhide k8 c5)
          clear c4
          go_wp2_with fail
          refine (kk.out _).mono ?_
          rintro e w8 ⟨rfl, hn⟩
          replace hb := below_then hb hn
          clear hn
          go_wp2_with fail
          refine (known_calls _).mono ?_
          rintro e w9 ⟨rfl, hn⟩
          replace hb := below_then hb hn
          clear hn
          go_wp2_with fail
          go_ret
          exact ⟨rfl, hb⟩
      · have c3' : (h == 0) = false := by simpa using c3
        clear c3
        go_wp2_with fail
        refine (k7.out _).mono ?_
        rintro e w7 ⟨rfl, hn⟩
        replace hb := below_then hb hn
        clear hn
        by_cases c4 : (a == 0) = true
        · obtain rfl : a = 0 := by simpa using c4
          have kk := hide (divdec_tells0 0)
          go_wp2_with fail
          refine (kk.out _).mono ?_
          rintro e w8 ⟨rfl, hn⟩
          replace hb := below_then hb hn
          clear hn
          go_wp2_with fail
          refine (known_calls _).mono ?_
          rintro e w9 ⟨rfl, hn⟩
          replace hb := below_then hb hn
          clear hn
          go_wp2_with fail
          go_ret
          exact ⟨rfl, hb⟩
        · have c5 : (a == 0) = false := by simpa using c4
          have c6 : (a != 0) = true := by simpa using c4
          have kk := hide (unhide k8 c5)
          clear c4
          go_wp2_with fail
          refine (kk.out _).mono ?_
          rintro e w8 ⟨rfl, hn⟩
          replace hb := below_then hb hn
          clear hn
          go_wp2_with fail
          refine (known_calls _).mono ?_
          rintro e w9 ⟨rfl, hn⟩
          replace hb := below_then hb hn
          clear hn
          go_wp2_with fail
          go_ret
          exact ⟨rfl, hb⟩
  · have c1' : (e == 0) = false := by simpa using c1
    clear c1
    go_wp2_with fail
    refine (k3.out _).mono ?_
    rintro e w3 ⟨rfl, hn⟩
    replace hb := below_then hb hn
    clear hn
    by_cases c2 : (g == 0) = true
    · by_cases c7 : (b != 0) = true
      · have kk := hide (unhide k4 c2 c7)
        go_wp2_with fail
        refine (kk.out _).mono ?_
        rintro e w4 ⟨rfl, hn⟩
        replace hb := below_then hb hn
        clear hn
        clear kk
        go_wp2_with fail
        refine (k5.out _).mono ?_
        rintro e w5 ⟨rfl, hn⟩
        replace hb := below_then hb hn
        clear hn
        by_cases c3 : (h == 0) = true
        · have kk := hide (unhide k6 c3)
          obtain ⟨m, m1, m2, m3, m4⟩ := unhide hq c3
          go_wp2_with fail
          refine (kk.out _).mono ?_
          rintro e w6 ⟨rfl, hn⟩
          replace hb := below_then hb hn
          clear hn
          go_wp2_with fail
          refine (k7.out _).mono ?_
          rintro e w7 ⟨rfl, hn⟩
          replace hb := below_then hb hn
          clear hn
          by_cases c4 : (a == 0) = true
          · obtain rfl : a = 0 := by simpa using c4
            have kk := hide (divdec_tells0 0)
            go_wp2_with fail
            refine (kk.out _).mono ?_
            rintro e w8 ⟨rfl, hn⟩
            replace hb := below_then hb hn
            clear hn
            go_wp2_with fail
            refine (known_calls _).mono ?_
            rintro e w9 ⟨rfl, hn⟩
            replace hb := below_then hb hn
            clear hn
            go_wp2_with fail
            go_ret
            exact ⟨rfl, hb⟩
          · have c5 : (a == 0) = false := by simpa using c4
            have c6 : (a != 0) = true := by simpa using c4
            have kk := hide (unhide k8 c5)
            clear c4
            go_wp2_with fail
            refine (kk.out _).mono ?_
            rintro e w8 ⟨rfl, hn⟩
            replace hb := below_then hb hn
            clear hn
            go_wp2_with fail
            refine (known_calls _).mono ?_
            rintro e w9 ⟨rfl, hn⟩
            replace hb := below_then hb hn
            clear hn
            go_wp2_with fail
            go_ret
            exact ⟨rfl, hb⟩
        · have c3' : (h == 0) = false := by simpa using c3
          clear c3
          go_wp2_with fail
          refine (k7.out _).mono ?_
          rintro e w7 ⟨rfl, hn⟩
          replace hb := below_then hb hn
          clear hn
          by_cases c4 : (a == 0) = true
          · obtain rfl : a = 0 := by simpa using c4
            have kk := hide (divdec_tells0 0)
            go_wp2_with fail
            refine (kk.out _).mono ?_
            rintro e w8 ⟨rfl, hn⟩
            replace hb := below_then hb hn
            clear hn
            go_wp2_with fail
            refine (known_calls _).mono ?_
            rintro e w9 ⟨rfl, hn⟩
            replace hb := below_then hb hn
            clear hn
            go_wp2_with fail
            go_ret
            exact ⟨rfl, hb⟩
          · have c5 : (a == 0) = false := by simpa using c4
            have c6 : (a != 0) = true := by simpa using c4
            have kk := hide (unhide k8 c5)
            clear c4
            go_wp2_with fail
            refine (kk.out _).mono ?_
            rintro e w8 ⟨rfl, hn⟩
            replace hb := below_then hb hn
            clear hn
            go_wp2_with fail
            refine (known_calls _).mono ?_
            rintro e w9 ⟨rfl, hn⟩
            replace hb := below_then hb hn
            clear hn
            go_wp2_with fail
            go_ret
            exact ⟨rfl, hb⟩
      · have c7' : (b != 0) = false := by simpa using c7
        clear c7
        go_wp2_with fail
        refine (k5.out _).mono ?_
        rintro e w5 ⟨rfl, hn⟩
        replace hb := below_then hb hn
        clear hn
        by_cases c3 : (h == 0) = true
        · have kk := hide (unhide k6 c3)
          obtain ⟨m, m1, m2, m3, m4⟩ := unhide hq c3
          go_wp2_with fail
          refine (kk.out _).mono ?_
          rintro e w6 ⟨rfl, hn⟩
          replace hb := below_then hb hn
          clear hn
          go_wp2_with fail
          refine (k7.out _).mono ?_
          rintro e w7 ⟨rfl, hn⟩
          replace hb := below_then hb hn
          clear hn
          by_cases c4 : (a == 0) = true
          · obtain rfl : a = 0 := by simpa using c4
            have kk := hide (divdec_tells0 0)
            go_wp2_with fail
            refine (kk.out _).mono ?_
            rintro e w8 ⟨rfl, hn⟩
            replace hb := below_then hb hn
            clear hn
            go_wp2_with fail
            refine (known_calls _).mono ?_
            rintro e w9 ⟨rfl, hn⟩
            replace hb := below_then hb hn
            clear hn
            go_wp2_with fail
            go_ret
            exact ⟨rfl, hb⟩
          · have c5 : (a == 0) = false := by simpa using c4
            have c6 : (a != 0) = true := by simpa using c4
            have kk := hide (unhide k8 c5)
            clear c4
            go_wp2_with fail
            refine (kk.out _).mono ?_
            rintro e w8 ⟨rfl, hn⟩
            replace hb := below_then hb hn
            clear hn
            go_wp2_with fail
            refine (known_calls _).mono ?_
            rintro e w9 ⟨rfl, hn⟩
            replace hb := below_then hb hn
            clear hn
            go_wp2_with fail
            go_ret
            exact ⟨rfl, hb⟩
        · have c3' : (h == 0) = false := by simpa using c3
          clear c3
          go_wp2_with fail
          refine (k7.out _).mono ?_
          rintro e w7 ⟨rfl, hn⟩
          replace hb := below_then hb hn
          clear hn
          by_cases c4 : (a == 0) = true
          · obtain rfl : a = 0 := by simpa using c4
            have kk := hide (divdec_tells0 0)
            go_wp2_with fail
            refine (kk.out _).mono ?_
            rintro e w8 ⟨rfl, hn⟩
            replace hb := below_then hb hn
            clear hn
            go_wp2_with fail
            refine (known_calls _).mono ?_
            rintro e w9 ⟨rfl, hn⟩
            replace hb := below_then hb hn
            clear hn
            go_wp2_with fail
            go_ret
            exact ⟨rfl, hb⟩
          · have c5 : (a == 0) = false := by simpa using c4
            have c6 : (a != 0) = true := by simpa using c4
            have kk := hide (unhide k8 c5)
            clear c4
            go_wp2_with fail
            refine (kk.out _).mono ?_
            rintro e w8 ⟨rfl, hn⟩
            replace hb := below_then hb hn
            clear hn
            go_wp2_with fail
            refine (known_calls _).mono ?_
            rintro e w9 ⟨rfl, hn⟩
            replace hb := below_then hb hn
            clear hn
            go_wp2_with fail
            go_ret
            exact ⟨rfl, hb⟩
    · have c2' : (g == 0) = false := by simpa using c2
      clear c2
      go_wp2_with fail
      refine (k5.out _).mono ?_
      rintro e w5 ⟨rfl, hn⟩
      replace hb := below_then hb hn
      clear hn
      by_cases c3 : (h == 0) = true
      · have kk := hide (unhide k6 c3)
        obtain ⟨m, m1, m2, m3, m4⟩ := unhide hq c3
        go_wp2_with fail
        refine (kk.out _).mono ?_
        rintro e w6 ⟨rfl, hn⟩
        replace hb := below_then hb hn
        clear hn
        go_wp2_with fail
        refine (k7.out _).mono ?_
        rintro e w7 ⟨rfl, hn⟩
        replace hb := below_then hb hn
        clear hn
        by_cases c4 : (a == 0) = true
        · obtain rfl : a = 0 := by simpa using c4
          have kk := hide (divdec_tells0 0)
          go_wp2_with fail
          refine (kk.out _).mono ?_
          rintro e w8 ⟨rfl, hn⟩
          replace hb := below_then hb hn
          clear hn
          go_wp2_with fail
          refine (known_calls _).mono ?_
          rintro e w9 ⟨rfl, hn⟩
          replace hb := below_then hb hn
          clear hn
          go_wp2_with fail
          go_ret
          exact ⟨rfl, hb⟩
        · have c5 : (a == 0) = false := by simpa using c4
          have c6 : (a != 0) = true := by simpa using c4
          have kk := hide (unhide k8 c5)
          clear c4
          go_wp2_with fail
          refine (kk.out _).mono ?_
          rintro e w8 ⟨rfl, hn⟩
          replace hb := below_then hb hn
          clear hn
          go_wp2_with fail
          refine (known_calls _).mono ?_
          rintro e w9 ⟨rfl, hn⟩
          replace hb := below_then hb hn
          clear hn
          go_wp2_with fail
          go_ret
          exact ⟨rfl, hb⟩
      · have c3' : (h == 0) = false := by simpa using c3
        clear c3
        go_wp2_with fail
        refine (k7.out _).mono ?_
        rintro e w7 ⟨rfl, hn⟩
        replace hb := below_then hb hn
        clear hn
        by_cases c4 : (a == 0) = true
        · obtain rfl : a = 0 := by simpa using c4
          have kk := hide (divdec_tells0 0)
          go_wp2_with fail
          refine (kk.out _).mono ?_
          rintro e w8 ⟨rfl, hn⟩
          replace hb := below_then hb hn
          clear hn
          go_wp2_with fail
          refine (known_calls _).mono ?_
          rintro e w9 ⟨rfl, hn⟩
          replace hb := below_then hb hn
          clear hn
          go_wp2_with fail
          go_ret
          exact ⟨rfl, hb⟩
        · have c5 : (a == 0) = false := by simpa using c4
          have c6 : (a != 0) = true := by simpa using c4
          have kk := hide (unhide k8 c5)
          clear c4
          go_wp2_with fail
          refine (kk.out _).mono ?_
          rintro e w8 ⟨rfl, hn⟩
          replace hb := below_then hb hn
          clear hn
          go_wp2_with fail
          refine (known_calls _).mono ?_
          rintro e w9 ⟨rfl, hn⟩
          replace hb := below_then hb hn
          clear hn
          go_wp2_with fail
          go_ret
          exact ⟨rfl, hb⟩
end Go.Proofs.Ytlmjcifiofobpaa
