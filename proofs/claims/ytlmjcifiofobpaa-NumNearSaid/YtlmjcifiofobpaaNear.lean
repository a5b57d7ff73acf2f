/- The walk of NumNear. -/
import Derived.Test.YtlmjcifiofobpaaPlain
namespace Go.Proofs.Ytlmjcifiofobpaa
open Go.ChangeShapes Go.WideShapes Go.ChangeAt Go.RowKit
set_option linter.unusedVariables false
set_option linter.unusedSimpArgs false

set_option maxRecDepth 100000 in
set_option maxHeartbeats 6400000 in
theorem near_walk (a b m xy q qy : Int) (w : World) (a1 : -2147483648 ≤ a) (a2 : a ≤ 2147483647) (b1 : -2147483648 ≤ b) (b2 : b ≤ 2147483647)
    (k1' : Tells 13 #[.int .i64 a, .int .i64 b] m 0) (e1' : a * b = xy) (x1 : -4611686018427387904 ≤ xy) (x2 : xy ≤ 4611686018427387904)
    (m1 : -5000 ≤ m * 10000 - xy) (m2 : m * 10000 - xy ≤ 5000) (m3' : (m * 10000 - xy = 5000 ∨ m * 10000 - xy = -5000) → (m.tmod 2 != 0) = false)
    (k2' : (b == 0) = false → Tells 14 #[.int .i64 a, .int .i64 b] q 0) (e2' : q * b = qy)
    (n1' : (b == 0) = false → -(b.natAbs : Int) ≤ 2 * (qy - a * 10000) ∧ 2 * (qy - a * 10000) ≤ (b.natAbs : Int))
    (h1 : (b == 0) = false) (n2' : (2 * (qy - a * 10000) = (b.natAbs : Int) ∨ 2 * (qy - a * 10000) = -(b.natAbs : Int)) → (q.tmod 2 == 0) = true) :
    Calls Try.prog 3 #[.int .i32 a, .int .i32 b] w fun x w' => x = .returned (.bool true) ∧ Below w.heap.size w w' := by
  have k1 := hide k1'
  have k2 := hide k2'
  have m3 := hide m3'
  have n1 := hide n1'
  have n2 := hide n2'
  have e1 := hide e1'
  have e2 := hide e2'
  clear k1' k2' m3' n1' n2' e1' e2'
  go_enter Try.func3, Try.ntmps3
  have f1 := e1.out
  go_wp2_with fail
  refine (k1.out _).mono ?_
  rintro e w1 ⟨rfl, hn⟩
  have hb := hn
  clear hn
  by_cases d1 : m * 10000 - xy = -5000
  · have d1' : (m * 10000 - xy == -5000) = true := by simpa using d1
    have d2 := unhide m3 (.inr d1)
    clear d1
    · have kk := hide (unhide k2 h1)
      have hn := hide (unhide n1 h1)
      have t1 : -2147483648 ≤ 2 * (qy - a * 10000) := by have := hn.out; omega
      have t2 : 2 * (qy - a * 10000) ≤ 2147483648 := by have := hn.out; omega
      go_wp2_with fail
      refine (kk.out _).mono ?_
      rintro e w2 ⟨rfl, hn⟩
      replace hb := below_then hb hn
      clear hn
      have f2 := e2.out
      by_cases s1 : 2 * (qy - a * 10000) < 0
      · by_cases s2 : b < 0
        · have u1 : -(2 * (qy - a * 10000)) ≤ -b := by have := hn.out; omega
          by_cases u2 : -(2 * (qy - a * 10000)) < -b
          · go_wp2_with fail
            refine (known_calls _).mono ?_
            rintro e w3 ⟨rfl, hn⟩
            replace hb := below_then hb hn
            clear hn
            go_wp2_with fail
            go_ret
            exact ⟨rfl, hb⟩
          · have u3 := unhide n2 (by omega)
            go_wp2_with fail
            refine (known_calls _).mono ?_
            rintro e w3 ⟨rfl, hn⟩
            replace hb := below_then hb hn
            clear hn
            go_wp2_with fail
            go_ret
            exact ⟨rfl, hb⟩
        · have u1 : -(2 * (qy - a * 10000)) ≤ b := by have := hn.out; omega
          by_cases u2 : -(2 * (qy - a * 10000)) < b
          · go_wp2_with fail
            refine (known_calls _).mono ?_
            rintro e w3 ⟨rfl, hn⟩
            replace hb := below_then hb hn
            clear hn
            go_wp2_with fail
            go_ret
            exact ⟨rfl, hb⟩
          · have u3 := unhide n2 (by omega)
            go_wp2_with fail
            refine (known_calls _).mono ?_
            rintro e w3 ⟨rfl, hn⟩
            replace hb := below_then hb hn
            clear hn
            go_wp2_with fail
            go_ret
            exact ⟨rfl, hb⟩
      · by_cases s2 : b < 0
        · have u1 : 2 * (qy - a * 10000) ≤ -b := by have := hn.out; omega
          by_cases u2 : 2 * (qy - a * 10000) < -b
          · go_wp2_with fail
            refine (known_calls _).mono ?_
            rintro e w3 ⟨rfl, hn⟩
            replace hb := below_then hb hn
            clear hn
            go_wp2_with fail
            go_ret
            exact ⟨rfl, hb⟩
          · have u3 := unhide n2 (by omega)
            go_wp2_with fail
            refine (known_calls _).mono ?_
            rintro e w3 ⟨rfl, hn⟩
            replace hb := below_then hb hn
            clear hn
            go_wp2_with fail
            go_ret
            exact ⟨rfl, hb⟩
        · have u1 : 2 * (qy - a * 10000) ≤ b := by have := hn.out; omega
          by_cases u2 : 2 * (qy - a * 10000) < b
          · go_wp2_with fail
            refine (known_calls _).mono ?_
            rintro e w3 ⟨rfl, hn⟩
            replace hb := below_then hb hn
            clear hn
            go_wp2_with fail
            go_ret
            exact ⟨rfl, hb⟩
          · have u3 := unhide n2 (by omega)
            go_wp2_with fail
            refine (known_calls _).mono ?_
            rintro e w3 ⟨rfl, hn⟩
            replace hb := below_then hb hn
            clear hn
            go_wp2_with fail
            go_ret
            exact ⟨rfl, hb⟩
  · have d1' : (m * 10000 - xy == -5000) = false := by simpa using d1
    by_cases d3 : m * 10000 - xy = 5000
    · have d3' : (m * 10000 - xy == 5000) = true := by simpa using d3
      have d2 := unhide m3 (.inl d3)
      clear d1 d3
      · have kk := hide (unhide k2 h1)
        have hn := hide (unhide n1 h1)
        have t1 : -2147483648 ≤ 2 * (qy - a * 10000) := by have := hn.out; omega
        have t2 : 2 * (qy - a * 10000) ≤ 2147483648 := by have := hn.out; omega
        go_wp2_with fail
        refine (kk.out _).mono ?_
        rintro e w2 ⟨rfl, hn⟩
        replace hb := below_then hb hn
        clear hn
        have f2 := e2.out
        by_cases s1 : 2 * (qy - a * 10000) < 0
        · by_cases s2 : b < 0
          · have u1 : -(2 * (qy - a * 10000)) ≤ -b := by have := hn.out; omega
            by_cases u2 : -(2 * (qy - a * 10000)) < -b
            · go_wp2_with fail
              refine (known_calls _).mono ?_
              rintro e w3 ⟨rfl, hn⟩
              replace hb := below_then hb hn
              clear hn
              go_wp2_with fail
              go_ret
              exact ⟨rfl, hb⟩
            · have u3 := unhide n2 (by omega)
              go_wp2_with fail
              refine (known_calls _).mono ?_
              rintro e w3 ⟨rfl, hn⟩
              replace hb := below_then hb hn
              clear hn
              go_wp2_with fail
              go_ret
              exact ⟨rfl, hb⟩
          · have u1 : -(2 * (qy - a * 10000)) ≤ b := by have := hn.out; omega
            by_cases u2 : -(2 * (qy - a * 10000)) < b
            · go_wp2_with fail
              refine (known_calls _).mono ?_
              rintro e w3 ⟨rfl, hn⟩
              replace hb := below_then hb hn
              clear hn
              go_wp2_with fail
              go_ret
              exact ⟨rfl, hb⟩
            · have u3 := unhide n2 (by omega)
              go_wp2_with fail
              refine (known_calls _).mono ?_
              rintro e w3 ⟨rfl, hn⟩
              replace hb := below_then hb hn
              clear hn
              go_wp2_with fail
              go_ret
              exact ⟨rfl, hb⟩
        · by_cases s2 : b < 0
          · have u1 : 2 * (qy - a * 10000) ≤ -b := by have := hn.out; omega
            by_cases u2 : 2 * (qy - a * 10000) < -b
            · go_wp2_with fail
              refine (known_calls _).mono ?_
              rintro e w3 ⟨rfl, hn⟩
              replace hb := below_then hb hn
              clear hn
              go_wp2_with fail
              go_ret
              exact ⟨rfl, hb⟩
            · have u3 := unhide n2 (by omega)
              go_wp2_with fail
              refine (known_calls _).mono ?_
              rintro e w3 ⟨rfl, hn⟩
              replace hb := below_then hb hn
              clear hn
              go_wp2_with fail
              go_ret
              exact ⟨rfl, hb⟩
          · have u1 : 2 * (qy - a * 10000) ≤ b := by have := hn.out; omega
            by_cases u2 : 2 * (qy - a * 10000) < b
            · go_wp2_with fail
              refine (known_calls _).mono ?_
              rintro e w3 ⟨rfl, hn⟩
              replace hb := below_then hb hn
              clear hn
              go_wp2_with fail
              go_ret
              exact ⟨rfl, hb⟩
            · have u3 := unhide n2 (by omega)
              go_wp2_with fail
              refine (known_calls _).mono ?_
              rintro e w3 ⟨rfl, hn⟩
              replace hb := below_then hb hn
              clear hn
              go_wp2_with fail
              go_ret
              exact ⟨rfl, hb⟩
    · have d3' : (m * 10000 - xy == 5000) = false := by simpa using d3
      clear d1 d3
      · have kk := hide (unhide k2 h1)
        have hn := hide (unhide n1 h1)
        have t1 : -2147483648 ≤ 2 * (qy - a * 10000) := by have := hn.out; omega
        have t2 : 2 * (qy - a * 10000) ≤ 2147483648 := by have := hn.out; omega
        go_wp2_with fail
        refine (kk.out _).mono ?_
        rintro e w2 ⟨rfl, hn⟩
        replace hb := below_then hb hn
        clear hn
        have f2 := e2.out
        by_cases s1 : 2 * (qy - a * 10000) < 0
        · by_cases s2 : b < 0
          · have u1 : -(2 * (qy - a * 10000)) ≤ -b := by have := hn.out; omega
            by_cases u2 : -(2 * (qy - a * 10000)) < -b
            · go_wp2_with fail
              refine (known_calls _).mono ?_
              rintro e w3 ⟨rfl, hn⟩
              replace hb := below_then hb hn
              clear hn
              go_wp2_with fail
              go_ret
              exact ⟨rfl, hb⟩
            · have u3 := unhide n2 (by omega)
              go_wp2_with fail
              refine (known_calls _).mono ?_
              rintro e w3 ⟨rfl, hn⟩
              replace hb := below_then hb hn
              clear hn
              go_wp2_with fail
              go_ret
              exact ⟨rfl, hb⟩
          · have u1 : -(2 * (qy - a * 10000)) ≤ b := by have := hn.out; omega
            by_cases u2 : -(2 * (qy - a * 10000)) < b
            · go_wp2_with fail
              refine (known_calls _).mono ?_
              rintro e w3 ⟨rfl, hn⟩
              replace hb := below_then hb hn
              clear hn
              go_wp2_with fail
              go_ret
              exact ⟨rfl, hb⟩
            · have u3 := unhide n2 (by omega)
              go_wp2_with fail
              refine (known_calls _).mono ?_
              rintro e w3 ⟨rfl, hn⟩
              replace hb := below_then hb hn
              clear hn
              go_wp2_with fail
              go_ret
              exact ⟨rfl, hb⟩
        · by_cases s2 : b < 0
          · have u1 : 2 * (qy - a * 10000) ≤ -b := by have := hn.out; omega
            by_cases u2 : 2 * (qy - a * 10000) < -b
            · go_wp2_with fail
              refine (known_calls _).mono ?_
              rintro e w3 ⟨rfl, hn⟩
              replace hb := below_then hb hn
              clear hn
              go_wp2_with fail
              go_ret
              exact ⟨rfl, hb⟩
            · have u3 := unhide n2 (by omega)
              go_wp2_with fail
              refine (known_calls _).mono ?_
              rintro e w3 ⟨rfl, hn⟩
              replace hb := below_then hb hn
              clear hn
              go_wp2_with fail
              go_ret
              exact ⟨rfl, hb⟩
          · have u1 : 2 * (qy - a * 10000) ≤ b := by have := hn.out; omega
            by_cases u2 : 2 * (qy - a * 10000) < b
            · go_wp2_with fail
              refine (known_calls _).mono ?_
              rintro e w3 ⟨rfl, hn⟩
              replace hb := below_then hb hn
              clear hn
              go_wp2_with fail
              go_ret
              exact ⟨rfl, hb⟩
            · have u3 := unhide n2 (by omega)
              go_wp2_with fail
              refine (known_calls _).mono ?_
              rintro e w3 ⟨rfl, hn⟩
              replace hb := below_then hb hn
              clear hn
              go_wp2_with fail
              go_ret
              exact ⟨rfl, hb⟩

set_option maxRecDepth 100000 in
theorem near_zero (a : Int) (w : World) (a1 : -2147483648 ≤ a) (a2 : a ≤ 2147483647) (k1' : Tells 13 #[.int .i64 a, .int .i64 0] 0 0) :
    Calls Try.prog 3 #[.int .i32 a, .int .i32 0] w fun x w' => x = .returned (.bool true) ∧ Below w.heap.size w w' := by
  have k1 := hide k1'
  have kk := hide (divdec_tells0 a)
  clear k1'
  go_enter Try.func3, Try.ntmps3
  go_wp2_with fail
  refine (k1.out _).mono ?_
  rintro e w1 ⟨rfl, hn⟩
  have hb := hn
  clear hn
  go_wp2_with fail
  refine (kk.out _).mono ?_
  rintro e w2 ⟨rfl, hn⟩
  replace hb := below_then hb hn
  clear hn
  go_wp2_with fail
  refine (known_calls _).mono ?_
  rintro e w3 ⟨rfl, hn⟩
  replace hb := below_then hb hn
  clear hn
  go_wp2_with fail
  go_ret
  exact ⟨rfl, hb⟩
end Go.Proofs.Ytlmjcifiofobpaa
