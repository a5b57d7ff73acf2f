/- The walk of NumScales, and what it tells. -/
import Derived.Test.YtlmjcifiofobpaaPlain
namespace Go.Proofs.Ytlmjcifiofobpaa
open Go.ChangeShapes Go.WideShapes Go.ChangeAt Go.RowKit
set_option linter.unusedVariables false
set_option linter.unusedSimpArgs false

set_option maxRecDepth 100000 in
set_option maxHeartbeats 3200000 in
theorem scales_out (a b x e y f : Int) (w : World) (k1' : Tells 16 #[.int .i64 a] x e) (k2' : Tells 16 #[.int .i64 b] y f)
    (hd' : ((e != 0) = true) ∨ ((e != 0) = false ∧ (f != 0) = true)) :
    Calls Try.prog 4 #[.int .i64 a, .int .i64 b] w fun x w' => x = .returned (.bool true) ∧ Below w.heap.size w w' := by
  have k1 := hide k1'
  have k2 := hide k2'
  have hd := hide hd'
  clear k1' k2' hd'
  go_enter Try.func4, Try.ntmps4
  go_wp2_with fail
  refine (k1.out _).mono ?_
  rintro e w1 ⟨rfl, hn⟩
  have hb := hn
  clear hn
  go_wp2_with fail
  refine (k2.out _).mono ?_
  rintro e w2 ⟨rfl, hn⟩
  replace hb := below_then hb hn
  clear hn
  rcases hd.out with q1 | ⟨q1, q2⟩
  all_goals
    go_wp2_with fail
    refine (known_calls _).mono ?_
    rintro e w3 ⟨rfl, hn⟩
    replace hb := below_then hb hn
    clear hn
    go_wp2_with fail
    go_ret
    exact ⟨rfl, hb⟩

set_option maxRecDepth 100000 in
set_option maxHeartbeats 3200000 in
theorem scales_in (a b x y s t h p g q h2 p' w' i' c g3 : Int) (w : World) (k1' : Tells 16 #[.int .i64 a] x 0) (k2' : Tells 16 #[.int .i64 b] y 0)
    (k3' : Tells 17 #[.int .i64 a, .int .i64 b] s 0) (k4' : Tells 17 #[.int .i64 x, .int .i64 y] t h) (k5' : Tells 16 #[.int .i64 s] t h)
    (k6' : Tells 18 #[.int .i64 a, .int .i64 b] p g) (k7' : Tells 13 #[.int .i64 x, .int .i64 y] q h2) (k8' : Tells 16 #[.int .i64 p] w' i')
    (k9' : Tells 14 #[.int .i64 x, .int .i64 y] c g3) (k10' : Tells 14 #[.int .i64 a, .int .i64 b] c g3)
    (hd' : ((g != 0) = false ∧ (q != w') = false ∧ (h2 != i') = false) ∨ ((g != 0) = true ∧ (q != 0) = false ∧ (h2 != g) = false)) :
    Calls Try.prog 4 #[.int .i64 a, .int .i64 b] w fun x w' => x = .returned (.bool true) ∧ Below w.heap.size w w' := by
  have k1 := hide k1'
  have k2 := hide k2'
  have k3 := hide k3'
  have k4 := hide k4'
  have k5 := hide k5'
  have k6 := hide k6'
  have k7 := hide k7'
  have k8 := hide k8'
  have k9 := hide k9'
  have k10 := hide k10'
  have hd := hide hd'
  clear k1' k2' k3' k4' k5' k6' k7' k8' k9' k10' hd'
  go_enter Try.func4, Try.ntmps4
  go_wp2_with fail
  refine (k1.out _).mono ?_
  rintro e w1 ⟨rfl, hn⟩
  have hb := hn
  clear hn
  go_wp2_with fail
  refine (k2.out _).mono ?_
  rintro e w2 ⟨rfl, hn⟩
  replace hb := below_then hb hn
  clear hn
  go_wp2_with fail
  refine (k3.out _).mono ?_
  rintro e w3 ⟨rfl, hn⟩
  replace hb := below_then hb hn
  clear hn
  go_wp2_with fail
  refine (k4.out _).mono ?_
  rintro e w4 ⟨rfl, hn⟩
  replace hb := below_then hb hn
  clear hn
  go_wp2_with fail
  refine (k5.out _).mono ?_
  rintro e w5 ⟨rfl, hn⟩
  replace hb := below_then hb hn
  clear hn
  go_wp2_with fail
  refine (k6.out _).mono ?_
  rintro e w6 ⟨rfl, hn⟩
  replace hb := below_then hb hn
  clear hn
  go_wp2_with fail
  refine (k7.out _).mono ?_
  rintro e w7 ⟨rfl, hn⟩
  replace hb := below_then hb hn
  clear hn
  go_wp2_with fail
  refine (k8.out _).mono ?_
  rintro e w8 ⟨rfl, hn⟩
  replace hb := below_then hb hn
  clear hn
  rcases hd.out with ⟨q1, q2, q3⟩ | ⟨q1, q2, q3⟩
  all_goals
    go_wp2_with fail
    refine (k9.out _).mono ?_
    rintro e w9 ⟨rfl, hn⟩
    replace hb := below_then hb hn
    clear hn
    go_wp2_with fail
    refine (k10.out _).mono ?_
    rintro e w10 ⟨rfl, hn⟩
    replace hb := below_then hb hn
    clear hn
    go_wp2_with fail
    refine (known_calls _).mono ?_
    rintro e w11 ⟨rfl, hn⟩
    replace hb := below_then hb hn
    clear hn
    go_wp2_with fail
    go_ret
    exact ⟨rfl, hb⟩
end Go.Proofs.Ytlmjcifiofobpaa
