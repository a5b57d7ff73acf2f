/- Plain laws of the least and the greatest value. -/
import Derived.Test.YtlmjcifiofobpaaSummed
namespace Go.Proofs.Ytlmjcifiofobpaa
open Go.ChangeShapes Go.WideShapes Go.ChangeAt Go.RowKit
set_option linter.unusedVariables false
set_option linter.unusedSimpArgs false

theorem any_same {l l' : List Val} (h : ∀ v, v ∈ l' ↔ v ∈ l) (p : Val → Bool) : l'.any p = l.any p := by
  rw [Bool.eq_iff_iff, List.any_eq_true, List.any_eq_true]
  exact ⟨fun ⟨v, h1, h2⟩ => ⟨v, (h v).1 h1, h2⟩, fun ⟨v, h1, h2⟩ => ⟨v, (h v).2 h1, h2⟩⟩
theorem all_same {l l' : List Val} (h : ∀ v, v ∈ l' ↔ v ∈ l) (p : Val → Bool) : l'.all p = l.all p := by
  rw [Bool.eq_iff_iff, List.all_eq_true, List.all_eq_true]
  exact ⟨fun g v h1 => g v ((h v).2 h1), fun g v h1 => g v ((h v).1 h1)⟩
def mkV (kd n : Int) : Val := ⟨kd, n, ⟨#[]⟩⟩
theorem alike_two (l : List Val) (hok : ∀ v ∈ l, v.ok) : (∃ e, ∀ l', (∀ v, v ∈ l' ↔ v ∈ l) → ∀ c, firstF c l' = (Val.zero, e)) ∨
    ∃ (kd : Int) (g : Val → Int), (kd = 1 ∨ kd = 2) ∧ (∀ v ∈ l, isNum v = true ∧ worth v = g v * (if kd = 1 then 10000 else 1)) ∧ ∀ l', (∀ v, v ∈ l' ↔ v ∈ l) → alikeF l' = (l'.map (fun v => mkV kd (g v)), false, 0) := by
  cases hbad : anyBad l
  · cases hnull : anyNull l
    · have hnum : ∀ v ∈ l, v.k = 1 ∨ v.k = 2 := by
        intro v hv
        have h1 : badV v = false := by
          unfold anyBad at hbad
          rw [List.any_eq_false] at hbad
          simpa using hbad v hv
        have h2 : v.k ≠ 0 := by
          unfold anyNull at hnull
          rw [List.any_eq_false] at hnull
          simpa using hnull v hv
        have := badV_cases v h1
        omega
      have hnn : ∀ v ∈ l, isNum v = true := fun v hv => by have := hnum v hv; unfold isNum; simpa using this
      by_cases hk : kindOf l = 2
      · cases hd : allDec l
        · refine .inl ⟨9, fun l' h c => ?_⟩
          have e1 : anyBad l' = false := (any_same h _).trans hbad
          have e2 : anyNull l' = false := (any_same h _).trans hnull
          have e3 : kindOf l' = 2 := by unfold kindOf at *; rw [any_same h]; exact hk
          have e4 : allDec l' = false := (all_same h _).trans hd
          unfold firstF alikeF
          simp [e1, e2, e3, e4]
        · refine .inr ⟨2, worth, .inr rfl, fun v hv => ⟨hnn v hv, by simp⟩, fun l' h => ?_⟩
          have e1 : anyBad l' = false := (any_same h _).trans hbad
          have e2 : anyNull l' = false := (any_same h _).trans hnull
          have e3 : kindOf l' = 2 := by unfold kindOf at *; rw [any_same h]; exact hk
          have e4 : allDec l' = true := (all_same h _).trans hd
          have e5 : l'.map asDec = l'.map (fun v => mkV 2 (worth v)) := by
            apply List.map_congr_left
            intro v hv
            have hv' := (h v).1 hv
            have hz : (decF v).2 = 0 := by
              unfold allDec at hd
              rw [List.all_eq_true] at hd
              simpa using hd v hv'
            unfold asDec mkV
            rw [(decF_worth v (hok v hv') (hnum v hv')).2 hz]
          unfold alikeF
          simp [e1, e2, e3, e4, e5]
      · have h1 : ∀ v ∈ l, v.k = 1 := by
          intro v hv
          have h2 : l.any (·.k == 2) = false := by
            unfold kindOf at hk
            cases h : l.any (·.k == 2)
            · rfl
            · rw [h] at hk; exact absurd rfl hk
          rw [List.any_eq_false] at h2
          have h3 := h2 v hv
          have h4 := hnum v hv
          simp at h3
          omega
        refine .inr ⟨1, fun v => v.n, .inl rfl, fun v hv => ⟨hnn v hv, by unfold worth; rw [if_pos (h1 v hv), if_pos rfl]⟩, fun l' h => ?_⟩
        have e1 : anyBad l' = false := (any_same h _).trans hbad
        have e2 : anyNull l' = false := (any_same h _).trans hnull
        have e3 : ¬ kindOf l' = 2 := by unfold kindOf at *; rw [any_same h]; exact hk
        unfold alikeF
        simp [e1, e2, e3]
        intro v _
        rfl
    · refine .inl ⟨0, fun l' h c => ?_⟩
      have e1 : anyBad l' = false := (any_same h _).trans hbad
      have e2 : anyNull l' = true := (any_same h _).trans hnull
      unfold firstF alikeF
      simp [e1, e2]
  · refine .inl ⟨8, fun l' h c => ?_⟩
    have e1 : anyBad l' = true := (any_same h _).trans hbad
    unfold firstF alikeF
    simp [e1]
theorem pick_min (kd : Int) : ∀ (l : List Int) (m : Int), pickF (-1) (l.map (mkV kd)) (mkV kd m) = mkV kd (l.foldl min m)
  | [], m => rfl
  | x :: l, m => by
    have e : (if cmpI (mkV kd x).n (mkV kd m).n = -1 then mkV kd x else mkV kd m) = mkV kd (min m x) := by
      unfold mkV cmpI
      dsimp only
      by_cases h : x < m
      · rw [if_pos h, if_pos rfl, Int.min_eq_right (by omega)]
      · rw [if_neg h, Int.min_eq_left (by omega)]
        by_cases h2 : m < x
        · rw [if_pos h2, if_neg (by decide)]
        · rw [if_neg h2, if_neg (by decide)]
    rw [List.map_cons, pickF, e, pick_min kd l _, List.foldl_cons]
theorem pick_max (kd : Int) : ∀ (l : List Int) (m : Int), pickF 1 (l.map (mkV kd)) (mkV kd m) = mkV kd (l.foldl max m)
  | [], m => rfl
  | x :: l, m => by
    have e : (if cmpI (mkV kd x).n (mkV kd m).n = 1 then mkV kd x else mkV kd m) = mkV kd (max m x) := by
      unfold mkV cmpI
      dsimp only
      by_cases h : x < m
      · rw [if_pos h, if_neg (by decide), Int.max_eq_left (by omega)]
      · rw [if_neg h]
        by_cases h2 : m < x
        · rw [if_pos h2, if_pos rfl, Int.max_eq_right (by omega)]
        · rw [if_neg h2, if_neg (by decide), Int.max_eq_left (by omega)]
    rw [List.map_cons, pickF, e, pick_max kd l _, List.foldl_cons]
theorem first_three (kd : Int) (g : Val → Int) (a b c : Val) (h : alikeF [a, b, c] = ([a, b, c].map (fun v => mkV kd (g v)), false, 0)) :
    firstF (-1) [a, b, c] = (mkV kd (min (min (g a) (g b)) (g c)), 0) ∧ firstF 1 [a, b, c] = (mkV kd (max (max (g a) (g b)) (g c)), 0) := by
  have e1 := pick_min kd [g a, g b, g c] (g a)
  have e2 := pick_max kd [g a, g b, g c] (g a)
  simp only [List.map_cons, List.map_nil, List.foldl_cons, List.foldl_nil, Int.min_self, Int.max_self] at e1 e2
  unfold firstF
  rw [h]
  simp only [List.map_cons, List.map_nil]
  rw [if_neg (by simp), if_neg (by simp), e1, e2]
  exact ⟨rfl, rfl⟩
theorem ends_laws (a b c : Val) (ha : a.ok) (hb : b.ok) (hc : c.ok) :
    ∃ (x y : Val) (e : Int), firstF (-1) [a, b, c] = (x, e) ∧ firstF 1 [a, b, c] = (y, e) ∧ firstF (-1) [c, a, b] = (x, e) ∧ firstF 1 [b, c, a] = (y, e) ∧ (e ≠ 0 ∨ x = Val.zero → x = Val.zero ∧ y = Val.zero) ∧
      (e = 0 → x ≠ Val.zero → I64 x.n ∧ I64 y.n ∧ ∃ n0 n1 n2 m0 m1 m2 : Int, cmpV x a = (n0, true) ∧ cmpV x b = (n1, true) ∧ cmpV x c = (n2, true) ∧ cmpV y a = (m0, true) ∧ cmpV y b = (m1, true) ∧ cmpV y c = (m2, true) ∧
        n0 ≤ 0 ∧ n1 ≤ 0 ∧ n2 ≤ 0 ∧ 0 ≤ m0 ∧ 0 ≤ m1 ∧ 0 ≤ m2 ∧ (n0 = 0 ∨ n1 = 0 ∨ n2 = 0) ∧ (m0 = 0 ∨ m1 = 0 ∨ m2 = 0) ∧ x.k = y.k) := by
  have hp1 : ∀ v, v ∈ [c, a, b] ↔ v ∈ [a, b, c] := by intro v; simp only [List.mem_cons, List.not_mem_nil, or_false]; constructor <;> (rintro (h | h | h) <;> simp [h])
  have hp2 : ∀ v, v ∈ [b, c, a] ↔ v ∈ [a, b, c] := by intro v; simp only [List.mem_cons, List.not_mem_nil, or_false]; constructor <;> (rintro (h | h | h) <;> simp [h])
  rcases alike_two [a, b, c] (by intro v hv; simp at hv; rcases hv with rfl | rfl | rfl <;> assumption) with ⟨e, h⟩ | ⟨kd, g, hk, hw, h⟩
  · exact ⟨Val.zero, Val.zero, e, h _ (fun _ => Iff.rfl) _, h _ (fun _ => Iff.rfl) _, h _ hp1 _, h _ hp2 _, fun _ => ⟨rfl, rfl⟩, fun _ h => absurd rfl h⟩
  · obtain ⟨f1, f2⟩ := first_three kd g a b c (h _ (fun _ => Iff.rfl))
    obtain ⟨f3, _⟩ := first_three kd g c a b (h _ hp1)
    obtain ⟨_, f4⟩ := first_three kd g b c a (h _ hp2)
    obtain ⟨wa1, wa2⟩ := hw a (by simp)
    obtain ⟨wb1, wb2⟩ := hw b (by simp)
    obtain ⟨wc1, wc2⟩ := hw c (by simp)
    have hnx : ∀ n, mkV kd n ≠ Val.zero := by
      intro n e
      have := congrArg Val.k e
      unfold mkV Val.zero at this
      dsimp only at this
      omega
    have hnum : ∀ n, isNum (mkV kd n) = true := by intro n; unfold isNum mkV; simpa using hk
    have hwk : ∀ n, worth (mkV kd n) = n * (if kd = 1 then 10000 else 1) := by
      intro n
      unfold worth mkV
      dsimp only
      split <;> omega
    have hg : I64 (g a) ∧ I64 (g b) ∧ I64 (g c) := by
      have key : ∀ v, v.ok → isNum v = true → worth v = g v * (if kd = 1 then 10000 else 1) → (kd = 2 → (decF v).2 = 0) → I64 (g v) := by
        intro v hv hn hw hd
        have hv2 : v.k = 1 ∨ v.k = 2 := by unfold isNum at hn; simpa using hn
        rcases hk with rfl | rfl
        · rw [if_pos rfl] at hw
          have h3 := hv.2.2
          unfold worth at hw
          unfold I64 at *
          split at hw <;> omega
        · rw [if_neg (by omega), Int.mul_one] at hw
          rw [← hw]
          exact (decF_worth v hv hv2).1.1 (hd rfl)
      have hd : kd = 2 → (decF a).2 = 0 ∧ (decF b).2 = 0 ∧ (decF c).2 = 0 := by
        rintro rfl
        have h1 := h [a, b, c] (fun _ => Iff.rfl)
        unfold alikeF at h1
        by_cases q1 : anyBad [a, b, c] = true
        · rw [if_pos q1] at h1; simp at h1
        · rw [if_neg q1] at h1
          by_cases q2 : anyNull [a, b, c] = true
          · rw [if_pos q2] at h1; simp at h1
          · rw [if_neg q2] at h1
            by_cases q3 : kindOf [a, b, c] = 2
            · rw [if_pos q3] at h1
              by_cases q4 : allDec [a, b, c] = true
              · unfold allDec at q4
                simpa using q4
              · rw [if_neg q4] at h1; simp at h1
            · rw [if_neg q3] at h1
              simp [asInt, mkV] at h1
      exact ⟨key a ha wa1 wa2 fun h => (hd h).1, key b hb wb1 wb2 fun h => (hd h).2.1, key c hc wc1 wc2 fun h => (hd h).2.2⟩
    refine ⟨_, _, 0, f1, f2, ?_, ?_, fun h => h.elim (fun h => absurd rfl h) (fun h => absurd h (hnx _)), fun _ _ => ⟨?_, ?_, _, _, _, _, _, _, cmpV_num _ _ ⟨hnum _, wa1⟩, cmpV_num _ _ ⟨hnum _, wb1⟩, cmpV_num _ _ ⟨hnum _, wc1⟩, cmpV_num _ _ ⟨hnum _, wa1⟩, cmpV_num _ _ ⟨hnum _, wb1⟩, cmpV_num _ _ ⟨hnum _, wc1⟩, ?_⟩⟩
    · rw [f3]
      congr 2
      omega
    · rw [f4]
      congr 2
      omega
    · unfold mkV I64 at *
      dsimp only
      omega
    · unfold mkV I64 at *
      dsimp only
      omega
    · rw [hwk, hwk, wa2, wb2, wc2]
      have hm : (if kd = 1 then (10000 : Int) else 1) = 10000 ∨ (if kd = 1 then (10000 : Int) else 1) = 1 := by split <;> simp
      generalize (if kd = 1 then (10000 : Int) else 1) = m at hm
      have L : ∀ x y : Int, (cmpI x y ≤ 0 ↔ x ≤ y) ∧ (0 ≤ cmpI x y ↔ y ≤ x) ∧ (cmpI x y = 0 ↔ x = y) := by
        intro x y
        unfold cmpI
        refine ⟨?_, ?_, ?_⟩ <;> ((repeat' split) <;> omega)
      simp only [L]
      generalize g a = p
      generalize g b = q
      generalize g c = r
      rcases hm with rfl | rfl
      · refine ⟨by omega, by omega, by omega, by omega, by omega, by omega, by omega, by omega, rfl⟩
      · refine ⟨by omega, by omega, by omega, by omega, by omega, by omega, by omega, by omega, rfl⟩
theorem least_one (a : Val) (ha : a.ok) (hm : mayF a = true) (hk : a.k = 1 ∨ a.k = 2) : firstF (-1) [a] = (a, 0) := by
  have hs : a.s = ⟨#[]⟩ := by
    unfold mayF at hm
    rw [if_neg (by omega), if_pos hk] at hm
    exact bytes_eq (by rw [List.isEmpty_iff.1 hm, Lib.toList_data])
  have hbad : anyBad [a] = false := by unfold anyBad badV isNum; simp; omega
  have hnull : anyNull [a] = false := by unfold anyNull; simp; omega
  obtain ⟨k, n, s⟩ := a
  dsimp only at hk hs
  subst hs
  rcases hk with rfl | rfl
  · have hal : alikeF [(⟨1, n, ⟨#[]⟩⟩ : Val)] = ([⟨1, n, ⟨#[]⟩⟩], false, 0) := by
      unfold alikeF
      simp [hbad, hnull, kindOf, asInt]
    unfold firstF
    rw [hal]
    simp [pickF]
  · have hal : alikeF [(⟨2, n, ⟨#[]⟩⟩ : Val)] = ([⟨2, n, ⟨#[]⟩⟩], false, 0) := by
      unfold alikeF
      simp [hbad, hnull, kindOf, asDec, allDec, decF]
    unfold firstF
    rw [hal]
    simp [pickF]
end Go.Proofs.Ytlmjcifiofobpaa
