/- Package value: what the told functions tell: all, any, not, the difference. -/
import Derived.Test.YtgicljncknbgcaaV2
namespace Go.Proofs.Ytgicljncknbgcaa.Abs
open Go
set_option linter.unusedVariables false
set_option linter.unusedSimpArgs false

def vNone : T_Value := (0, 0, [], ())
def vTruth (b : Bool) : T_Value := (4, bif b then 1 else 0, [], ())
def nTrue : T_Value := (4, 1, [], ())
def nFalse : T_Value := (4, 0, [], ())
theorem value_Truth_is (N : Nat) (b : Bool) : value_Truth N b = some (vTruth b) := by cases b <;> rfl
def notV (v : T_Value) : T_Value := if v.1 = 4 then vTruth (v.2.1 == 0) else vNone
theorem value_Not_is (N : Nat) (v : T_Value) : value_Not N v = some (notV v) := by
  unfold value_Not notV
  by_cases h : v.1 = 4
  · simp [h, value_Truth_is]
  · have e : (v.1 != 4) = true := by simpa using h
    rw [e, if_neg h]; rfl
def allS (out : T_Value) : List T_Value → T_Value
  | [] => out
  | v :: l => if v.1 = 4 ∧ v.2.1 = 0 ∧ v.2.2.1 = [] then v else allS (if v.1 = 4 then out else vNone) l
theorem getD_drop {α : Type} (l : List α) (k : Nat) (d : α) (h : k < l.length) : l.drop k = l.getD k d :: l.drop (k + 1) := by
  rw [List.drop_eq_getElem_cons h]
  simp [List.getD, h]
theorem All_iter (N : Nat) (l : List T_Value) (hl : l.length ≤ 1000000) : ∀ (M k : Nat) (out : T_Value), k ≤ l.length → l.length - k < M →
    iter (value_All_B1 N l (l.length : Int) 0 0 []) M ((k : Int), out.1, out.2.1, out.2.2.1) = some (allS out (l.drop k))
  | 0, k, out, hk, hM => absurd hM (by omega)
  | M + 1, k, out, hk, hM => by
    have ih := All_iter N l hl M (k + 1)
    rw [iter]
    generalize iter (value_All_B1 N l (l.length : Int) 0 0 []) M = K at *
    unfold value_All_B1
    simp only []
    by_cases h : k < l.length
    · have e1 : decide ((k : Int) < (l.length : Int)) = true := by simpa using h
      have e2 : inR (k : Int) l.length = true := by unfold inR; simpa using h
      have e3 : inI64 ((k : Int) + 1) = true := inI (by omega) (by omega)
      have e4 : nthD l (k : Int) d_Value = l.getD k d_Value := rfl
      rw [e1, e2, e3, e4, value_Truth_is, getD_drop l k d_Value h]
      generalize l.getD k d_Value = v at *
      simp only [cond_true, Option.bind_some, allS, vTruth, cond_false, Bool.and_true]
      by_cases h1 : v.1 = 4 ∧ v.2.1 = 0 ∧ v.2.2.1 = []
      · rw [if_pos h1]
        obtain ⟨h1, h2, h3⟩ := h1
        simp [h1, h2, h3]
      · rw [if_neg h1]
        have e5 : (v.1 == 4 && (v.2.1 == 0 && v.2.2.1 == [])) = false := by
          rw [Bool.eq_false_iff]; intro h; apply h1; simpa using h
        rw [e5]
        by_cases h2 : v.1 = 4
        · have e6 : (v.1 != 4) = false := by simpa using h2
          rw [e6, if_pos h2]
          exact ih out (by omega) (by omega)
        · have e6 : (v.1 != 4) = true := by simpa using h2
          rw [e6, if_neg h2]
          exact ih vNone (by omega) (by omega)
    · have e1 : decide ((k : Int) < (l.length : Int)) = false := by simpa using h
      rw [e1, show l.drop k = [] from List.drop_eq_nil_of_le (by omega)]
      rfl
theorem value_All_is (N : Nat) (l : List T_Value) (hl : l.length ≤ 1000000) (hN : l.length < N) : value_All N l = some (allS nTrue l) := by
  unfold value_All value_All_t
  rw [value_Truth_is]
  exact All_iter N l hl N 0 nTrue (by omega) (by omega)
theorem Any_iter (N : Nat) (l : List T_Value) (hl : l.length ≤ 1000000) (hN : l.length < N) : ∀ (M k : Nat), k ≤ l.length → l.length - k < M →
    iter (value_Any_B1 N l (l.length : Int) 0 0 []) M ((l.take k).map notV, (k : Int)) = some (notV (allS nTrue (l.map notV)))
  | 0, k, hk, hM => absurd hM (by omega)
  | M + 1, k, hk, hM => by
    have ih := Any_iter N l hl hN M (k + 1)
    rw [iter]
    generalize iter (value_Any_B1 N l (l.length : Int) 0 0 []) M = K at *
    unfold value_Any_B1
    simp only []
    by_cases h : k < l.length
    · have e1 : decide ((k : Int) < (l.length : Int)) = true := by simpa using h
      have e2 : inR (k : Int) l.length = true := by unfold inR; simpa using h
      have e3 : inI64 ((k : Int) + 1) = true := inI (by omega) (by omega)
      have e4 : nthD l (k : Int) d_Value = l.getD k d_Value := rfl
      have ih := ih (by omega) (by omega)
      rw [e1, e2, e3, e4, value_Not_is]
      simp only [cond_true, Option.bind_some]
      have e5 : fits (((l.take k).map notV).length + ([notV (l.getD k d_Value)] : List T_Value).length) 4398046511104 = true := by
        unfold fits
        rw [Nat.ble_eq]
        simp; omega
      rw [e5]
      simp only [cond_true]
      rw [List.take_succ_eq_append_getElem h, List.map_append] at ih
      simp only [List.getD, List.getElem?_eq_getElem h, Option.getD_some]
      exact ih
    · have e1 : decide ((k : Int) < (l.length : Int)) = false := by simpa using h
      rw [e1, List.take_of_length_le (by omega)]
      simp only [cond_false]
      rw [value_All_is N _ (by simpa using hl) (by simpa using hN)]
      simp only [Option.bind_some, value_Not_is]
theorem value_Any_is (N : Nat) (l : List T_Value) (hl : l.length ≤ 1000000) (hN : l.length < N) : value_Any N l = some (notV (allS nTrue (l.map notV))) := by
  unfold value_Any value_Any_t
  exact Any_iter N l hl hN N 0 (by omega) (by omega)
/-! a difference -/
theorem alike_strange (N : Nat) (hN : 4 ≤ N) (a b : T_Value) (h : ¬ (a.1 = 1 ∨ a.1 = 2)) (h0 : a.1 ≠ 0) : value_alike N [a, b] = some ([], false, 8, ()) := by
  obtain ⟨n, rfl⟩ : ∃ n, N = n + 4 := ⟨N - 4, by omega⟩
  unfold value_alike value_alike_t
  have e : value_isNumber (n + 4) a = some false := by rw [value_isNumber_is]; simp [h]
  have e0 : (a.1 != 0) = true := by simpa using h0
  simp [iter, value_alike_B1, value_alike_B1t, inR, nthD, e, e0]
theorem fits1 : fits 1 4398046511104 = true := rfl
theorem fits2 : fits 2 4398046511104 = true := rfl
theorem value_dec_is (N : Nat) (v : T_Value) (h : I64 v.2.1) (h1 : v.1 = 1) : value_dec N v = some (if I64 (v.2.1 * 10000) then ((2, v.2.1 * 10000, [], ()), 0, ()) else ((0, 0, [], ()), 9, ())) := by
  unfold value_dec
  rw [num_Scale_is N h]
  have e : (v.1 == 2) = false := by rw [h1]; rfl
  rw [e]
  by_cases hs : I64 (v.2.1 * 10000)
  · rw [intE_in hs, if_pos hs]; rfl
  · rw [intE_out hs, if_neg hs]; rfl
theorem value_dec_2 (N : Nat) (v : T_Value) (h1 : v.1 = 2) : value_dec N v = some (v, 0, ()) := by
  unfold value_dec
  have e : (v.1 == 2) = true := by rw [h1]; rfl
  rw [e]; rfl
theorem alike_ints (N : Nat) (hN : 4 ≤ N) (a b : T_Value) (h1 : a.1 = 1) (h2 : b.1 = 1) : value_alike N [a, b] = some ([(1, a.2.1, [], ()), (1, b.2.1, [], ())], false, 0, ()) := by
  obtain ⟨n, rfl⟩ : ∃ n, N = n + 4 := ⟨N - 4, by omega⟩
  unfold value_alike value_alike_t
  have ea : value_isNumber (n + 4) a = some true := by rw [value_isNumber_is]; simp [h1]
  have eb : value_isNumber (n + 4) b = some true := by rw [value_isNumber_is]; simp [h2]
  simp [iter, value_alike_B1, value_alike_B1t, value_alike_B2, inR, nthD, ea, eb, h1, h2, i1, i2, i3, iMax, fits1, fits2]
def twoDec (x y : T_Value) : Option ((List T_Value) × Bool × Int × Unit) := some ([(2, x.2.1, [], ()), (2, y.2.1, [], ())], false, 0, ())
theorem alike_decs (N : Nat) (hN : 4 ≤ N) (a b x y : T_Value) (e f : Int) (h1 : a.1 = 1 ∨ a.1 = 2) (h2 : b.1 = 1 ∨ b.1 = 2) (h : a.1 = 2 ∨ b.1 = 2)
    (hx : value_dec N a = some (x, e, ())) (hy : value_dec N b = some (y, f, ())) :
    value_alike N [a, b] = if e ≠ 0 then some ([], false, e, ()) else if f ≠ 0 then some ([], false, f, ()) else twoDec x y := by
  obtain ⟨n, rfl⟩ : ∃ n, N = n + 4 := ⟨N - 4, by omega⟩
  unfold value_alike value_alike_t
  have ea : value_isNumber (n + 4) a = some true := by rw [value_isNumber_is]; simp [h1]
  have eb : value_isNumber (n + 4) b = some true := by rw [value_isNumber_is]; simp [h2]
  have hm : iMax (iMax 1 a.1) b.1 = 2 := by
    rcases h1 with h1 | h1 <;> rcases h2 with h2 | h2 <;> first | (exfalso; omega) | (rw [h1, h2]; rfl)
  have n1 : (a.1 == 0) = false := by rcases h1 with h1 | h1 <;> rw [h1] <;> rfl
  have n2 : (b.1 == 0) = false := by rcases h2 with h2 | h2 <;> rw [h2] <;> rfl
  by_cases he : e = 0
  · by_cases hf : f = 0
    · simp [iter, value_alike_B1, value_alike_B1t, value_alike_B2, inR, nthD, ea, eb, n1, n2, i1, i2, i3, hm, fits1, fits2, hx, hy, he, hf, nz, twoDec]
    · simp [iter, value_alike_B1, value_alike_B1t, value_alike_B2, inR, nthD, ea, eb, n1, n2, i1, i2, i3, hm, fits1, fits2, hx, hy, he, hf, nz, twoDec]
  · simp [iter, value_alike_B1, value_alike_B1t, value_alike_B2, inR, nthD, ea, eb, n1, n2, i1, i2, i3, hm, fits1, fits2, hx, hy, he, nz, twoDec]
/-- the difference of two that compare: refused, or of the sign of the comparison -/
def SubOk (a b : T_Value) (r : T_Value × Int × Unit) : Prop :=
  r.2.1 = 0 → (r.1.2.1 < 0 ↔ (cmpV a b).1 < 0) ∧ (r.1.2.1 = 0 ↔ (cmpV a b).1 = 0)
theorem cmp_sign (x y d : Int) (h1 : d < 0 ↔ x < y) (h2 : d = 0 ↔ x = y) : (d < 0 ↔ cmpI x y < 0) ∧ (d = 0 ↔ cmpI x y = 0) := by
  unfold cmpI
  (repeat' split) <;> omega
theorem value_Sub_ok (N : Nat) (hN : 4 ≤ N) (a b : T_Value) (ha : I64 a.2.1) (hb : I64 b.2.1) (hc : (cmpV a b).2.1 = true) : ∃ r, value_Sub N a b = some r ∧ SubOk a b r := by
  unfold value_Sub value_do_v1
  by_cases h : (a.1 = 1 ∨ a.1 = 2) ∧ (b.1 = 1 ∨ b.1 = 2)
  · have hcv : cmpV a b = (cmpI (worth a) (worth b), true, ()) := if_pos h
    obtain ⟨h1, h2⟩ := h
    by_cases hd : a.1 = 2 ∨ b.1 = 2
    · have fin : ∀ x y : T_Value, I64 x.2.1 → I64 y.2.1 → (x.2.1 < y.2.1 ↔ worth a < worth b) → (x.2.1 = y.2.1 ↔ worth a = worth b) →
          ∃ r, ((twoDec x y).bind fun (r : (List T_Value) × Bool × Int × Unit) =>
            bif r.2.1 then some ((0, 0, [], ()), r.2.2.1, ()) else
            bif (r.2.2.1 != 0) then some ((0, 0, [], ()), r.2.2.1, ()) else
            bif inR 0 r.1.length then
            bif (((nthD r.1 0 d_Value).1) == 2) then
              bif inR 0 r.1.length then
              bif inR 1 r.1.length then
              (num_Sub N ((nthD r.1 0 d_Value).2.1) ((nthD r.1 1 d_Value).2.1)).bind fun (r1 : Int × Int × Unit) =>
              bif (r1.2.1 != 0) then
                some ((0, 0, [], ()), r1.2.1, ())
              else
                bif inR 0 r.1.length then
                some (((nthD r.1 0 d_Value).1, r1.1, [], ()), 0, ())
                else none
              else none
              else none
            else
              bif inR 0 r.1.length then
              bif inR 1 r.1.length then
              (num_Sub N ((nthD r.1 0 d_Value).2.1) ((nthD r.1 1 d_Value).2.1)).bind fun (r2 : Int × Int × Unit) =>
              bif (r2.2.1 != 0) then
                some ((0, 0, [], ()), r2.2.1, ())
              else
                bif inR 0 r.1.length then
                some (((nthD r.1 0 d_Value).1, r2.1, [], ()), 0, ())
                else none
              else none
              else none
            else none) = some r ∧ SubOk a b r := by
        intro x y hx hy hl he
        simp only [twoDec, Option.bind_some, cond_false, bne_self_eq_false, inR, nthD, List.getD, num_Sub_is N hx hy]
        by_cases ho : I64 (x.2.1 - y.2.1)
        · refine ⟨((2, x.2.1 - y.2.1, [], ()), 0, ()), by simp [num_Sub_is N hx hy, intE_in ho], fun _ => ?_⟩
          rw [hcv]
          exact cmp_sign (worth a) (worth b) (x.2.1 - y.2.1) (by omega) (by omega)
        · exact ⟨((0, 0, [], ()), 9, ()), by simp [num_Sub_is N hx hy, intE_out ho], fun h => absurd h (by decide)⟩
      have bad : ∀ e : Int, e ≠ 0 → ∃ r, ((some (([] : List T_Value), false, e, ())).bind fun (r : (List T_Value) × Bool × Int × Unit) =>
            bif r.2.1 then some ((0, 0, [], ()), r.2.2.1, ()) else
            bif (r.2.2.1 != 0) then some ((0, 0, [], ()), r.2.2.1, ()) else
            bif inR 0 r.1.length then
            bif (((nthD r.1 0 d_Value).1) == 2) then
              bif inR 0 r.1.length then
              bif inR 1 r.1.length then
              (num_Sub N ((nthD r.1 0 d_Value).2.1) ((nthD r.1 1 d_Value).2.1)).bind fun (r1 : Int × Int × Unit) =>
              bif (r1.2.1 != 0) then
                some ((0, 0, [], ()), r1.2.1, ())
              else
                bif inR 0 r.1.length then
                some (((nthD r.1 0 d_Value).1, r1.1, [], ()), 0, ())
                else none
              else none
              else none
            else
              bif inR 0 r.1.length then
              bif inR 1 r.1.length then
              (num_Sub N ((nthD r.1 0 d_Value).2.1) ((nthD r.1 1 d_Value).2.1)).bind fun (r2 : Int × Int × Unit) =>
              bif (r2.2.1 != 0) then
                some ((0, 0, [], ()), r2.2.1, ())
              else
                bif inR 0 r.1.length then
                some (((nthD r.1 0 d_Value).1, r2.1, [], ()), 0, ())
                else none
              else none
              else none
            else none) = some r ∧ SubOk a b r := fun e he => ⟨((0, 0, [], ()), e, ()), by simp [he, nz], fun h => absurd h he⟩
      have wa1 : a.1 = 1 → worth a = a.2.1 * 10000 := fun h => by unfold worth byV; rw [if_pos h]; rfl
      have wb1 : b.1 = 1 → worth b = b.2.1 * 10000 := fun h => by unfold worth byV; rw [if_pos h]; rfl
      have wa2 : a.1 = 2 → worth a = a.2.1 := fun h => by unfold worth byV; rw [if_neg (by omega)]; omega
      have wb2 : b.1 = 2 → worth b = b.2.1 := fun h => by unfold worth byV; rw [if_neg (by omega)]; omega
      rcases h1 with h1 | h1
      · have h2 : b.1 = 2 := by omega
        have wa := wa1 h1
        have wb := wb2 h2
        have da := value_dec_is N a ha h1
        have db := value_dec_2 N b h2
        by_cases hs : I64 (a.2.1 * 10000)
        · rw [if_pos hs] at da
          rw [alike_decs N hN a b _ _ _ _ (.inl h1) (.inr h2) (.inr h2) da db, if_neg (by simp), if_neg (by simp)]
          obtain ⟨r, hr, ok⟩ := fin (2, a.2.1 * 10000, [], ()) b hs hb (by dsimp only; omega) (by dsimp only; omega)
          rw [hr]; exact ⟨r, rfl, ok⟩
        · rw [if_neg hs] at da
          rw [alike_decs N hN a b _ _ _ _ (.inl h1) (.inr h2) (.inr h2) da db, if_pos (by simp)]
          obtain ⟨r, hr, ok⟩ := bad 9 (by decide)
          rw [hr]; exact ⟨r, rfl, ok⟩
      · have da := value_dec_2 N a h1
        rcases h2 with h2 | h2
        · have wa := wa2 h1
          have wb := wb1 h2
          have db := value_dec_is N b hb h2
          by_cases hs : I64 (b.2.1 * 10000)
          · rw [if_pos hs] at db
            rw [alike_decs N hN a b _ _ _ _ (.inr h1) (.inl h2) (.inl h1) da db, if_neg (by simp), if_neg (by simp)]
            obtain ⟨r, hr, ok⟩ := fin a (2, b.2.1 * 10000, [], ()) ha hs (by dsimp only; omega) (by dsimp only; omega)
            rw [hr]; exact ⟨r, rfl, ok⟩
          · rw [if_neg hs] at db
            rw [alike_decs N hN a b _ _ _ _ (.inr h1) (.inl h2) (.inl h1) da db, if_neg (by simp), if_pos (by simp)]
            obtain ⟨r, hr, ok⟩ := bad 9 (by decide)
            rw [hr]; exact ⟨r, rfl, ok⟩
        · have wa := wa2 h1
          have wb := wb2 h2
          have db := value_dec_2 N b h2
          rw [alike_decs N hN a b _ _ _ _ (.inr h1) (.inr h2) (.inl h1) da db, if_neg (by simp), if_neg (by simp)]
          obtain ⟨r, hr, ok⟩ := fin a b ha hb (by omega) (by omega)
          rw [hr]; exact ⟨r, rfl, ok⟩
    · have h1 : a.1 = 1 := by omega
      have h2 : b.1 = 1 := by omega
      rw [alike_ints N hN a b h1 h2]
      have wa : worth a = a.2.1 * 10000 := by unfold worth byV; rw [if_pos h1]; rfl
      have wb : worth b = b.2.1 * 10000 := by unfold worth byV; rw [if_pos h2]; rfl
      by_cases ho : I64 (a.2.1 - b.2.1)
      · refine ⟨((1, a.2.1 - b.2.1, [], ()), 0, ()), by simp [inR, nthD, num_Sub_is N ha hb, intE_in ho], fun _ => ?_⟩
        rw [hcv]
        exact cmp_sign (worth a) (worth b) (a.2.1 - b.2.1) (by omega) (by omega)
      · exact ⟨((0, 0, [], ()), 9, ()), by simp [inR, nthD, num_Sub_is N ha hb, intE_out ho], fun h => absurd h (by decide)⟩
  · have hk : a.1 = b.1 ∧ 3 ≤ a.1 ∧ a.1 ≤ 5 := by
      unfold cmpV at hc
      rw [if_neg h] at hc
      by_cases hk : a.1 = b.1 ∧ 3 ≤ a.1 ∧ a.1 ≤ 5
      · exact hk
      · rw [if_neg hk] at hc; cases hc
    rw [alike_strange N hN a b (by omega) (by omega)]
    exact ⟨((0, 0, [], ()), 8, ()), by simp, fun h => absurd h (by decide)⟩
end Go.Proofs.Ytgicljncknbgcaa.Abs
