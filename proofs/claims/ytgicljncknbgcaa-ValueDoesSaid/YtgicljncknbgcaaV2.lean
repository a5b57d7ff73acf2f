/- Package value: what ValueLaws tells. -/
import Derived.Test.YtgicljncknbgcaaV1
namespace Go.Proofs.Ytgicljncknbgcaa.Abs
open Go
set_option linter.unusedVariables false
set_option linter.unusedSimpArgs false

theorem w2_known_is : w2_known 100 = some true := by kernel_rfl
def rightV (v : T_Value) : Prop := v.1 = 4 → v.2.2.1 = [] ∧ (v.2.1 = 0 ∨ v.2.1 = 1)
theorem May4 (N : Nat) (v : T_Value) (h : v.1 = 4) : ∃ r, r2_May N v = some r ∧ (r = true → v.2.2.1 = [] ∧ (v.2.1 = 0 ∨ v.2.1 = 1)) := by
  unfold r2_May r2_May_t
  simp only [h, show ((4 : Int) == 0) = false from rfl, show ((4 : Int) == 1) = false from rfl, show ((4 : Int) == 2) = false from rfl, show ((4 : Int) == 3) = false from rfl, show ((4 : Int) == 4) = true from rfl, cond_false, cond_true]
  by_cases hs : v.2.2.1 = []
  · by_cases h0 : v.2.1 = 0
    · exact ⟨true, by simp [hs, h0], fun _ => ⟨hs, .inl h0⟩⟩
    · refine ⟨v.2.1 == 1, ?_, fun e => ⟨hs, .inr (by simpa using e)⟩⟩
      have e1 : (v.2.1 == 0) = false := by simpa using h0
      rw [hs, e1]; rfl
  · refine ⟨false, ?_, fun h => by cases h⟩
    have e1 : (v.2.2.1 == []) = false := by simpa using hs
    rw [e1]; rfl
theorem right_step (N : Nat) (l : List T_Value) (hl : l.length ≤ 1000) : ∀ (M k : Nat), k ≤ l.length → l.length - k < M →
    ∃ r, iter (w2_right_B1 N l (l.length : Int)) M (k : Int) = some r ∧ (r = true → ∀ v ∈ l.drop k, rightV v)
  | 0, k, hk, hM => absurd hM (by omega)
  | M + 1, k, hk, hM => by
    have ih := right_step N l hl M (k + 1)
    rw [iter]
    generalize iter (w2_right_B1 N l (l.length : Int)) M = K at *
    unfold w2_right_B1
    simp only []
    by_cases h : k < l.length
    · have e1 : decide ((k : Int) < (l.length : Int)) = true := by simpa using h
      have e2 : inR (k : Int) l.length = true := by unfold inR; simpa using h
      have e3 : inI64 ((k : Int) + 1) = true := inI (by omega) (by omega)
      have e4 : nthD l (k : Int) d_Value = l.getD k d_Value := rfl
      obtain ⟨r, ih, hr⟩ := ih (by omega) (by omega)
      rw [e1, e2, e3, e4, getD_drop l k d_Value h]
      generalize l.getD k d_Value = v at *
      have ih : K ((k : Int) + 1) = some r := ih
      simp only [cond_true]
      by_cases h4 : v.1 = 4
      · have e5 : (v.1 == 4) = true := by simpa using h4
        obtain ⟨m, hm, hv⟩ := May4 N v h4
        rw [e5, hm]
        cases m with
        | false => exact ⟨false, rfl, fun h => by cases h⟩
        | true => exact ⟨r, ih, fun e x hx => by
            rcases List.mem_cons.1 hx with rfl | hx
            · exact fun _ => hv rfl
            · exact hr e x hx⟩
      · have e5 : (v.1 == 4) = false := by simpa using h4
        rw [e5]
        exact ⟨r, ih, fun e x hx => by
            rcases List.mem_cons.1 hx with rfl | hx
            · exact fun h => absurd h h4
            · exact hr e x hx⟩
    · have e1 : decide ((k : Int) < (l.length : Int)) = false := by simpa using h
      rw [e1]
      exact ⟨true, rfl, fun _ v hv => by rw [List.drop_eq_nil_of_le (by omega)] at hv; cases hv⟩
theorem right_is (N : Nat) (l : List T_Value) (hl : l.length ≤ 1000) (hN : l.length < N) : ∃ r, w2_right N l = some r ∧ (r = true → ∀ v ∈ l, rightV v) := right_step N l hl N 0 (by omega) (by omega)
/-! of the truths -/
theorem vcases (v : T_Value) (h : rightV v) : v = nTrue ∨ v = nFalse ∨ v.1 ≠ 4 := by
  by_cases h4 : v.1 = 4
  · obtain ⟨hs, hn⟩ := h h4
    obtain ⟨k, n, s, u⟩ := v
    dsimp only at *
    subst h4 hs
    rcases hn with rfl | rfl
    · exact .inr (.inl rfl)
    · exact .inl rfl
  · exact .inr (.inr h4)
def sameV (x y : T_Value) : Bool := (x.1 == y.1) && ((x.2.1 == y.2.1) && ((x.2.2.1 == y.2.2.1) && true))
theorem sameV_eq (x y : T_Value) : sameV x y = decide (x = y) := by
  obtain ⟨a, b, c, u⟩ := x
  obtain ⟨d, e, f, w⟩ := y
  unfold sameV
  rw [Bool.eq_iff_iff]
  simp
theorem laws1 (a b c : T_Value) (ha : rightV a) (hb : rightV b) (hc : rightV c) : allS nTrue [a, b, c] = allS nTrue [c, a, b] := by
  rcases vcases a ha with rfl | rfl | ha <;> rcases vcases b hb with rfl | rfl | hb <;> rcases vcases c hc with rfl | rfl | hc <;>
    first | rfl | simp [allS, nTrue, nFalse, vNone, *]
theorem laws2 (a b c : T_Value) (ha : rightV a) (hb : rightV b) (hc : rightV c) : notV (allS nTrue ([a, b, c].map notV)) = notV (allS nTrue ([b, c, a].map notV)) := by
  rcases vcases a ha with rfl | rfl | ha <;> rcases vcases b hb with rfl | rfl | hb <;> rcases vcases c hc with rfl | rfl | hc <;>
    first | rfl | simp [allS, nTrue, nFalse, vNone, notV, vTruth, *]
theorem laws3 (a b c : T_Value) (ha : rightV a) (hb : rightV b) (hc : rightV c) : allS nTrue [a, b, c] = allS nTrue [allS nTrue [a, b], c] := by
  rcases vcases a ha with rfl | rfl | ha <;> rcases vcases b hb with rfl | rfl | hb <;> rcases vcases c hc with rfl | rfl | hc <;>
    first | rfl | simp [allS, nTrue, nFalse, vNone, *]
theorem laws4 (a b : T_Value) (ha : rightV a) (hb : rightV b) : notV (allS nTrue [a, b]) = notV (allS nTrue ([notV a, notV b].map notV)) := by
  rcases vcases a ha with rfl | rfl | ha <;> rcases vcases b hb with rfl | rfl | hb <;>
    first | rfl | simp [allS, nTrue, nFalse, vNone, notV, vTruth, *]
theorem laws_B2 (a b c : T_Value) (ha : rightV a) (hb : rightV b) (hc : rightV c) : w2_ValueLaws_B2 100 a.1 a.2.1 a.2.2.1 b.1 b.2.1 b.2.2.1 c.1 c.2.1 c.2.2.1 () = some true := by
  unfold w2_ValueLaws_B2
  have A : ∀ l : List T_Value, l.length ≤ 90 → value_All 100 l = some (allS nTrue l) := fun l h => value_All_is 100 l (by omega) (by omega)
  have B : ∀ l : List T_Value, l.length ≤ 90 → value_Any 100 l = some (notV (allS nTrue (l.map notV))) := fun l h => value_Any_is 100 l (by omega) (by omega)
  show ((value_All 100 [a, b, c]).bind fun (r9 : T_Value) => (value_All 100 [c, a, b]).bind fun (r10 : T_Value) =>
    bif (!sameV r9 r10) then some false else
    (value_Any 100 [a, b, c]).bind fun (r11 : T_Value) => (value_Any 100 [b, c, a]).bind fun (r12 : T_Value) =>
    bif (!sameV r11 r12) then some false else
    (value_All 100 [a, b, c]).bind fun (r13 : T_Value) => (value_All 100 [a, b]).bind fun (r14 : T_Value) =>
    (value_All 100 [r14, c]).bind fun (r15 : T_Value) =>
    bif (!sameV r13 r15) then some false else
    (value_All 100 [a, b]).bind fun (r16 : T_Value) => (value_Not 100 r16).bind fun (r17 : T_Value) =>
    (value_Not 100 a).bind fun (r18 : T_Value) => (value_Not 100 b).bind fun (r19 : T_Value) =>
    (value_Any 100 [r18, r19]).bind fun (r20 : T_Value) =>
    bif sameV r17 r20 then (w2_known 100).bind fun (r21 : Bool) => some r21 else some false) = some true
  rw [A _ (by simp), A _ (by simp), B _ (by simp), B _ (by simp), A _ (by simp)]
  simp only [Option.bind_some]
  rw [A _ (by simp)]
  simp only [Option.bind_some, value_Not_is]
  rw [B _ (by simp), w2_known_is]
  simp only [Option.bind_some, sameV_eq, laws1 a b c ha hb hc, laws2 a b c ha hb hc, ← laws3 a b c ha hb hc, laws4 a b ha hb, decide_true, Bool.not_true, cond_false, cond_true]
theorem laws_B1 (a b c : T_Value) (ha : rightV a) (hb : rightV b) (hc : rightV c) (ia : I64 a.2.1) (ib : I64 b.2.1) : w2_ValueLaws_B1 100 a.1 a.2.1 a.2.2.1 b.1 b.2.1 b.2.2.1 c.1 c.2.1 c.2.2.1 () = some true := by
  have hB := laws_B2 a b c ha hb hc
  have hC : value_Compare 100 (a.1, a.2.1, a.2.2.1, ()) (b.1, b.2.1, b.2.2.1, ()) = some (cmpV a b) := value_Compare_is 100 (by omega) a b ia ib
  have hC' : value_Compare 100 (b.1, b.2.1, b.2.2.1, ()) (a.1, a.2.1, a.2.2.1, ()) = some (cmpV b a) := value_Compare_is 100 (by omega) b a ib ia
  have hS : (cmpV a b).2.1 = true → ∃ r, value_Sub 100 (a.1, a.2.1, a.2.2.1, ()) (b.1, b.2.1, b.2.2.1, ()) = some r ∧ SubOk a b r := fun h => value_Sub_ok 100 (by omega) a b ia ib h
  unfold w2_ValueLaws_B1 w2_ValueLaws_B1t
  simp only [at1_pos (show 0 < 100 by omega), hB]
  rw [hC]
  simp only [Option.bind_some]
  cases ht : (cmpV a b).2.1 with
  | false => rfl
  | true =>
    obtain ⟨r, hr, ok⟩ := hS ht
    rw [hC', hr]
    simp only [Option.bind_some, cond_true]
    have turn : (cmpV b a).2.1 = true ∧ (cmpV b a).1 = -(cmpV a b).1 ∧ -1 ≤ (cmpV a b).1 ∧ (cmpV a b).1 ≤ 1 := by
      by_cases h : (a.1 = 1 ∨ a.1 = 2) ∧ (b.1 = 1 ∨ b.1 = 2)
      · rw [show cmpV a b = (cmpI (worth a) (worth b), true, ()) from if_pos h, show cmpV b a = (cmpI (worth b) (worth a), true, ()) from if_pos ⟨h.2, h.1⟩]
        exact ⟨rfl, cmpI_cp.turn _ _, cmpI_cp.rng _ _⟩
      · by_cases hk : a.1 = b.1 ∧ 3 ≤ a.1 ∧ a.1 ≤ 5
        · rw [show cmpV a b = (ordV a b, true, ()) from (if_neg h).trans (if_pos hk), show cmpV b a = (ordV b a, true, ()) from (if_neg (by omega)).trans (if_pos (by omega))]
          exact ⟨rfl, ordV_cp.turn _ _, ordV_cp.rng _ _⟩
        · rw [show cmpV a b = (0, false, ()) from (if_neg h).trans (if_neg hk)] at ht
          cases ht
    obtain ⟨t1, t2, t3, t4⟩ := turn
    rw [t1, t2]
    have e1 : inI64 (0 - (cmpV a b).1) = true := inI (by omega) (by omega)
    have e2 : (-(cmpV a b).1 != 0 - (cmpV a b).1) = false := by simp
    rw [e1, e2]
    simp only [Bool.not_true, cond_false, cond_true]
    by_cases h0 : r.2.1 = 0
    · obtain ⟨k1, k2⟩ := ok h0
      have e3 : (decide (r.1.2.1 < 0) == decide ((cmpV a b).1 < 0)) = true := by simpa using k1
      have e4 : ((r.1.2.1 == 0) == ((cmpV a b).1 == 0)) = true := by rw [beq_iff_eq, Bool.eq_iff_iff, beq_iff_eq, beq_iff_eq]; exact k2
      rw [e3, e4]
      simp [h0]
    · have e3 : (r.2.1 == 0) = false := by simpa using h0
      rw [e3]
      rfl
theorem w2_ValueLaws_is (a b c : T_Value) (ia : I64 a.2.1) (ib : I64 b.2.1) : w2_ValueLaws 100 a b c = some true := by
  unfold w2_ValueLaws w2_ValueLaws_t
  obtain ⟨r, hr, ok⟩ := right_is 100 [a, b, c] (by simp) (by simp)
  rw [hr]
  simp only [Option.bind_some]
  cases r with
  | false => simp [w2_known_is]
  | true =>
    have ok := ok rfl
    have hB := laws_B1 a b c (ok a (by simp)) (ok b (by simp)) (ok c (by simp)) ia ib
    simp only [at1_pos (show 0 < 100 by omega), hB]
    rw [value_Order_is 100 (by omega), value_Order_is 100 (by omega), value_Order_is 100 (by omega), value_Order_is 100 (by omega)]
    simp only [Option.bind_some, Bool.not_true, cond_false]
    have t := ordV_cp.turn a b
    have g := ordV_cp.rng a b
    have z := ordV_cp.zero a b
    have l1 := ordV_cp.le a b c
    have l2 := ordV_cp.ge a b c
    have e1 : inI64 (0 - ordV b a) = true := inI (by omega) (by omega)
    have e2 : (ordV a b != 0 - ordV b a) = false := by rw [t]; simp
    have e3 : ((ordV a b == 0) == sameV a b) = true := by rw [beq_iff_eq, Bool.eq_iff_iff, beq_iff_eq, sameV_eq, decide_eq_true_eq]; exact z
    have e3 : ((ordV a b == 0) == ((a.1 == b.1) && ((a.2.1 == b.2.1) && ((a.2.2.1 == b.2.2.1) && true)))) = true := e3
    rw [e1, e2, e3]
    simp only [Bool.not_true, cond_false, cond_true]
    generalize ordV a b = x at *
    generalize ordV b c = y at *
    generalize ordV a c = w at *
    by_cases h1 : x ≤ 0 <;> by_cases h2 : y ≤ 0 <;> by_cases h3 : x ≥ 0 <;> by_cases h4 : y ≥ 0 <;> by_cases h5 : w > 0 <;> by_cases h6 : w < 0 <;>
      first | (exfalso; omega) | simp [h1, h2, h3, h4, h5, h6]
end Go.Proofs.Ytgicljncknbgcaa.Abs
namespace Go.Proofs.Ytgicljncknbgcaa.Abs
open Go
set_option linter.unusedVariables false
set_option linter.unusedSimpArgs false

def badV (v : T_Value) : Prop := ¬ (v.1 = 1 ∨ v.1 = 2) ∧ v.1 ≠ 0
instance (v : T_Value) : Decidable (badV v) := inferInstanceAs (Decidable (_ ∧ _))
instance (n : Int) : Decidable (I64 n) := inferInstanceAs (Decidable (_ ∧ _))
def finV (k : Int) (r : Int × Int × Unit) : T_Value × Int × Unit := if r.2.1 ≠ 0 then (vNone, r.2.1, ()) else ((k, r.1, [], ()), 0, ())
/-- what both tell of two values, where whole numbers are told so, numbers in units so -/
def doS (g h : Int → Int → Int × Int × Unit) (a b : T_Value) : T_Value × Int × Unit :=
  if badV a ∨ badV b then (vNone, 8, ())
  else if a.1 = 0 ∨ b.1 = 0 then (vNone, 0, ())
  else if a.1 = 1 ∧ b.1 = 1 then finV 1 (g a.2.1 b.2.1)
  else if ¬ I64 (worth a) ∨ ¬ I64 (worth b) then (vNone, 9, ())
  else finV 2 (h (worth a) (worth b))
def alikeS (a b : T_Value) : (List T_Value) × Bool × Int × Unit :=
  if badV a ∨ badV b then ([], false, 8, ())
  else if a.1 = 0 ∨ b.1 = 0 then ([], true, 0, ())
  else if a.1 = 1 ∧ b.1 = 1 then ([(1, a.2.1, [], ()), (1, b.2.1, [], ())], false, 0, ())
  else if ¬ I64 (worth a) ∨ ¬ I64 (worth b) then ([], false, 9, ())
  else ([(2, worth a, [], ()), (2, worth b, [], ())], false, 0, ())
theorem worth1 {v : T_Value} (h : v.1 = 1) : worth v = v.2.1 * 10000 := by unfold worth byV; rw [if_pos h]; rfl
theorem worth2 {v : T_Value} (h : v.1 = 2) : worth v = v.2.1 := by unfold worth byV; rw [if_neg (by omega)]; omega
theorem dec_is (N : Nat) (v : T_Value) (h : I64 v.2.1) (hk : v.1 = 1 ∨ v.1 = 2) : ∃ x : T_Value, ∃ e : Int, value_dec N v = some (x, e, ()) ∧ (I64 (worth v) → e = 0 ∧ x.2.1 = worth v) ∧ (¬ I64 (worth v) → e = 9) := by
  rcases hk with h1 | h2
  · rw [value_dec_is N v h h1, worth1 h1]
    by_cases hs : I64 (v.2.1 * 10000)
    · rw [if_pos hs]; exact ⟨_, _, rfl, fun _ => ⟨rfl, rfl⟩, fun h => absurd hs h⟩
    · rw [if_neg hs]; exact ⟨_, _, rfl, fun h => absurd h hs, fun _ => rfl⟩
  · rw [value_dec_2 N v h2, worth2 h2]
    exact ⟨_, _, rfl, fun _ => ⟨rfl, rfl⟩, fun hs => absurd h hs⟩
theorem alike_is (N : Nat) (hN : 4 ≤ N) (a b : T_Value) (ha : I64 a.2.1) (hb : I64 b.2.1) : value_alike N [a, b] = some (alikeS a b) := by
  unfold alikeS
  by_cases h1 : badV a
  · rw [if_pos (.inl h1)]
    exact alike_strange N hN a b h1.1 h1.2
  have n1 : (a.1 = 1 ∨ a.1 = 2) ∨ a.1 = 0 := by unfold badV at h1; omega
  by_cases h2 : badV b
  · rw [if_pos (.inr h2)]
    obtain ⟨n, rfl⟩ : ∃ n, N = n + 4 := ⟨N - 4, by omega⟩
    unfold value_alike value_alike_t
    have eb : value_isNumber (n + 4) b = some false := by rw [value_isNumber_is]; simp [h2.1]
    have e0 : (b.1 != 0) = true := by simpa using h2.2
    rcases n1 with n1 | n1
    · have ea : value_isNumber (n + 4) a = some true := by rw [value_isNumber_is]; simp [n1]
      simp [iter, value_alike_B1, value_alike_B1t, inR, nthD, ea, eb, e0, i1, i2]
    · have ea : value_isNumber (n + 4) a = some false := by rw [value_isNumber_is]; simp [n1]
      simp [iter, value_alike_B1, value_alike_B1t, inR, nthD, ea, eb, e0, n1, i1, i2]
  have n2 : (b.1 = 1 ∨ b.1 = 2) ∨ b.1 = 0 := by unfold badV at h2; omega
  rw [if_neg (fun h => h.elim h1 h2)]
  by_cases h3 : a.1 = 0 ∨ b.1 = 0
  · rw [if_pos h3]
    obtain ⟨n, rfl⟩ : ∃ n, N = n + 4 := ⟨N - 4, by omega⟩
    unfold value_alike value_alike_t
    rcases n1 with n1 | n1
    · have ea : value_isNumber (n + 4) a = some true := by rw [value_isNumber_is]; simp [n1]
      have hb0 : b.1 = 0 := by omega
      have eb : value_isNumber (n + 4) b = some false := by rw [value_isNumber_is]; simp [hb0]
      have z1 : (a.1 == 0) = false := by rcases n1 with n1 | n1 <;> rw [n1] <;> rfl
      simp [iter, value_alike_B1, value_alike_B1t, inR, nthD, ea, eb, hb0, z1, i1, i2, i3]
    · have ea : value_isNumber (n + 4) a = some false := by rw [value_isNumber_is]; simp [n1]
      rcases n2 with n2 | n2
      · have eb : value_isNumber (n + 4) b = some true := by rw [value_isNumber_is]; simp [n2]
        simp [iter, value_alike_B1, value_alike_B1t, inR, nthD, ea, eb, n1, i1, i2, i3]
      · have eb : value_isNumber (n + 4) b = some false := by rw [value_isNumber_is]; simp [n2]
        simp [iter, value_alike_B1, value_alike_B1t, inR, nthD, ea, eb, n1, n2, i1, i2, i3]
  rw [if_neg h3]
  have n1 : a.1 = 1 ∨ a.1 = 2 := by omega
  have n2 : b.1 = 1 ∨ b.1 = 2 := by omega
  by_cases h4 : a.1 = 1 ∧ b.1 = 1
  · rw [if_pos h4]
    exact alike_ints N hN a b h4.1 h4.2
  · rw [if_neg h4]
    obtain ⟨x, e, hx, x1, x2⟩ := dec_is N a ha n1
    obtain ⟨y, f, hy, y1, y2⟩ := dec_is N b hb n2
    rw [alike_decs N hN a b x y e f n1 n2 (by omega) hx hy]
    by_cases k1 : I64 (worth a)
    · obtain ⟨x0, x3⟩ := x1 k1
      subst x0
      rw [if_neg (by simp)]
      by_cases k2 : I64 (worth b)
      · obtain ⟨y0, y3⟩ := y1 k2
        subst y0
        rw [if_neg (by simp), if_neg (fun h => h.elim (fun h => h k1) (fun h => h k2))]
        unfold twoDec
        rw [x3, y3]
      · rw [y2 k2, if_pos (by simp), if_pos (.inr k2)]
    · rw [x2 k1, if_pos (by simp), if_pos (.inl k1)]
/-- what 'do' does with two that are alike -/
def doT (F G : Int → Int → Option (Int × Int × Unit)) (r : (List T_Value) × Bool × Int × Unit) : Option (T_Value × Int × Unit) :=
  bif r.2.1 then
    some ((0, 0, [], ()), r.2.2.1, ())
  else
    bif (r.2.2.1 != 0) then
      some ((0, 0, [], ()), r.2.2.1, ())
    else
      bif inR 0 r.1.length then
      bif (((nthD r.1 0 d_Value).1) == 2) then
        bif inR 0 r.1.length then
        bif inR 1 r.1.length then
        (F ((nthD r.1 0 d_Value).2.1) ((nthD r.1 1 d_Value).2.1)).bind fun (r1 : Int × Int × Unit) =>
        bif (r1.2.1 != 0) then
          some ((0, 0, [], ()), r1.2.1, ())
        else
          bif inR 0 r.1.length then
          some (((nthD r.1 0 d_Value).1, r1.1, [], ()), 0, ())
          else none
        else none
        else none
      else
        bif inR 0 r.1.length then
        bif inR 1 r.1.length then
        (G ((nthD r.1 0 d_Value).2.1) ((nthD r.1 1 d_Value).2.1)).bind fun (r2 : Int × Int × Unit) =>
        bif (r2.2.1 != 0) then
          some ((0, 0, [], ()), r2.2.1, ())
        else
          bif inR 0 r.1.length then
          some (((nthD r.1 0 d_Value).1, r2.1, [], ()), 0, ())
          else none
        else none
        else none
      else none
theorem do_is (N : Nat) (hN : 4 ≤ N) {F G : Int → Int → Option (Int × Int × Unit)} {g h : Int → Int → Int × Int × Unit} (hF : ∀ a b, I64 a → I64 b → F a b = some (h a b)) (hG : ∀ a b, I64 a → I64 b → G a b = some (g a b)) (a b : T_Value) (ha : I64 a.2.1) (hb : I64 b.2.1) :
    (value_alike N [a, b]).bind (doT F G) = some (doS g h a b) := by
  rw [alike_is N hN a b ha hb, Option.bind_some]
  unfold alikeS doS
  by_cases h1 : badV a ∨ badV b
  · rw [if_pos h1, if_pos h1]; rfl
  rw [if_neg h1, if_neg h1]
  by_cases h2 : a.1 = 0 ∨ b.1 = 0
  · rw [if_pos h2, if_pos h2]; rfl
  rw [if_neg h2, if_neg h2]
  by_cases h3 : a.1 = 1 ∧ b.1 = 1
  · rw [if_pos h3, if_pos h3]
    have e := hG _ _ ha hb
    unfold finV
    by_cases hr : (g a.2.1 b.2.1).2.1 = 0
    · rw [if_neg (by simpa using hr)]
      simp [doT, inR, nthD, e, hr]
    · rw [if_pos hr]
      simp [doT, inR, nthD, e, hr, nz, vNone]
  rw [if_neg h3, if_neg h3]
  by_cases h4 : ¬ I64 (worth a) ∨ ¬ I64 (worth b)
  · rw [if_pos h4, if_pos h4]; rfl
  rw [if_neg h4, if_neg h4]
  have e := hF _ _ (Decidable.byContradiction fun h => h4 (.inl h)) (Decidable.byContradiction fun h => h4 (.inr h))
  unfold finV
  by_cases hr : (h (worth a) (worth b)).2.1 = 0
  · rw [if_neg (by simpa using hr)]
    simp [doT, inR, nthD, e, hr]
  · rw [if_pos hr]
    simp [doT, inR, nthD, e, hr, nz, vNone]
/-! which -/
def gAdd (a b : Int) := intE (a + b)
def gSub (a b : Int) := intE (a - b)
def gMul (a b : Int) := intE (a * b)
def hMul (a b : Int) := intE (evenV (a * b) 10000)
def gQuo (a b : Int) : Int × Int × Unit := if b = 0 then (0, 10, ()) else intE (a.tdiv b)
def hQuo (a b : Int) : Int × Int × Unit := if b = 0 then (0, 10, ()) else intE (evenV (a * 10000) b)
theorem bindSome {α : Type} (o : Option α) : (o.bind fun r => some r) = o := by cases o <;> rfl
theorem value_Add_is (N : Nat) (hN : 10 ≤ N) (a b : T_Value) (ha : I64 a.2.1) (hb : I64 b.2.1) : value_Add N a b = some (doS gAdd gAdd a b) := by
  unfold value_Add
  rw [bindSome]
  exact do_is N (by omega) (F := num_Add N) (G := num_Add N) (fun a b ha hb => num_Add_is N ha hb) (fun a b ha hb => num_Add_is N ha hb) a b ha hb
theorem value_Sub_is (N : Nat) (hN : 10 ≤ N) (a b : T_Value) (ha : I64 a.2.1) (hb : I64 b.2.1) : value_Sub N a b = some (doS gSub gSub a b) := by
  unfold value_Sub
  rw [bindSome]
  exact do_is N (by omega) (F := num_Sub N) (G := num_Sub N) (fun a b ha hb => num_Sub_is N ha hb) (fun a b ha hb => num_Sub_is N ha hb) a b ha hb
theorem value_Mul_is (N : Nat) (hN : 10 ≤ N) (a b : T_Value) (ha : I64 a.2.1) (hb : I64 b.2.1) : value_Mul N a b = some (doS gMul hMul a b) := by
  unfold value_Mul
  rw [bindSome]
  exact do_is N (by omega) (F := num_MulDec N) (G := num_Mul N) (fun a b ha hb => by rw [num_MulDec_is N hN ha hb, overV_even a b (by omega)]; rfl) (fun a b ha hb => num_Mul_is N ha hb) a b ha hb
theorem value_Div_is (N : Nat) (hN : 10 ≤ N) (a b : T_Value) (ha : I64 a.2.1) (hb : I64 b.2.1) : value_Div N a b = some (doS gQuo hQuo a b) := by
  unfold value_Div
  rw [bindSome]
  refine do_is N (by omega) (F := num_DivDec N) (G := num_Quo N) (fun a b ha hb => ?_) (fun a b ha hb => ?_) a b ha hb
  · unfold hQuo
    by_cases h : b = 0
    · subst h; rfl
    · rw [num_DivDec_is N hN ha hb h, overV_even a 10000 h, if_neg h]
  · unfold gQuo
    by_cases h : b = 0
    · subst h; rfl
    · rw [num_Quo_is N ha hb h, if_neg h]
end Go.Proofs.Ytgicljncknbgcaa.Abs
