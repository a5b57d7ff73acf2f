/- The contract of package value's Compare. -/
import Derived.Test.YtlmjcifiofobpaaOrder
namespace Go.Proofs.Ytlmjcifiofobpaa
open Go.ChangeShapes Go.WideShapes Go.ChangeAt Go.RowKit
set_option linter.unusedVariables false
set_option linter.unusedSimpArgs false

def isNum (v : Val) : Bool := decide (v.k = 1 ∨ v.k = 2)
def worth (v : Val) : Int := if v.k = 1 then v.n * 10000 else v.n
def cmpV (a b : Val) : Int × Bool :=
  if isNum a && isNum b then (cmpI (worth a) (worth b), true) else if a.k ≠ b.k ∨ a.k < 3 ∨ 5 < a.k then (0, false) else (ordV a b, true)

theorem isnum_calls (v : Val) (w : World) : Calls Try.prog 60 #[v.enc] w fun e w' => e = .returned (.bool (isNum v)) ∧ Below w.heap.size w w' := by
  obtain ⟨k, n, s⟩ := v
  unfold Val.enc isNum
  dsimp only
  by_cases h1 : k = 1
  · have h1' : (k == 1) = true := by simpa using h1
    have hf := hide (show decide (k = 1 ∨ k = 2) = true by simp; omega)
    clear h1
    go_enter Try.func60, Try.ntmps60
    go_wp2_with fail
    go_ret
    exact ⟨by rw [hf.out]; rfl, (below_refl w).alloc (Nat.le_refl _) _⟩
  · have h1' : (k == 1) = false := by simpa using h1
    by_cases h2 : k = 2
    · have h2' : (k == 2) = true := by simpa using h2
      have hf := hide (show decide (k = 1 ∨ k = 2) = true by simp; omega)
      clear h1 h2
      go_enter Try.func60, Try.ntmps60
      go_wp2_with fail
      go_ret
      exact ⟨by rw [hf.out]; rfl, (below_refl w).alloc (Nat.le_refl _) _⟩
    · have h2' : (k == 2) = false := by simpa using h2
      have hf := hide (show decide (k = 1 ∨ k = 2) = false by simp; omega)
      clear h1 h2
      go_enter Try.func60, Try.ntmps60
      go_wp2_with fail
      go_ret
      exact ⟨by rw [hf.out]; rfl, (below_refl w).alloc (Nat.le_refl _) _⟩

theorem units_in (k : Int) (n : Int) (s : ByteArray) (w : World) (hk : (k == 1) = true) (n1 : -9223372036854775808 ≤ n) (h : n < 0) :
    Calls Try.prog 61 #[.agg #[.int .u8 k, .int .i64 n, .string s]] w fun e w' => ∃ hi lo : Nat, e = .returned (.tuple #[.bool true, .int .u64 hi, .int .u64 lo]) ∧
      hi * 18446744073709551616 + lo = n.natAbs * 10000 ∧ lo < 18446744073709551616 ∧ Below w.heap.size w w' := by
    have hN : n.natAbs < 18446744073709551616 := by omega
    have hg : IntKind.u64.wrap (-IntKind.u64.wrap n) = (n.natAbs : Int) := by simp only [IntKind.wrap_u64]; omega
    have hd := hide (show decide (n < 0) = true by simpa using h)
    obtain ⟨hi, lo, hc, hm, hl⟩ := mul64_parts n.natAbs 10000 hN (by omega)
    have HC := hide hc
    have HM := hide hm
    clear hc hm
    go_enter Try.func61, Try.ntmps61
    go_wp2_with fail
    refine (HC.out _).mono ?_
    rintro e w' ⟨rfl, rfl⟩
    go_wp2_with fail
    refine bodyPost_ret (results_tmp3 rfl _ _ _) rfl ?_
    exact ⟨hi, lo, by first | rfl | (rw [hd.out]; rfl), HM.out, hl, (below_refl w).alloc (Nat.le_refl _) _⟩

theorem units_ip (k : Int) (m : Nat) (s : ByteArray) (w : World) (hk : (k == 1) = true) (n2 : m ≤ 9223372036854775807) :
    Calls Try.prog 61 #[.agg #[.int .u8 k, .int .i64 (m : Int), .string s]] w fun e w' => ∃ hi lo : Nat, e = .returned (.tuple #[.bool false, .int .u64 hi, .int .u64 lo]) ∧
      hi * 18446744073709551616 + lo = m * 10000 ∧ lo < 18446744073709551616 ∧ Below w.heap.size w w' := by
    have hd := hide (show decide ((m : Int) < 0) = false from decide_eq_false (by omega))
    have n3 : (m : Int) ≤ 9223372036854775807 := by omega
    obtain ⟨hi, lo, hc, hm, hl⟩ := mul64_parts m 10000 (by omega) (by omega)
    have HC := hide hc
    have HM := hide hm
    clear hc hm
    go_enter Try.func61, Try.ntmps61
    go_wp2_with fail
    refine (HC.out _).mono ?_
    rintro e w' ⟨rfl, rfl⟩
    go_wp2_with fail
    refine bodyPost_ret (results_tmp3 rfl _ _ _) rfl ?_
    exact ⟨hi, lo, by first | rfl | (rw [hd.out]; rfl), HM.out, hl, (below_refl w).alloc (Nat.le_refl _) _⟩

theorem units_dn (k : Int) (n : Int) (s : ByteArray) (w : World) (hk : (k == 1) = false) (n1 : -9223372036854775808 ≤ n) (h : n < 0) :
    Calls Try.prog 61 #[.agg #[.int .u8 k, .int .i64 n, .string s]] w fun e w' => ∃ hi lo : Nat, e = .returned (.tuple #[.bool true, .int .u64 hi, .int .u64 lo]) ∧
      hi * 18446744073709551616 + lo = n.natAbs * 1 ∧ lo < 18446744073709551616 ∧ Below w.heap.size w w' := by
    have hN : n.natAbs < 18446744073709551616 := by omega
    have hg : IntKind.u64.wrap (-IntKind.u64.wrap n) = (n.natAbs : Int) := by simp only [IntKind.wrap_u64]; omega
    have hd := hide (show decide (n < 0) = true by simpa using h)
    obtain ⟨hi, lo, hc, hm, hl⟩ := mul64_parts n.natAbs 1 hN (by omega)
    have HC := hide hc
    have HM := hide hm
    clear hc hm
    go_enter Try.func61, Try.ntmps61
    go_wp2_with fail
    refine (HC.out _).mono ?_
    rintro e w' ⟨rfl, rfl⟩
    go_wp2_with fail
    refine bodyPost_ret (results_tmp3 rfl _ _ _) rfl ?_
    exact ⟨hi, lo, by first | rfl | (rw [hd.out]; rfl), HM.out, hl, (below_refl w).alloc (Nat.le_refl _) _⟩

theorem units_dp (k : Int) (m : Nat) (s : ByteArray) (w : World) (hk : (k == 1) = false) (n2 : m ≤ 9223372036854775807) :
    Calls Try.prog 61 #[.agg #[.int .u8 k, .int .i64 (m : Int), .string s]] w fun e w' => ∃ hi lo : Nat, e = .returned (.tuple #[.bool false, .int .u64 hi, .int .u64 lo]) ∧
      hi * 18446744073709551616 + lo = m * 1 ∧ lo < 18446744073709551616 ∧ Below w.heap.size w w' := by
    have hd := hide (show decide ((m : Int) < 0) = false from decide_eq_false (by omega))
    have n3 : (m : Int) ≤ 9223372036854775807 := by omega
    obtain ⟨hi, lo, hc, hm, hl⟩ := mul64_parts m 1 (by omega) (by omega)
    have HC := hide hc
    have HM := hide hm
    clear hc hm
    go_enter Try.func61, Try.ntmps61
    go_wp2_with fail
    refine (HC.out _).mono ?_
    rintro e w' ⟨rfl, rfl⟩
    go_wp2_with fail
    refine bodyPost_ret (results_tmp3 rfl _ _ _) rfl ?_
    exact ⟨hi, lo, by first | rfl | (rw [hd.out]; rfl), HM.out, hl, (below_refl w).alloc (Nat.le_refl _) _⟩

def unitsBy (v : Val) : Nat := if v.k = 1 then 10000 else 1
theorem units_calls (v : Val) (w : World) (hn : I64 v.n) : Calls Try.prog 61 #[v.enc] w fun e w' => ∃ hi lo : Nat, e = .returned (.tuple #[.bool (decide (v.n < 0)), .int .u64 hi, .int .u64 lo]) ∧
    hi * 18446744073709551616 + lo = v.n.natAbs * unitsBy v ∧ lo < 18446744073709551616 ∧ Below w.heap.size w w' := by
  obtain ⟨k, n, s⟩ := v
  obtain ⟨n1, n2⟩ := hn
  unfold Val.enc unitsBy at *
  dsimp only at *
  by_cases h : n < 0
  · rw [decide_eq_true h]
    by_cases h1 : k = 1
    · rw [if_pos h1]
      exact units_in k n s w (by simpa using h1) n1 h
    · rw [if_neg h1]
      exact units_dn k n s w (by simpa using h1) n1 h
  · rw [decide_eq_false h]
    obtain ⟨m, rfl⟩ : ∃ m : Nat, n = (m : Int) := ⟨n.natAbs, by omega⟩
    rw [Int.natAbs_natCast]
    by_cases h1 : k = 1
    · rw [if_pos h1]
      exact units_ip k m s w (by simpa using h1) (by omega)
    · rw [if_neg h1]
      exact units_dp k m s w (by simpa using h1) (by omega)

/-- of two numbers of one sign -/
theorem cmp_units {a b : Val} {h1 l1 h2 l2 : Nat} (na : isNum a = true) (nb : isNum b = true) (e1 : h1 * 18446744073709551616 + l1 = a.n.natAbs * unitsBy a) (e2 : h2 * 18446744073709551616 + l2 = b.n.natAbs * unitsBy b)
    (b1 : l1 < 18446744073709551616) (b2 : l2 < 18446744073709551616) :
    (a.n < 0 → b.n < 0 → cmpI (worth a) (worth b) = -orI [cmpI h1 h2, cmpI l1 l2]) ∧ (¬ a.n < 0 → ¬ b.n < 0 → cmpI (worth a) (worth b) = orI [cmpI h1 h2, cmpI l1 l2]) ∧
    (a.n < 0 → ¬ b.n < 0 → cmpI (worth a) (worth b) = -1) ∧ (¬ a.n < 0 → b.n < 0 → cmpI (worth a) (worth b) = 1) := by
  have wa : ∀ v : Val, isNum v = true → (worth v).natAbs = v.n.natAbs * unitsBy v ∧ (worth v < 0 ↔ v.n < 0) := by
    intro v hv
    unfold worth unitsBy
    split <;> omega
  obtain ⟨p1, p2⟩ := wa a na
  obtain ⟨q1, q2⟩ := wa b nb
  rw [← p1] at e1
  rw [← q1] at e2
  generalize worth a = x at *
  generalize worth b = y at *
  have hor : orI [cmpI h1 h2, cmpI l1 l2] = cmpI x.natAbs y.natAbs := by
    clear p1 p2 q1 q2 wa na nb
    simp only [orI, cmpI]
    (repeat' split) <;> omega
  rw [hor]
  unfold cmpI
  refine ⟨fun h h' => ?_, fun h h' => ?_, fun h h' => ?_, fun h h' => ?_⟩ <;> (repeat' split) <;> omega

/-- the two structs that a function boxed still lie where they lay -/
def Boxed (W : World) (g : Nat) (v : Val) : Prop := W.cell? ⟨g, 0, none⟩ = some (.int .u8 v.k) ∧ W.cell? ⟨g, 1, none⟩ = some (.int .i64 v.n) ∧ W.cell? ⟨g, 2, none⟩ = some (.string v.s)
theorem Boxed.below {W W' : World} {g : Nat} {v : Val} (h : Boxed W g v) (hb : Below W.heap.size W W') (hg : g < W.heap.size) : Boxed W' g v :=
  ⟨(hb.cell (p := ⟨g, 0, none⟩) hg).trans h.1, (hb.cell (p := ⟨g, 1, none⟩) hg).trans h.2.1, (hb.cell (p := ⟨g, 2, none⟩) hg).trans h.2.2⟩
/-- two boxes are made -/
theorem two_boxes (w : World) (a b : Val) (t : TypeId) :
    Boxed ((w.alloc (.cells #[.int .u8 a.k, .int .i64 a.n, .string a.s] t)).alloc (.cells #[.int .u8 b.k, .int .i64 b.n, .string b.s] t)) w.heap.size a ∧
    Boxed ((w.alloc (.cells #[.int .u8 a.k, .int .i64 a.n, .string a.s] t)).alloc (.cells #[.int .u8 b.k, .int .i64 b.n, .string b.s] t)) (w.heap.size + 1) b ∧
    Below w.heap.size w ((w.alloc (.cells #[.int .u8 a.k, .int .i64 a.n, .string a.s] t)).alloc (.cells #[.int .u8 b.k, .int .i64 b.n, .string b.s] t)) ∧
    ((w.alloc (.cells #[.int .u8 a.k, .int .i64 a.n, .string a.s] t)).alloc (.cells #[.int .u8 b.k, .int .i64 b.n, .string b.s] t)).heap.size = w.heap.size + 1 + 1 := by
  refine ⟨⟨?_, ?_, ?_⟩, ⟨?_, ?_, ?_⟩, ((below_refl w).alloc (Nat.le_refl _) _).alloc (by simp) _, by simp⟩ <;> simp [go_sem]

def Two (w : World) (a b : Val) (W : World) : Prop := Boxed W w.heap.size a ∧ Boxed W (w.heap.size + 1) b ∧ Below w.heap.size w W ∧ w.heap.size + 1 < W.heap.size
theorem Two.below {w W W' : World} {a b : Val} (h : Two w a b W) (hb : Below W.heap.size W W') : Two w a b W' :=
  ⟨h.1.below hb (by have := h.2.2.2; omega), h.2.1.below hb h.2.2.2, h.2.2.1.trans (hb.mono h.2.2.1.size), Nat.lt_of_lt_of_le h.2.2.2 hb.size⟩
theorem Two.start (w : World) (a b : Val) (t : TypeId) : Two w a b ((w.alloc (.cells #[.int .u8 a.k, .int .i64 a.n, .string a.s] t)).alloc (.cells #[.int .u8 b.k, .int .i64 b.n, .string b.s] t)) := by
  obtain ⟨h1, h2, h3, h4⟩ := two_boxes w a b t
  exact ⟨h1, h2, h3, by rw [h4]; omega⟩

theorem orI_range (a b c d : Int) : -1 ≤ orI [cmpI a b, cmpI c d] ∧ orI [cmpI a b, cmpI c d] ≤ 1 := by
  simp only [orI, cmpI]
  (repeat' split) <;> omega
theorem or_calls2 (c1 c2 : Int) (w : World) : Calls Try.prog 62 #[.slice (some ⟨w.heap.size, 0, none⟩) 2 2] (w.alloc (.cells #[.int .i64 c1, .int .i64 c2] 3))
    fun e w' => e = .returned (.int .i64 (orI [c1, c2])) ∧ (w.alloc (.cells #[.int .i64 c1, .int .i64 c2] 3)) = w' := by
  refine or_calls [c1, c2] w.heap.size 0 2 _ (by simp) (fun k hk => ?_)
  match k, hk with
  | 0, _ => simp [go_sem]
  | 1, _ => simp [go_sem]

set_option maxRecDepth 100000 in
set_option maxHeartbeats 3200000 in
theorem compare_na (a b : Val) (w : World) (ha : I64 a.n) (hb : I64 b.n) (na : isNum a = false) : Calls Try.prog 29 #[a.enc, b.enc] w fun e w' => e = .returned (.tuple #[.int .i64 (cmpV a b).1, .bool (cmpV a b).2]) ∧ Below w.heap.size w w' := by
  have HA := hide (fun W => isnum_calls a W)
  have HB := hide (fun W => isnum_calls b W)
  have UA := hide (fun W => units_calls a W ha)
  have UB := hide (fun W => units_calls b W hb)
  have HO := hide (fun W => order_calls a b W)
  clear ha hb
  have hcmp := hide (show cmpV a b = if a.k ≠ b.k ∨ a.k < 3 ∨ 5 < a.k then (0, false) else (ordV a b, true) by unfold cmpV; rw [na]; rfl)
  clear UA UB
  unfold Val.enc at *
  go_enter Try.func29, Try.ntmps29
  go_upto_region 1 with fail
  have hI := hide (Two.start w a b 38)
  generalize (w.alloc (.cells #[.int .u8 a.k, .int .i64 a.n, .string a.s] 38)).alloc (.cells #[.int .u8 b.k, .int .i64 b.n, .string b.s] 38) = W0 at *
  obtain ⟨⟨x1, x2, x3⟩, ⟨y1, y2, y3⟩, z1, z2⟩ := hI.out
  go_wp2_with fail
  clear x1 x2 x3 y1 y2 y3 z1 z2
  refine (HA.out _).mono ?_
  rintro e w1 ⟨rfl, hn⟩
  replace hI := hide (Two.below hI.out hn)
  clear hn
  obtain ⟨⟨x1, x2, x3⟩, ⟨y1, y2, y3⟩, z1, z2⟩ := hI.out
  by_cases q1 : (a.k != b.k) = true
  · have hf := hide (show cmpV a b = (0, false) by rw [hcmp.out, if_pos (.inl (by simpa using q1))])
    go_wp2_with fail
    go_ret2
    exact ⟨by rw [hf.out]; rfl, hI.out.2.2.1⟩
  · have q1' : (a.k != b.k) = false := by simpa using q1
    have Q1 := hide (show a.k = b.k by simpa using q1)
    clear q1
    by_cases q2 : a.k < 3
    · have hf := hide (show cmpV a b = (0, false) by rw [hcmp.out, if_pos (.inr (.inl q2))])
      go_wp2_with fail
      go_ret2
      exact ⟨by rw [hf.out]; rfl, hI.out.2.2.1⟩
    · by_cases q3 : 5 < a.k
      · have hf := hide (show cmpV a b = (0, false) by rw [hcmp.out, if_pos (.inr (.inr q3))])
        go_wp2_with fail
        go_ret2
        exact ⟨by rw [hf.out]; rfl, hI.out.2.2.1⟩
      · have hf := hide (show cmpV a b = (ordV a b, true) by rw [hcmp.out, if_neg (by have := Q1.out; omega)])
        go_wp2_with fail
        clear x1 x2 x3 y1 y2 y3 z1 z2
        refine (HO.out _).mono ?_
        rintro e w1 ⟨rfl, hn⟩
        replace hI := hide (Two.below hI.out hn)
        clear hn
        obtain ⟨⟨x1, x2, x3⟩, ⟨y1, y2, y3⟩, z1, z2⟩ := hI.out
        go_wp2_with fail
        go_ret2
        exact ⟨by rw [hf.out]; rfl, hI.out.2.2.1⟩

set_option maxRecDepth 100000 in
set_option maxHeartbeats 3200000 in
theorem compare_nb (a b : Val) (w : World) (ha : I64 a.n) (hb : I64 b.n) (na : isNum a = true) (nb : isNum b = false) : Calls Try.prog 29 #[a.enc, b.enc] w fun e w' => e = .returned (.tuple #[.int .i64 (cmpV a b).1, .bool (cmpV a b).2]) ∧ Below w.heap.size w w' := by
  have HA := hide (fun W => isnum_calls a W)
  have HB := hide (fun W => isnum_calls b W)
  have UA := hide (fun W => units_calls a W ha)
  have UB := hide (fun W => units_calls b W hb)
  have HO := hide (fun W => order_calls a b W)
  clear ha hb
  have hcmp := hide (show cmpV a b = if a.k ≠ b.k ∨ a.k < 3 ∨ 5 < a.k then (0, false) else (ordV a b, true) by unfold cmpV; rw [na, nb]; rfl)
  clear UA UB
  unfold Val.enc at *
  go_enter Try.func29, Try.ntmps29
  go_upto_region 1 with fail
  have hI := hide (Two.start w a b 38)
  generalize (w.alloc (.cells #[.int .u8 a.k, .int .i64 a.n, .string a.s] 38)).alloc (.cells #[.int .u8 b.k, .int .i64 b.n, .string b.s] 38) = W0 at *
  obtain ⟨⟨x1, x2, x3⟩, ⟨y1, y2, y3⟩, z1, z2⟩ := hI.out
  go_wp2_with fail
  clear x1 x2 x3 y1 y2 y3 z1 z2
  refine (HA.out _).mono ?_
  rintro e w1 ⟨rfl, hn⟩
  replace hI := hide (Two.below hI.out hn)
  clear hn
  obtain ⟨⟨x1, x2, x3⟩, ⟨y1, y2, y3⟩, z1, z2⟩ := hI.out
  go_wp2_with fail
  clear x1 x2 x3 y1 y2 y3 z1 z2
  refine (HB.out _).mono ?_
  rintro e w1 ⟨rfl, hn⟩
  replace hI := hide (Two.below hI.out hn)
  clear hn
  obtain ⟨⟨x1, x2, x3⟩, ⟨y1, y2, y3⟩, z1, z2⟩ := hI.out
  by_cases q1 : (a.k != b.k) = true
  · have hf := hide (show cmpV a b = (0, false) by rw [hcmp.out, if_pos (.inl (by simpa using q1))])
    go_wp2_with fail
    go_ret2
    exact ⟨by rw [hf.out]; rfl, hI.out.2.2.1⟩
  · have q1' : (a.k != b.k) = false := by simpa using q1
    have Q1 := hide (show a.k = b.k by simpa using q1)
    clear q1
    by_cases q2 : a.k < 3
    · have hf := hide (show cmpV a b = (0, false) by rw [hcmp.out, if_pos (.inr (.inl q2))])
      go_wp2_with fail
      go_ret2
      exact ⟨by rw [hf.out]; rfl, hI.out.2.2.1⟩
    · by_cases q3 : 5 < a.k
      · have hf := hide (show cmpV a b = (0, false) by rw [hcmp.out, if_pos (.inr (.inr q3))])
        go_wp2_with fail
        go_ret2
        exact ⟨by rw [hf.out]; rfl, hI.out.2.2.1⟩
      · have hf := hide (show cmpV a b = (ordV a b, true) by rw [hcmp.out, if_neg (by have := Q1.out; omega)])
        go_wp2_with fail
        clear x1 x2 x3 y1 y2 y3 z1 z2
        refine (HO.out _).mono ?_
        rintro e w1 ⟨rfl, hn⟩
        replace hI := hide (Two.below hI.out hn)
        clear hn
        obtain ⟨⟨x1, x2, x3⟩, ⟨y1, y2, y3⟩, z1, z2⟩ := hI.out
        go_wp2_with fail
        go_ret2
        exact ⟨by rw [hf.out]; rfl, hI.out.2.2.1⟩

set_option maxRecDepth 100000 in
set_option maxHeartbeats 3200000 in
theorem compare_num (a b : Val) (w : World) (ha : I64 a.n) (hb : I64 b.n) (na : isNum a = true) (nb : isNum b = true) : Calls Try.prog 29 #[a.enc, b.enc] w fun e w' => e = .returned (.tuple #[.int .i64 (cmpV a b).1, .bool (cmpV a b).2]) ∧ Below w.heap.size w w' := by
  have HA := hide (fun W => isnum_calls a W)
  have HB := hide (fun W => isnum_calls b W)
  have UA := hide (fun W => units_calls a W ha)
  have UB := hide (fun W => units_calls b W hb)
  have HO := hide (fun W => order_calls a b W)
  clear ha hb
  have hcmp := hide (show cmpV a b = (cmpI (worth a) (worth b), true) by unfold cmpV; rw [na, nb]; rfl)
  have NA := hide na
  have NB := hide nb
  clear HO
  unfold Val.enc at *
  go_enter Try.func29, Try.ntmps29
  go_upto_region 1 with fail
  have hI := hide (Two.start w a b 38)
  generalize (w.alloc (.cells #[.int .u8 a.k, .int .i64 a.n, .string a.s] 38)).alloc (.cells #[.int .u8 b.k, .int .i64 b.n, .string b.s] 38) = W0 at *
  obtain ⟨⟨x1, x2, x3⟩, ⟨y1, y2, y3⟩, z1, z2⟩ := hI.out
  go_wp2_with fail
  clear x1 x2 x3 y1 y2 y3 z1 z2
  refine (HA.out _).mono ?_
  rintro e w1 ⟨rfl, hn⟩
  replace hI := hide (Two.below hI.out hn)
  clear hn
  obtain ⟨⟨x1, x2, x3⟩, ⟨y1, y2, y3⟩, z1, z2⟩ := hI.out
  go_wp2_with fail
  clear x1 x2 x3 y1 y2 y3 z1 z2
  refine (HB.out _).mono ?_
  rintro e w1 ⟨rfl, hn⟩
  replace hI := hide (Two.below hI.out hn)
  clear hn
  obtain ⟨⟨x1, x2, x3⟩, ⟨y1, y2, y3⟩, z1, z2⟩ := hI.out
  have hna := NA.out
  have hnb := NB.out
  go_wp2_with fail
  clear x1 x2 x3 y1 y2 y3 z1 z2
  refine (UA.out _).mono ?_
  rintro e w1 ⟨h1, l1, rfl, e1, b1, hn⟩
  replace hI := hide (Two.below hI.out hn)
  clear hn
  obtain ⟨⟨x1, x2, x3⟩, ⟨y1, y2, y3⟩, z1, z2⟩ := hI.out
  have E1 := hide (And.intro e1 b1)
  clear e1 b1
  go_wp2_with fail
  clear x1 x2 x3 y1 y2 y3 z1 z2
  refine (UB.out _).mono ?_
  rintro e w1 ⟨h2, l2, rfl, e2, b2, hn⟩
  replace hI := hide (Two.below hI.out hn)
  clear hn
  obtain ⟨⟨x1, x2, x3⟩, ⟨y1, y2, y3⟩, z1, z2⟩ := hI.out
  have E2 := hide (And.intro e2 b2)
  clear e2 b2 hna hnb
  have HU := hide (cmp_units NA.out NB.out E1.out.1 E2.out.1 E1.out.2 E2.out.2)
  by_cases n1 : a.n < 0
  · by_cases n2 : b.n < 0
    · have N1 := hide n1
      have N2 := hide n2
      have hf := hide ((unhide HU).1 N1.out N2.out)
      clear HU E1 E2
      go_wp2_with fail
      refine (cmpU_calls _ _ _).mono ?_
      rintro e w' ⟨rfl, rfl⟩
      go_wp2_with fail
      refine (cmpU_calls _ _ _).mono ?_
      rintro e w' ⟨rfl, rfl⟩
      obtain ⟨hb1, hb2⟩ := orI_range (h1 : Int) (h2 : Int) (l1 : Int) (l2 : Int)
      generalize cmpI (h1 : Int) (h2 : Int) = c1 at *
      generalize cmpI (l1 : Int) (l2 : Int) = c2 at *
      go_wp2_with fail
      have hI2 := hide (hI.out.2.2.1.alloc hI.out.2.2.1.size (.cells #[.int .i64 c1, .int .i64 c2] 3))
      refine (or_calls2 c1 c2 _).mono ?_
      rintro e w' ⟨rfl, rfl⟩
      go_wp2_with fail
      go_ret2
      exact ⟨by rw [hcmp.out, hf.out]; rfl, hI2.out⟩
    · have hf := hide ((unhide HU).2.2.1 n1 n2)
      have n1' : decide (a.n < 0) = true := decide_eq_true n1
      have n2' : decide (b.n < 0) = false := decide_eq_false n2
      clear n1 n2
      go_wp2_with fail
      go_ret2
      exact ⟨by rw [hcmp.out, hf.out]; rfl, hI.out.2.2.1⟩
  · by_cases n2 : b.n < 0
    · have hf := hide ((unhide HU).2.2.2 n1 n2)
      have n1' : decide (a.n < 0) = false := decide_eq_false n1
      have n2' : decide (b.n < 0) = true := decide_eq_true n2
      clear n1 n2
      go_wp2_with fail
      go_ret2
      exact ⟨by rw [hcmp.out, hf.out]; rfl, hI.out.2.2.1⟩
    · have N1 := hide n1
      have N2 := hide n2
      have n1' : decide (a.n < 0) = false := decide_eq_false n1
      have n2' : decide (b.n < 0) = false := decide_eq_false n2
      clear n1 n2
      have hf := hide ((unhide HU).2.1 N1.out N2.out)
      clear HU E1 E2
      go_wp2_with fail
      refine (cmpU_calls _ _ _).mono ?_
      rintro e w' ⟨rfl, rfl⟩
      go_wp2_with fail
      refine (cmpU_calls _ _ _).mono ?_
      rintro e w' ⟨rfl, rfl⟩
      obtain ⟨hb1, hb2⟩ := orI_range (h1 : Int) (h2 : Int) (l1 : Int) (l2 : Int)
      generalize cmpI (h1 : Int) (h2 : Int) = c1 at *
      generalize cmpI (l1 : Int) (l2 : Int) = c2 at *
      go_wp2_with fail
      have hI2 := hide (hI.out.2.2.1.alloc hI.out.2.2.1.size (.cells #[.int .i64 c1, .int .i64 c2] 3))
      refine (or_calls2 c1 c2 _).mono ?_
      rintro e w' ⟨rfl, rfl⟩
      go_wp2_with fail
      go_ret2
      exact ⟨by rw [hcmp.out, hf.out]; rfl, hI2.out⟩

theorem compare_calls (a b : Val) (w : World) (ha : I64 a.n) (hb : I64 b.n) : Calls Try.prog 29 #[a.enc, b.enc] w fun e w' => e = .returned (.tuple #[.int .i64 (cmpV a b).1, .bool (cmpV a b).2]) ∧ Below w.heap.size w w' := by
  cases na : isNum a
  · exact compare_na a b w ha hb na
  · cases nb : isNum b
    · exact compare_nb a b w ha hb na nb
    · exact compare_num a b w ha hb na nb
end Go.Proofs.Ytlmjcifiofobpaa
