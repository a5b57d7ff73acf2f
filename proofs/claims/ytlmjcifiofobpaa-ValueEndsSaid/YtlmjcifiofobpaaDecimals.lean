/- The contracts of num's products and quotients of decimals: nearest, even where two are as near. -/
import Derived.Test.YtlmjcifiofobpaaNums
namespace Go.Proofs.Ytlmjcifiofobpaa
open Go.ChangeShapes Go.WideShapes Go.ChangeAt Go.RowKit
set_option linter.unusedVariables false
set_option linter.unusedSimpArgs false

/-- n over d, the nearest whole number; of two that are as near the even one. -/
def rneN (n d : Nat) : Nat := if d < 2 * (n % d) ∨ (2 * (n % d) = d ∧ n / d % 2 = 1) then n / d + 1 else n / d
def overSign (a b d : Int) : Bool := ((decide (a < 0) != decide (b < 0)) != decide (d < 0))
def overV (a b d : Int) : Int := sgn (overSign a b d) (rneN (a.natAbs * b.natAbs) d.natAbs : Nat)

theorem over1_calls (lo : Int) (pa pb pd : Addr) (a b d : Int) (w : World) (ha : w.cell? pa = some (.int .i64 a)) (hb : w.cell? pb = some (.int .i64 b)) (hd : w.cell? pd = some (.int .i64 d)) (h0 : 0 ≤ lo) (hl : lo ≤ 18446744073709551615) :
    Calls Try.prog 77 #[.int .u64 0, .int .u64 lo, .pointer (some pa), .pointer (some pb), .pointer (some pd)] w fun e w' => e = .returned (ans (sgn (overSign a b d) lo)) ∧ w = w' := by
  go_enter Try.func77, Try.ntmps77
  go_wp2_with fail
  refine (signed_calls _ _ _ _ (by omega) h0 hl).mono ?_
  rintro e w' ⟨rfl, rfl⟩
  unfold ans
  go_wp2_with fail
  go_ret2
  exact ⟨rfl, rfl⟩

theorem mul64_parts (x y : Nat) (hx : x < 18446744073709551616) (hy : y < 18446744073709551616) :
    ∃ hi lo : Nat, (∀ w : World, Calls Try.prog 50 #[.int .u64 x, .int .u64 y] w fun e w' => e = .returned (.tuple #[.int .u64 hi, .int .u64 lo]) ∧ w' = w) ∧ hi * 18446744073709551616 + lo = x * y ∧ lo < 18446744073709551616 := by
  refine ⟨x * y / 18446744073709551616, x * y % 18446744073709551616, fun w => Try.bits_Mul64 x y hx hy w, Nat.div_add_mod' _ _, Nat.mod_lt _ (by omega)⟩

/-- the quotient is too great -/
theorem over_out {a b d : Int} {hi lo : Nat} (hN : hi * 18446744073709551616 + lo = a.natAbs * b.natAbs) (h0 : d ≠ 0) (h : d.natAbs ≤ hi) : overV a b d < -9223372036854775808 ∨ 9223372036854775807 < overV a b d := by
  have h1 : 18446744073709551616 ≤ (a.natAbs * b.natAbs) / d.natAbs := by
    rw [Nat.le_div_iff_mul_le (by omega), ← hN]
    have := Nat.mul_le_mul_right 18446744073709551616 h
    omega
  have h2 : 18446744073709551616 ≤ rneN (a.natAbs * b.natAbs) d.natAbs := by unfold rneN; split <;> omega
  unfold overV
  cases overSign a b d <;> simp only [sgn_true, sgn_false] <;> omega

/-- the world of over as it calls Div64: what three boxes and the closure's hold -/
theorem over_cells {w w1 : World} {n : Nat} {a b d : Value} {t : TypeId} (hb : Below ((((w.alloc (.cells #[a] t)).alloc (.cells #[b] t)).alloc (.cells #[d] t)).drewN n).heap.size ((((w.alloc (.cells #[a] t)).alloc (.cells #[b] t)).alloc (.cells #[d] t)).drewN n) w1) :
    w1.cell? ⟨w.heap.size, 0, none⟩ = some a ∧ w1.cell? ⟨w.heap.size + 1, 0, none⟩ = some b ∧ w1.cell? ⟨w.heap.size + 1 + 1, 0, none⟩ = some d ∧ Below w.heap.size w w1 := by
  refine ⟨(hb.cell (p := ⟨w.heap.size, 0, none⟩) (by simp only [World.heap_drewN, World.size_alloc]; omega)).trans (by simp [go_sem]), (hb.cell (p := ⟨w.heap.size + 1, 0, none⟩) (by simp)).trans (by simp [go_sem]), (hb.cell (p := ⟨w.heap.size + 1 + 1, 0, none⟩) (by simp)).trans (by simp [go_sem]), ?_⟩
  exact (below_drewN ((((Below.refl _ _).alloc (Nat.le_refl _) _).alloc (by simp) _).alloc (by simp; omega) _) n).trans (hb.mono (by simp only [World.heap_drewN, World.size_alloc]; omega))

set_option maxRecDepth 100000 in
set_option maxHeartbeats 1000000 in
theorem over_calls (a b d : Int) (w : World) (ha : I64 a) (hb : I64 b) (hd : I64 d) (h0 : d ≠ 0) : Calls Try.prog 49 #[.int .i64 a, .int .i64 b, .int .i64 d] w fun e w' => e = .returned (ans (overV a b d)) ∧ Below w.heap.size w w' := by
  have ha' := ha.nat
  have hb' := hb.nat
  have hd' := hd.nat
  unfold I64 at ha hb hd
  obtain ⟨a1, a2⟩ := ha
  obtain ⟨b1, b2⟩ := hb
  obtain ⟨d1, d2⟩ := hd
  obtain ⟨hi, lo, hc, hN, hlo⟩ := mul64_parts a.natAbs b.natAbs ha' hb'
  have HC := hide hc
  have HN := hide hN
  have H0 := hide h0
  have hpos : (1 : Int) ≤ d.natAbs := by omega
  have hfin := hide (fun h => over_out hN h0 h)
  have hspec0 : overV a b d = sgn (overSign a b d) (rneN (hi * 18446744073709551616 + lo) d.natAbs : Nat) := by rw [hN]; rfl
  have hspec := hide hspec0
  clear hspec0
  clear hc hN h0
  by_cases hover : (d.natAbs : Int) ≤ (hi : Int)
  · go_enter Try.func49, Try.ntmps49
    go_wp2_with fail
    go_quiet (first | (go_at_call 50; exact Calls.quiet_of_same (HC.out _)) | (go_at_call_of 51 (Value.int .i64 a); exact Calls.quiet_of_same ((size_calls a _ a1 a2).mono fun _ _ h => ⟨h.1, h.2.symm⟩)) | (go_at_call_of 51 (Value.int .i64 b); exact Calls.quiet_of_same ((size_calls b _ b1 b2).mono fun _ _ h => ⟨h.1, h.2.symm⟩)))
    go_wp2_with fail
    refine (size_calls _ _ d1 d2).mono ?_
    rintro e w' ⟨rfl, rfl⟩
    generalize d.natAbs = D at *
    go_wp2_with fail
    go_ret2
    exact ⟨ans_out' _ (unhide hfin (by omega)), below_drewN ((((Below.refl _ _).alloc (Nat.le_refl _) _).alloc (by simp) _).alloc (by simp; omega) _) _⟩
  · have hlt : hi < d.natAbs := by omega
    obtain ⟨q, r, hdiv, hq, hr, hq2, hr2⟩ : ∃ q r : Nat, (∀ w : World, Calls Try.prog 78 #[.int .u64 hi, .int .u64 lo, .int .u64 d.natAbs] w fun e w' => e = .returned (.tuple #[.int .u64 q, .int .u64 r]) ∧ Below w.heap.size w w') ∧
        q = (hi * 18446744073709551616 + lo) / d.natAbs ∧ r = (hi * 18446744073709551616 + lo) % d.natAbs ∧ q < 18446744073709551616 ∧ r < d.natAbs := by
      refine ⟨_, _, fun w => div64_calls hi lo d.natAbs w hlo hd' hlt, rfl, rfl, ?_, Nat.mod_lt _ (by omega)⟩
      rw [Nat.div_lt_iff_lt_mul (by omega)]
      have : (hi + 1) * 18446744073709551616 ≤ d.natAbs * 18446744073709551616 := Nat.mul_le_mul_right _ hlt
      omega
    have hspec2 : Hid (overV a b d = sgn (overSign a b d) ((if d.natAbs < 2 * r ∨ (2 * r = d.natAbs ∧ q % 2 = 1) then q + 1 else q : Nat) : Int)) := by
      rw [hspec.out, rneN, ← hq, ← hr]; exact rfl
    have HD := hide hdiv
    clear hdiv hq hr hspec hfin
    generalize hDD : d.natAbs = D at *
    have HDD := hide hDD
    clear hDD
    have hand : bits .and .u64 (q : Int) 1 = (q : Int) % 2 := by
      have h := bits_and_u64_nat q 1 hq2 (by omega)
      rw [Nat.and_one_is_mod] at h
      exact h.trans (by omega)
    by_cases t1 : (D : Int) - (r : Int) < (r : Int)
    · by_cases t4 : (q : Int) = 18446744073709551615
      · have t6 : (18446744073709551615 : Int) ≤ (q : Int) := by omega
        clear t4
        go_enter Try.func49, Try.ntmps49
        go_wp2_with fail
        go_quiet (first | (go_at_call 50; exact Calls.quiet_of_same (HC.out _)) | (go_at_call_of 51 (Value.int .i64 a); exact Calls.quiet_of_same ((size_calls a _ a1 a2).mono fun _ _ h => ⟨h.1, h.2.symm⟩)) | (go_at_call_of 51 (Value.int .i64 b); exact Calls.quiet_of_same ((size_calls b _ b1 b2).mono fun _ _ h => ⟨h.1, h.2.symm⟩)))
        go_wp2_with fail
        refine (size_calls _ _ d1 d2).mono ?_
        rintro e w' ⟨rfl, rfl⟩
        rw [HDD.out]
        go_wp2_with fail
        refine (HD.out _).mono ?_
        rintro e w1 ⟨rfl, hb1⟩
        obtain ⟨c1, c2, c3, hb2⟩ := over_cells hb1
        clear hb1
        have t7 : (IntKind.u64.wrap ((q : Int) + 1) == 0) = true := by rw [IntKind.wrap_u64, show (q : Int) = 18446744073709551615 by omega]; exact rfl
        go_wp2_with fail
        go_ret2
        refine ⟨ans_out' _ ?_, hb2⟩
        rw [hspec2.out, if_pos (.inl (by omega))]
        cases overSign a b d <;> simp only [sgn_true, sgn_false] <;> omega
      · have t5 : (q : Int) ≤ 18446744073709551614 := by omega
        clear t4
        have t6 : ((q : Int) + 1 == 0) = false := by simp; omega
        go_enter Try.func49, Try.ntmps49
        go_wp2_with fail
        go_quiet (first | (go_at_call 50; exact Calls.quiet_of_same (HC.out _)) | (go_at_call_of 51 (Value.int .i64 a); exact Calls.quiet_of_same ((size_calls a _ a1 a2).mono fun _ _ h => ⟨h.1, h.2.symm⟩)) | (go_at_call_of 51 (Value.int .i64 b); exact Calls.quiet_of_same ((size_calls b _ b1 b2).mono fun _ _ h => ⟨h.1, h.2.symm⟩)))
        go_wp2_with fail
        refine (size_calls _ _ d1 d2).mono ?_
        rintro e w' ⟨rfl, rfl⟩
        rw [HDD.out]
        go_wp2_with fail
        refine (HD.out _).mono ?_
        rintro e w1 ⟨rfl, hb1⟩
        obtain ⟨c1, c2, c3, hb2⟩ := over_cells hb1
        clear hb1
        go_wp2_with fail
        refine (over1_calls ((q : Int) + 1) _ _ _ a b d _ c1 c2 c3 (by omega) (by omega)).mono ?_
        rintro e w' ⟨rfl, rfl⟩
        unfold ans
        go_wp2_with fail
        go_ret2
        refine ⟨?_, hb2⟩
        rw [hspec2.out, if_pos (.inl (by omega)), Int.natCast_add]
        rfl
    · by_cases t2 : (r : Int) = (D : Int) - (r : Int)
      · have t2' : ((r : Int) == (D : Int) - (r : Int)) = true := by simpa using t2
        have T2 := hide t2
        clear t2
        by_cases t3 : q % 2 = 1
        · have t3' : ((q : Int) % 2 == 1) = true := by simp; omega
          have T3 := hide t3
          clear t3
          by_cases t4 : (q : Int) = 18446744073709551615
          · have t6 : (18446744073709551615 : Int) ≤ (q : Int) := by omega
            clear t4
            go_enter Try.func49, Try.ntmps49
            go_wp2_with fail
            go_quiet (first | (go_at_call 50; exact Calls.quiet_of_same (HC.out _)) | (go_at_call_of 51 (Value.int .i64 a); exact Calls.quiet_of_same ((size_calls a _ a1 a2).mono fun _ _ h => ⟨h.1, h.2.symm⟩)) | (go_at_call_of 51 (Value.int .i64 b); exact Calls.quiet_of_same ((size_calls b _ b1 b2).mono fun _ _ h => ⟨h.1, h.2.symm⟩)))
            go_wp2_with fail
            refine (size_calls _ _ d1 d2).mono ?_
            rintro e w' ⟨rfl, rfl⟩
            rw [HDD.out]
            go_wp2_with fail
            refine (HD.out _).mono ?_
            rintro e w1 ⟨rfl, hb1⟩
            obtain ⟨c1, c2, c3, hb2⟩ := over_cells hb1
            clear hb1
            have t7 : (IntKind.u64.wrap ((q : Int) + 1) == 0) = true := by rw [IntKind.wrap_u64, show (q : Int) = 18446744073709551615 by omega]; exact rfl
            go_wp2_with fail
            go_ret2
            refine ⟨ans_out' _ ?_, hb2⟩
            rw [hspec2.out, if_pos (.inr ⟨by have := T2.out; omega, T3.out⟩)]
            cases overSign a b d <;> simp only [sgn_true, sgn_false] <;> omega
          · have t5 : (q : Int) ≤ 18446744073709551614 := by omega
            clear t4
            have t6 : ((q : Int) + 1 == 0) = false := by simp; omega
            go_enter Try.func49, Try.ntmps49
            go_wp2_with fail
            go_quiet (first | (go_at_call 50; exact Calls.quiet_of_same (HC.out _)) | (go_at_call_of 51 (Value.int .i64 a); exact Calls.quiet_of_same ((size_calls a _ a1 a2).mono fun _ _ h => ⟨h.1, h.2.symm⟩)) | (go_at_call_of 51 (Value.int .i64 b); exact Calls.quiet_of_same ((size_calls b _ b1 b2).mono fun _ _ h => ⟨h.1, h.2.symm⟩)))
            go_wp2_with fail
            refine (size_calls _ _ d1 d2).mono ?_
            rintro e w' ⟨rfl, rfl⟩
            rw [HDD.out]
            go_wp2_with fail
            refine (HD.out _).mono ?_
            rintro e w1 ⟨rfl, hb1⟩
            obtain ⟨c1, c2, c3, hb2⟩ := over_cells hb1
            clear hb1
            go_wp2_with fail
            refine (over1_calls ((q : Int) + 1) _ _ _ a b d _ c1 c2 c3 (by omega) (by omega)).mono ?_
            rintro e w' ⟨rfl, rfl⟩
            unfold ans
            go_wp2_with fail
            go_ret2
            refine ⟨?_, hb2⟩
            rw [hspec2.out, if_pos (.inr ⟨by have := T2.out; omega, T3.out⟩), Int.natCast_add]
            rfl
        · have t3' : ((q : Int) % 2 == 1) = false := by simp; omega
          have T3 := hide t3
          clear t3
          go_enter Try.func49, Try.ntmps49
          go_wp2_with fail
          go_quiet (first | (go_at_call 50; exact Calls.quiet_of_same (HC.out _)) | (go_at_call_of 51 (Value.int .i64 a); exact Calls.quiet_of_same ((size_calls a _ a1 a2).mono fun _ _ h => ⟨h.1, h.2.symm⟩)) | (go_at_call_of 51 (Value.int .i64 b); exact Calls.quiet_of_same ((size_calls b _ b1 b2).mono fun _ _ h => ⟨h.1, h.2.symm⟩)))
          go_wp2_with fail
          refine (size_calls _ _ d1 d2).mono ?_
          rintro e w' ⟨rfl, rfl⟩
          rw [HDD.out]
          go_wp2_with fail
          refine (HD.out _).mono ?_
          rintro e w1 ⟨rfl, hb1⟩
          obtain ⟨c1, c2, c3, hb2⟩ := over_cells hb1
          clear hb1
          go_wp2_with fail
          refine (over1_calls (q : Int) _ _ _ a b d _ c1 c2 c3 (by omega) (by omega)).mono ?_
          rintro e w' ⟨rfl, rfl⟩
          unfold ans
          go_wp2_with fail
          go_ret2
          refine ⟨?_, hb2⟩
          rw [hspec2.out, if_neg (by have := T2.out; have := T3.out; omega)]
          rfl
      · have t2' : ((r : Int) == (D : Int) - (r : Int)) = false := by simpa using t2
        have T2 := hide t2
        clear t2
        go_enter Try.func49, Try.ntmps49
        go_wp2_with fail
        go_quiet (first | (go_at_call 50; exact Calls.quiet_of_same (HC.out _)) | (go_at_call_of 51 (Value.int .i64 a); exact Calls.quiet_of_same ((size_calls a _ a1 a2).mono fun _ _ h => ⟨h.1, h.2.symm⟩)) | (go_at_call_of 51 (Value.int .i64 b); exact Calls.quiet_of_same ((size_calls b _ b1 b2).mono fun _ _ h => ⟨h.1, h.2.symm⟩)))
        go_wp2_with fail
        refine (size_calls _ _ d1 d2).mono ?_
        rintro e w' ⟨rfl, rfl⟩
        rw [HDD.out]
        go_wp2_with fail
        refine (HD.out _).mono ?_
        rintro e w1 ⟨rfl, hb1⟩
        obtain ⟨c1, c2, c3, hb2⟩ := over_cells hb1
        clear hb1
        go_wp2_with fail
        refine (over1_calls (q : Int) _ _ _ a b d _ c1 c2 c3 (by omega) (by omega)).mono ?_
        rintro e w' ⟨rfl, rfl⟩
        unfold ans
        go_wp2_with fail
        go_ret2
        refine ⟨?_, hb2⟩
        rw [hspec2.out, if_neg (by have := T2.out; omega)]
        rfl

theorem muldec_calls (a b : Int) (w : World) (ha : I64 a) (hb : I64 b) : Calls Try.prog 13 #[.int .i64 a, .int .i64 b] w fun e w' => e = .returned (ans (overV a b 10000)) ∧ Below w.heap.size w w' := by
  go_enter Try.func13, Try.ntmps13
  go_wp2_with fail
  refine (over_calls _ _ _ _ ha hb (by unfold I64; omega) (by omega)).mono ?_
  rintro e w' ⟨rfl, hb1⟩
  unfold ans
  go_wp2_with fail
  go_ret2
  exact ⟨rfl, hb1⟩
theorem divdec_calls (a b : Int) (w : World) (ha : I64 a) (hb : I64 b) (h0 : b ≠ 0) : Calls Try.prog 14 #[.int .i64 a, .int .i64 b] w fun e w' => e = .returned (ans (overV a 10000 b)) ∧ Below w.heap.size w w' := by
  have hz : (b == 0) = false := by simpa using h0
  go_enter Try.func14, Try.ntmps14
  go_wp2_with fail
  refine (over_calls _ _ _ _ ha (by unfold I64; omega) hb h0).mono ?_
  rintro e w' ⟨rfl, hb1⟩
  unfold ans
  go_wp2_with fail
  go_ret2
  exact ⟨rfl, hb1⟩
end Go.Proofs.Ytlmjcifiofobpaa
