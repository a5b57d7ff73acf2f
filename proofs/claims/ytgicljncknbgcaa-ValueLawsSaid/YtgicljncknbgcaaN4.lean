/- The document's long numbers: quotients. -/
import Derived.Test.YtgicljncknbgcaaN3
namespace Go.Proofs.Ytgicljncknbgcaa.Abs
set_option linter.unusedVariables false
set_option linter.unusedSimpArgs false

theorem sgn_mul (a b : Int) (n : Int) (hn : n = ((a.natAbs * b.natAbs : Nat) : Int)) : sg (decide (a < 0) != decide (b < 0)) n = a * b := by
  subst hn
  rw [Int.natCast_mul]
  by_cases ha : a < 0 <;> by_cases hb : b < 0 <;> simp only [ha, hb, sg, decide_true, decide_false, bne_self_eq_false, Bool.false_eq_true, if_false, if_true, bne_iff_ne, ne_eq, not_false_eq_true, reduceCtorEq, Bool.true_bne, Bool.false_bne, Bool.not_false, Bool.not_true]
  · rw [show ((a.natAbs : Nat) : Int) = -a by omega, show ((b.natAbs : Nat) : Int) = -b by omega, Int.neg_mul_neg]
  · rw [show ((a.natAbs : Nat) : Int) = -a by omega, show ((b.natAbs : Nat) : Int) = b by omega, Int.neg_mul, Int.neg_neg]
  · rw [show ((a.natAbs : Nat) : Int) = a by omega, show ((b.natAbs : Nat) : Int) = -b by omega, Int.mul_neg, Int.neg_neg]
  · rw [show ((a.natAbs : Nat) : Int) = a by omega, show ((b.natAbs : Nat) : Int) = b by omega]
theorem sgn_tdiv (a b : Int) : sg (decide (a < 0) != decide (b < 0)) ((a.natAbs / b.natAbs : Nat) : Int) = a.tdiv b := by
  by_cases ha : a < 0 <;> by_cases hb : b < 0 <;> simp only [ha, hb, sg, decide_true, decide_false, bne_self_eq_false, Bool.false_eq_true, if_false, if_true, bne_iff_ne, ne_eq, not_false_eq_true, reduceCtorEq, Bool.true_bne, Bool.false_bne, Bool.not_false, Bool.not_true]
  · obtain ⟨x, rfl⟩ : ∃ x : Nat, a = -(x : Int) := ⟨a.natAbs, by omega⟩
    obtain ⟨y, rfl⟩ : ∃ y : Nat, b = -(y : Int) := ⟨b.natAbs, by omega⟩
    rw [Int.neg_tdiv_neg, Int.natAbs_neg, Int.natAbs_neg]; rfl
  · obtain ⟨x, rfl⟩ : ∃ x : Nat, a = -(x : Int) := ⟨a.natAbs, by omega⟩
    obtain ⟨y, rfl⟩ : ∃ y : Nat, b = (y : Int) := ⟨b.natAbs, by omega⟩
    rw [Int.neg_tdiv, Int.natAbs_neg]; rfl
  · obtain ⟨x, rfl⟩ : ∃ x : Nat, a = (x : Int) := ⟨a.natAbs, by omega⟩
    obtain ⟨y, rfl⟩ : ∃ y : Nat, b = -(y : Int) := ⟨b.natAbs, by omega⟩
    rw [Int.tdiv_neg, Int.natAbs_neg]; rfl
  · obtain ⟨x, rfl⟩ : ∃ x : Nat, a = (x : Int) := ⟨a.natAbs, by omega⟩
    obtain ⟨y, rfl⟩ : ∃ y : Nat, b = (y : Int) := ⟨b.natAbs, by omega⟩
    rfl
theorem sgn_tmod (a b : Int) : sg (decide (a < 0)) ((a.natAbs % b.natAbs : Nat) : Int) = a.tmod b := by
  by_cases ha : a < 0 <;> simp only [ha, sg, decide_true, decide_false, Bool.false_eq_true, if_false, if_true]
  · obtain ⟨x, rfl⟩ : ∃ x : Nat, a = -(x : Int) := ⟨a.natAbs, by omega⟩
    rw [Int.neg_tmod, Int.natAbs_neg]
    by_cases hb : b < 0
    · obtain ⟨y, rfl⟩ : ∃ y : Nat, b = -(y : Int) := ⟨b.natAbs, by omega⟩
      rw [Int.tmod_neg, Int.natAbs_neg]; rfl
    · obtain ⟨y, rfl⟩ : ∃ y : Nat, b = (y : Int) := ⟨b.natAbs, by omega⟩
      rfl
  · obtain ⟨x, rfl⟩ : ∃ x : Nat, a = (x : Int) := ⟨a.natAbs, by omega⟩
    by_cases hb : b < 0
    · obtain ⟨y, rfl⟩ : ∃ y : Nat, b = -(y : Int) := ⟨b.natAbs, by omega⟩
      rw [Int.tmod_neg, Int.natAbs_neg]; rfl
    · obtain ⟨y, rfl⟩ : ∃ y : Nat, b = (y : Int) := ⟨b.natAbs, by omega⟩
      rfl

theorem Can.of {l : List Int} {n : Nat} (h : Dig l) (hn : Nrm l) (hl : l.length ≤ n) : Can (false, l, ()) (vl l) n :=
  ⟨h, hn, hl, by have := vl_nonneg h; simp only; omega, by have := vl_nonneg h; simp only; symm; simp; omega⟩
/-- what is less is no longer -/
theorem Can.shorter {x : T_N1} {v : Int} {n : Nat} {b : List Int} (h : Can x v n) (hb : Dig b) (h0 : v.natAbs ≤ vl b) : Can x v b.length := by
  refine ⟨h.dig, h.nrm, ?_, h.val, h.sgn⟩
  rcases Nat.lt_or_ge b.length x.2.1.length with h1 | h1
  · have := by_len hb h.dig h.nrm h1
    have := h.val
    omega
  · exact h1
theorem vl_set (q : List Int) (k : Nat) (d : Int) (h : k < q.length) : vl ((q.set k d).drop k) = d + 10000 * vl (q.drop (k + 1)) := by
  rw [List.drop_eq_getElem_cons (by simpa using h), vl, List.getElem_set_self]
  congr 3
  rw [List.drop_set, if_pos (by omega)]
theorem quo_step {b R d low r : Int} {A Q : Int} (hA : A = b * Q + R) (hr : r = d + 10000 * R) : d + 10000 * A = b * (low + 10000 * Q) + (r - low * b) := by
  rw [hA, hr, Int.mul_add b, Int.mul_comm low b, Int.mul_add 10000, Int.mul_left_comm 10000]
  omega
theorem r1_Quo_tells {N n m : Nat} {x y : T_N1} {a b : Int} (hx : Can x a n) (hy : Can y b m) (h0 : b ≠ 0) (hN : 4 * n + 4 * m + 60000 ≤ N) (hl : N ≤ 1000000000) : Tells (r1_Quo N x y) fun r => Can r.1 (a.tdiv b) n ∧ Can r.2.1 (a.tmod b) m := by
  have x1 := hx.len
  have y1 := hy.len
  have xv := hx.val
  have yv := hy.val
  have xs := hx.sgn
  have ys := hy.sgn
  have hB := Can.of hy.dig hy.nrm y1
  obtain ⟨B, hBe⟩ : ∃ B, B = vl y.2.1 := ⟨_, rfl⟩
  rw [← hBe] at hB yv
  have hB0 : 0 < B := by omega
  unfold r1_Quo r1_Quo_t
  have hcm : canMake 8 (x.2.1.length : Int) (x.2.1.length : Int) = true := by rw [canMake_iff]; omega
  refine Tells.ok hcm (Tells.ok (inI (by omega) (by omega)) ?_)
  refine Tells.iter (fun (e : Int × List Int × Bool × List Int) => ∃ (k : Nat) (R : Int), e.1 = (k : Int) - 1 ∧ k ≤ x.2.1.length ∧ e.2.1.length = x.2.1.length ∧ Dig e.2.1 ∧ 0 ≤ R ∧ R < B ∧ Can (e.2.2.1, e.2.2.2, ()) R m ∧ vl (x.2.1.drop k) = B * vl (e.2.1.drop k) + R) (fun e => (e.1 + 1).toNat) ?_ N _
    ⟨x.2.1.length, 0, rfl, Nat.le_refl _, by simp, Dig.zeros _, by omega, hB0, ⟨(fun d h => by cases h), .nil, by simp, by simp [vl], by simp⟩, by rw [List.drop_length]; simp [vl]⟩ (by simp only; omega)
  rintro K ⟨i, q, rn, rd⟩ ⟨k, R, h1, h2, h3, h4, h5, h6, h7, h8⟩ hK
  simp only at h1 h3 h4 h7 h8
  unfold r1_Quo_B1 r1_Quo_B1t
  simp only
  have hrl := h7.len
  have hrv := h7.val
  simp only at hrl hrv
  refine Tells.dec (fun c => ?_) (fun c => ?_)
  · obtain ⟨p, rfl⟩ : ∃ p, k = p + 1 := ⟨k - 1, by omega⟩
    have hi : i = (p : Int) := by omega
    subst hi
    have hA := hx.dig.nth (p : Int)
    refine Tells.ok (inRt (by omega) (by omega)) (Tells.ok (fitsT (by simp; omega)) ?_)
    have hd1 : Dig ([nthD x.2.1 (p : Int) 0] ++ rd) := (Dig.one hA.1 hA.2).app h7.dig
    refine Tells.bind (r1_trim_tells (neg := false) hd1 (by simp; omega) hl) fun r hr => ?_
    obtain ⟨r', hre⟩ : ∃ r', r' = nthD x.2.1 (p : Int) 0 + 10000 * R := ⟨_, rfl⟩
    have e1 : sg false (vl ([nthD x.2.1 (p : Int) 0] ++ rd)) = r' := by
      show vl _ = _
      rw [vl_app]
      simp only [vl, List.length_singleton]
      rw [hrv]
      omega
    rw [e1] at hr
    obtain ⟨rn1, rd1, ⟨⟩⟩ := r
    have hr' : Can (rn1, rd1, ()) r' (m + 1) := hr.mono (by simp; omega)
    simp only
    refine Tells.iter (fun e => 0 ≤ e.1 ∧ e.1 ≤ e.2 ∧ e.2 ≤ 9999 ∧ e.1 * B ≤ r' ∧ r' < (e.2 + 1) * B) (fun e => (e.2 - e.1).toNat) ?_ N _ ⟨by simp, by simp, by simp, by simp only; omega, by simp only; omega⟩ (by simp; omega)
    rintro K2 ⟨low, high⟩ ⟨g1, g2, g3, g4, g5⟩ hK2
    simp only at g1 g2 g3 g4 g5
    unfold r1_Quo_B2
    simp only
    refine Tells.dec (fun c2 => ?_) (fun c2 => ?_)
    · refine Tells.ok (inI (by omega) (by omega)) (Tells.ok (inI (by omega) (by omega)) ?_)
      rw [tdivE (show 0 ≤ low + high + 1 by omega)]
      obtain ⟨mid, hmid⟩ : ∃ mid, mid = (low + high + 1) / 2 := ⟨_, rfl⟩
      rw [← hmid]
      refine Tells.ok (inI (by omega) (by omega)) ?_
      refine Tells.bind (r1_Of_tells (n := mid) (by omega) (by omega) (by omega)) fun r1 hr1 => ?_
      refine Tells.bind (r1_Mul_tells hr1 hB (by omega) hl) fun r2 hr2 => ?_
      refine Tells.bind (r1_Cmp_tells hr2 hr' (by omega) hl) fun r3 hr3 => ?_
      refine Tells.dec (fun c3 => ?_) (fun c3 => ?_)
      · refine hK2 _ ⟨by simp only; omega, by simp only; omega, g3, ?_, g5⟩ (by simp only; omega)
        simp only
        rw [hr3] at c3
        split at c3
        · omega
        · split at c3 <;> omega
      · refine Tells.ok (inI (by omega) (by omega)) (hK2 _ ⟨g1, by simp only; omega, by simp only; omega, g4, ?_⟩ (by simp only; omega))
        simp only
        rw [hr3] at c3
        rw [show mid - 1 + 1 = mid by omega]
        split at c3
        · omega
        · split at c3 <;> omega
    · have hlh : low = high := by omega
      subst hlh
      rw [Int.add_mul] at g5
      have hin : inR (p : Int) (x.2.1.length : Int).toNat = true := inRt (by omega) (by omega)
      refine Tells.ok hin (Tells.ok (inRt (by omega) (by omega)) ?_)
      refine Tells.bind (r1_Of_tells (n := low) (by omega) (by omega) (by omega)) fun r4 hr4 => ?_
      refine Tells.bind (r1_Mul_tells hr4 hB (by omega) hl) fun r5 hr5 => ?_
      refine Tells.bind (r1_Sub_tells hr' hr5 (by omega) hl) fun r6 hr6 => ?_
      refine Tells.ok (inI (by omega) (by omega)) (hK _ ⟨p, r' - low * B, rfl, by omega, by simp [setD, h3], ?_, by omega, by omega, ?_, ?_⟩ (by simp only; omega))
      · intro d hd
        simp only [setD] at hd
        rcases List.mem_or_eq_of_mem_set hd with h | h
        · exact h4 d h
        · omega
      · obtain ⟨z1, z2, ⟨⟩⟩ := r6
        have := hr6.shorter hy.dig (by omega)
        exact this.mono y1
      · simp only [setD, Int.toNat_natCast]
        rw [vl_set q p low (by omega), vl_drop x.2.1 p]
        exact quo_step h8 hre
  · have : k = 0 := by omega
    subst this
    simp only [List.drop_zero] at h8
    have hbq : Nat.beq ((x.2.1.length : Int).toNat) q.length = true := by rw [h3]; simp
    refine Tells.ok hbq ?_
    refine Tells.bind (r1_trim_tells h4 (by omega) hl) fun r7 hr7 => ?_
    refine Tells.bind (r1_trim_tells h7.dig (by omega) hl) fun r8 hr8 => Tells.some ?_
    rw [hrv] at hr8
    have hq0 := vl_nonneg h4
    have ha : (a.natAbs : Int) = B * vl q + R := by rw [← xv]; exact h8
    have e1 : vl q = (a.natAbs : Int) / (b.natAbs : Int) := by
      rw [ha, ← yv, Int.mul_comm]
      rw [Int.add_comm, Int.add_mul_ediv_right _ _ (by omega), Int.ediv_eq_zero_of_lt h5 h6]
      omega
    have e2 : (R.natAbs : Int) = (a.natAbs : Int) % (b.natAbs : Int) := by
      rw [ha, ← yv, Int.add_comm, Int.mul_comm B, Int.add_mul_emod_self_right, Int.emod_eq_of_lt h5 h6]
      omega
    refine ⟨?_, ?_⟩
    · have e : sg (!(x.1 == y.1)) (vl q) = a.tdiv b := by
        rw [e1, xs, ys, ← sgn_tdiv a b, Int.natCast_ediv]
        rfl
      rw [e] at hr7
      exact hr7.mono (by omega)
    · have e : sg x.1 (R.natAbs : Int) = a.tmod b := by
        rw [e2, xs, ← sgn_tmod a b, Int.natCast_emod]
      rw [e] at hr8
      exact hr8.mono hrl
end Go.Proofs.Ytgicljncknbgcaa.Abs
