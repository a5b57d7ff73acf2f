/- The document's long numbers: quotients. -/
import Derived.Test.YtgicljncknbgcaaM1
namespace Go.Proofs.Ytgicljncknbgcaa.Abs
set_option linter.unusedVariables false
set_option linter.unusedSimpArgs false

theorem sgn_mul (a b : Int) (n : Int) (hn : n = ((a.natAbs * b.natAbs : Nat) : Int)) : sg (decide (a < 0) != decide (b < 0)) n = a * b := by
  subst hn
  rw [Int.natCast_mul]
  by_cases ha : a < 0 <;> by_cases hb : b < 0 <;> simp only [ha, hb, sg, decide_true, decide_false, bne_self_eq_false, Bool.false_eq_true, if_false, if_true, bne_iff_ne, ne_eq, not_false_eq_true, reduceCtorEq, Bool.true_bne, Bool.false_bne, Bool.not_false, Bool.not_true]
  · rw [show ((a.natAbs : Nat) : Int) = -a by omega, show ((b.natAbs : Nat) : Int) = -b by omega, Int.neg_mul_neg]
  · rw [show ((a.natAbs : Nat) : Int) = -a by omega, show ((b.natAbs : Nat) : Int) = b by omega, Int.neg_mul, Int.neg_neg]
  · rw [show ((a.natAbs : Nat) : Int) = a by omega, show ((b.natAbs : Nat) : Int) = -b by omega, Int.mul_neg, Int.neg_neg]
  · rw [show ((a.natAbs : Nat) : Int) = a by omega, show ((b.natAbs : Nat) : Int) = b by omega]
theorem sgn_tdiv (a b : Int) : sg (decide (a < 0) != decide (b < 0)) ((a.natAbs / b.natAbs : Nat) : Int) = a.tdiv b := by
  by_cases ha : a < 0 <;> by_cases hb : b < 0 <;> simp only [ha, hb, sg, decide_true, decide_false, bne_self_eq_false, Bool.false_eq_true, if_false, if_true, bne_iff_ne, ne_eq, not_false_eq_true, reduceCtorEq, Bool.true_bne, Bool.false_bne, Bool.not_false, Bool.not_true]
  · obtain ⟨x, rfl⟩ : ∃ x : Nat, a = -(x : Int) := ⟨a.natAbs, by omega⟩
    obtain ⟨y, rfl⟩ : ∃ y : Nat, b = -(y : Int) := ⟨b.natAbs, by omega⟩
    rw [Int.neg_tdiv_neg, Int.natAbs_neg, Int.natAbs_neg]; rfl
  · obtain ⟨x, rfl⟩ : ∃ x : Nat, a = -(x : Int) := ⟨a.natAbs, by omega⟩
    obtain ⟨y, rfl⟩ : ∃ y : Nat, b = (y : Int) := ⟨b.natAbs, by omega⟩
    rw [Int.neg_tdiv, Int.natAbs_neg]; rfl
  · obtain ⟨x, rfl⟩ : ∃ x : Nat, a = (x : Int) := ⟨a.natAbs, by omega⟩
    obtain ⟨y, rfl⟩ : ∃ y : Nat, b = -(y : Int) := ⟨b.natAbs, by omega⟩
    rw [Int.tdiv_neg, Int.natAbs_neg]; rfl
  · obtain ⟨x, rfl⟩ : ∃ x : Nat, a = (x : Int) := ⟨a.natAbs, by omega⟩
    obtain ⟨y, rfl⟩ : ∃ y : Nat, b = (y : Int) := ⟨b.natAbs, by omega⟩
    rfl
theorem sgn_tmod (a b : Int) : sg (decide (a < 0)) ((a.natAbs % b.natAbs : Nat) : Int) = a.tmod b := by
  by_cases ha : a < 0 <;> simp only [ha, sg, decide_true, decide_false, Bool.false_eq_true, if_false, if_true]
  · obtain ⟨x, rfl⟩ : ∃ x : Nat, a = -(x : Int) := ⟨a.natAbs, by omega⟩
    rw [Int.neg_tmod, Int.natAbs_neg]
    by_cases hb : b < 0
    · obtain ⟨y, rfl⟩ : ∃ y : Nat, b = -(y : Int) := ⟨b.natAbs, by omega⟩
      rw [Int.tmod_neg, Int.natAbs_neg]; rfl
    · obtain ⟨y, rfl⟩ : ∃ y : Nat, b = (y : Int) := ⟨b.natAbs, by omega⟩
      rfl
  · obtain ⟨x, rfl⟩ : ∃ x : Nat, a = (x : Int) := ⟨a.natAbs, by omega⟩
    by_cases hb : b < 0
    · obtain ⟨y, rfl⟩ : ∃ y : Nat, b = -(y : Int) := ⟨b.natAbs, by omega⟩
      rw [Int.tmod_neg, Int.natAbs_neg]; rfl
    · obtain ⟨y, rfl⟩ : ∃ y : Nat, b = (y : Int) := ⟨b.natAbs, by omega⟩
      rfl

theorem Can.of {l : List Int} {n : Nat} (h : Dig l) (hn : Nrm l) (hl : l.length ≤ n) : Can (false, l, ()) (vl l) n :=
  ⟨h, hn, hl, by have := vl_nonneg h; simp only; omega, by have := vl_nonneg h; simp only; symm; simp; omega⟩
/-- what is less is no longer -/
theorem Can.shorter {x : T_N1} {v : Int} {n : Nat} {b : List Int} (h : Can x v n) (hb : Dig b) (h0 : v.natAbs ≤ vl b) : Can x v b.length := by
  refine ⟨h.dig, h.nrm, ?_, h.val, h.sgn⟩
  rcases Nat.lt_or_ge b.length x.2.1.length with h1 | h1
  · have := by_len hb h.dig h.nrm h1
    have := h.val
    omega
  · exact h1
theorem vl_set (q : List Int) (k : Nat) (d : Int) (h : k < q.length) : vl ((q.set k d).drop k) = d + 10000 * vl (q.drop (k + 1)) := by
  rw [List.drop_eq_getElem_cons (by simpa using h), vl, List.getElem_set_self]
  congr 3
  rw [List.drop_set, if_pos (by omega)]
theorem quo_step {b R d low r : Int} {A Q : Int} (hA : A = b * Q + R) (hr : r = d + 10000 * R) : d + 10000 * A = b * (low + 10000 * Q) + (r - low * b) := by
  rw [hA, hr, Int.mul_add b, Int.mul_comm low b, Int.mul_add 10000, Int.mul_left_comm 10000]
  omega
theorem r1_Quo_tells {M N n m : Nat} {x y : T_N1} {a b : Int} (hx : Can x a n) (hy : Can y b m) (h0 : b ≠ 0) (hN : 4 * n + 4 * m + 60000 ≤ M) (hl : M ≤ N ∧ M ≤ 1000000000) : Tells (r1_Quo N x y) fun r => Can r.1 (a.tdiv b) n ∧ Can r.2.1 (a.tmod b) m := by
  have x1 := hx.len
  have y1 := hy.len
  have xv := hx.val
  have yv := hy.val
  have xs := hx.sgn
  have ys := hy.sgn
  have hB := Can.of hy.dig hy.nrm y1
  obtain ⟨B, hBe⟩ : ∃ B, B = vl y.2.1 := ⟨_, rfl⟩
  rw [← hBe] at hB yv
  have hB0 : 0 < B := by omega
  unfold r1_Quo r1_Quo_t
  have hcm : canMake 8 (x.2.1.length : Int) (x.2.1.length : Int) = true := by rw [canMake_iff]; omega
  refine Tells.ok hcm (Tells.ok (inI (by omega) (by omega)) ?_)
  refine Tells.iter (fun (e : Int × List Int × Bool × List Int) => ∃ (k : Nat) (R : Int), e.1 = (k : Int) - 1 ∧ k ≤ x.2.1.length ∧ e.2.1.length = x.2.1.length ∧ Dig e.2.1 ∧ 0 ≤ R ∧ R < B ∧ Can (e.2.2.1, e.2.2.2, ()) R m ∧ vl (x.2.1.drop k) = B * vl (e.2.1.drop k) + R) (fun e => (e.1 + 1).toNat) ?_ N _
    ⟨x.2.1.length, 0, rfl, Nat.le_refl _, by simp, Dig.zeros _, by omega, hB0, ⟨(fun d h => by cases h), .nil, by simp, by simp [vl], by simp⟩, by rw [List.drop_length]; simp [vl]⟩ (by simp only; omega)
  rintro K ⟨i, q, rn, rd⟩ ⟨k, R, h1, h2, h3, h4, h5, h6, h7, h8⟩ hK
  simp only at h1 h3 h4 h7 h8
  unfold r1_Quo_B1 r1_Quo_B1t
  simp only
  have hrl := h7.len
  have hrv := h7.val
  simp only at hrl hrv
  refine Tells.dec (fun c => ?_) (fun c => ?_)
  · obtain ⟨p, rfl⟩ : ∃ p, k = p + 1 := ⟨k - 1, by omega⟩
    have hi : i = (p : Int) := by omega
    subst hi
    have hA := hx.dig.nth (p : Int)
    refine Tells.ok (inRt (by omega) (by omega)) (Tells.ok (fitsT (by simp; omega)) ?_)
    have hd1 : Dig ([nthD x.2.1 (p : Int) 0] ++ rd) := (Dig.one hA.1 hA.2).app h7.dig
    refine Tells.bind (r1_trim_tells (neg := false) hd1 (by simp; omega) hl) fun r hr => ?_
    obtain ⟨r', hre⟩ : ∃ r', r' = nthD x.2.1 (p : Int) 0 + 10000 * R := ⟨_, rfl⟩
    have e1 : sg false (vl ([nthD x.2.1 (p : Int) 0] ++ rd)) = r' := by
      show vl _ = _
      rw [vl_app]
      simp only [vl, List.length_singleton]
      rw [hrv]
      omega
    rw [e1] at hr
    obtain ⟨rn1, rd1, ⟨⟩⟩ := r
    have hr' : Can (rn1, rd1, ()) r' (m + 1) := hr.mono (by simp; omega)
    simp only
    refine Tells.iter (fun e => 0 ≤ e.1 ∧ e.1 ≤ e.2 ∧ e.2 ≤ 9999 ∧ e.1 * B ≤ r' ∧ r' < (e.2 + 1) * B) (fun e => (e.2 - e.1).toNat) ?_ N _ ⟨by simp, by simp, by simp, by simp only; omega, by simp only; omega⟩ (by simp; omega)
    rintro K2 ⟨low, high⟩ ⟨g1, g2, g3, g4, g5⟩ hK2
    simp only at g1 g2 g3 g4 g5
    unfold r1_Quo_B2
    simp only
    refine Tells.dec (fun c2 => ?_) (fun c2 => ?_)
    · refine Tells.ok (inI (by omega) (by omega)) (Tells.ok (inI (by omega) (by omega)) ?_)
      rw [tdivE (show 0 ≤ low + high + 1 by omega)]
      obtain ⟨mid, hmid⟩ : ∃ mid, mid = (low + high + 1) / 2 := ⟨_, rfl⟩
      rw [← hmid]
      refine Tells.ok (inI (by omega) (by omega)) ?_
      refine Tells.bind (r1_Of_tells (n := mid) (by omega) (by omega) (by omega)) fun r1 hr1 => ?_
      refine Tells.bind (r1_Mul_tells hr1 hB (by omega) hl) fun r2 hr2 => ?_
      refine Tells.bind (r1_Cmp_tells hr2 hr' (by omega) hl) fun r3 hr3 => ?_
      refine Tells.dec (fun c3 => ?_) (fun c3 => ?_)
      · refine hK2 _ ⟨by simp only; omega, by simp only; omega, g3, ?_, g5⟩ (by simp only; omega)
        simp only
        rw [hr3] at c3
        split at c3
        · omega
        · split at c3 <;> omega
      · refine Tells.ok (inI (by omega) (by omega)) (hK2 _ ⟨g1, by simp only; omega, by simp only; omega, g4, ?_⟩ (by simp only; omega))
        simp only
        rw [hr3] at c3
        rw [show mid - 1 + 1 = mid by omega]
        split at c3
        · omega
        · split at c3 <;> omega
    · have hlh : low = high := by omega
      subst hlh
      rw [Int.add_mul] at g5
      have hin : inR (p : Int) (x.2.1.length : Int).toNat = true := inRt (by omega) (by omega)
      refine Tells.ok hin (Tells.ok (inRt (by omega) (by omega)) ?_)
      refine Tells.bind (r1_Of_tells (n := low) (by omega) (by omega) (by omega)) fun r4 hr4 => ?_
      refine Tells.bind (r1_Mul_tells hr4 hB (by omega) hl) fun r5 hr5 => ?_
      refine Tells.bind (r1_Sub_tells hr' hr5 (by omega) hl) fun r6 hr6 => ?_
      refine Tells.ok (inI (by omega) (by omega)) (hK _ ⟨p, r' - low * B, rfl, by omega, by simp [setD, h3], ?_, by omega, by omega, ?_, ?_⟩ (by simp only; omega))
      · intro d hd
        simp only [setD] at hd
        rcases List.mem_or_eq_of_mem_set hd with h | h
        · exact h4 d h
        · omega
      · obtain ⟨z1, z2, ⟨⟩⟩ := r6
        have := hr6.shorter hy.dig (by omega)
        exact this.mono y1
      · simp only [setD, Int.toNat_natCast]
        rw [vl_set q p low (by omega), vl_drop x.2.1 p]
        exact quo_step h8 hre
  · have : k = 0 := by omega
    subst this
    simp only [List.drop_zero] at h8
    have hbq : Nat.beq ((x.2.1.length : Int).toNat) q.length = true := by rw [h3]; simp
    refine Tells.ok hbq ?_
    refine Tells.bind (r1_trim_tells h4 (by omega) hl) fun r7 hr7 => ?_
    refine Tells.bind (r1_trim_tells h7.dig (by omega) hl) fun r8 hr8 => Tells.some ?_
    rw [hrv] at hr8
    have hq0 := vl_nonneg h4
    have ha : (a.natAbs : Int) = B * vl q + R := by rw [← xv]; exact h8
    have e1 : vl q = (a.natAbs : Int) / (b.natAbs : Int) := by
      rw [ha, ← yv, Int.mul_comm]
      rw [Int.add_comm, Int.add_mul_ediv_right _ _ (by omega), Int.ediv_eq_zero_of_lt h5 h6]
      omega
    have e2 : (R.natAbs : Int) = (a.natAbs : Int) % (b.natAbs : Int) := by
      rw [ha, ← yv, Int.add_comm, Int.mul_comm B, Int.add_mul_emod_self_right, Int.emod_eq_of_lt h5 h6]
      omega
    refine ⟨?_, ?_⟩
    · have e : sg (!(x.1 == y.1)) (vl q) = a.tdiv b := by
        rw [e1, xs, ys, ← sgn_tdiv a b, Int.natCast_ediv]
        rfl
      rw [e] at hr7
      exact hr7.mono (by omega)
    · have e : sg x.1 (R.natAbs : Int) = a.tmod b := by
        rw [e2, xs, ← sgn_tmod a b, Int.natCast_emod]
      rw [e] at hr8
      exact hr8.mono hrl
end Go.Proofs.Ytgicljncknbgcaa.Abs
namespace Go.Proofs.Ytgicljncknbgcaa.Abs
set_option linter.unusedVariables false
set_option linter.unusedSimpArgs false

def rneN (n d : Nat) : Nat := if d < 2 * (n % d) ∨ (2 * (n % d) = d ∧ n / d % 2 = 1) then n / d + 1 else n / d
def evenV (a b : Int) : Int := sg (decide (a < 0) != decide (b < 0)) (rneN a.natAbs b.natAbs : Nat)
theorem evenV_eq {a b : Int} : evenV a b = sg (decide (a < 0) != decide (b < 0)) ((a.natAbs / b.natAbs : Nat) + if b.natAbs < 2 * (a.natAbs % b.natAbs) ∨ (2 * (a.natAbs % b.natAbs) = b.natAbs ∧ a.natAbs / b.natAbs % 2 = 1) then 1 else 0) := by
  unfold evenV rneN
  split <;> simp
theorem natAbs_tdiv' (a b : Int) : ((a.tdiv b).natAbs : Nat) = a.natAbs / b.natAbs := Int.natAbs_tdiv a b
theorem r1_Even_tells {M N n m : Nat} {x y : T_N1} {a b : Int} (hx : Can x a n) (hy : Can y b m) (h0 : b ≠ 0) (hN : 5 * n + 5 * m + 60100 ≤ M) (hl : M ≤ N ∧ M ≤ 1000000000) : Tells (r1_Even N x y) fun r => Can r (evenV a b) (n + 6) := by
  have xs := hx.sgn
  have ys := hy.sgn
  unfold r1_Even
  refine Tells.bind (r1_Quo_tells hx hy h0 (by omega) hl) fun r hr => ?_
  obtain ⟨hq, hm⟩ := hr
  have hml := hm.len
  refine Tells.bind (r1_up_tells hm.dig hm.dig (by omega) hl) fun r1 hr1 => ?_
  obtain ⟨u1, u2, u3, u4⟩ := hr1
  have hyl := hy.len
  refine Tells.bind (r1_by_tells u1 hy.dig (u4 hm.nrm hm.nrm) hy.nrm (by omega) hl) fun r2 hr2 => ?_
  obtain ⟨b1, b2⟩ := hr2
  rw [u2, hm.val, hy.val, Int.natAbs_tmod] at b1 b2
  have hqv := hq.val
  rw [Int.natAbs_tdiv, show a.natAbs.div b.natAbs = a.natAbs / b.natAbs from rfl] at hqv
  have e := evenV_eq (a := a) (b := b)
  have et := sgn_tdiv a b
  obtain ⟨Q, hQ⟩ : ∃ Q : Nat, Q = a.natAbs / b.natAbs := ⟨_, rfl⟩
  obtain ⟨S, hS⟩ : ∃ S : Nat, S = a.natAbs % b.natAbs := ⟨_, rfl⟩
  rw [← hQ] at e et hqv
  rw [← hS] at e b1 b2
  clear hQ hS
  have hodd : r.1.2.1 ≠ [] → (nthD r.1.2.1 0 0) % 2 = (Q : Int) % 2 := by
    intro h
    have h1 := vl_drop r.1.2.1 0
    simp only [List.drop_zero] at h1
    rw [hqv] at h1
    have h2 : nthD r.1.2.1 ((0 : Nat) : Int) 0 = nthD r.1.2.1 0 0 := rfl
    rw [h2] at h1
    omega
  have hd0 := hq.dig.nth 0
  rw [xs, ys]
  -- the answers
  have same : (¬ (b.natAbs < 2 * S ∨ (2 * S = b.natAbs ∧ Q % 2 = 1))) → Tells (some r.1) fun r => Can r (evenV a b) (n + 6) := by
    intro h
    rw [if_neg h] at e
    refine Tells.some ?_
    rw [e, Int.add_zero, et]
    exact hq.mono (by omega)
  have more : (b.natAbs < 2 * S ∨ (2 * S = b.natAbs ∧ Q % 2 = 1)) → Tells (bif !(decide (a < 0) == decide (b < 0)) then ((r1_Of N 1).bind fun (r3 : T_N1) => (r1_Sub N r.1 r3).bind fun (r4 : T_N1) => some r4) else ((r1_Of N 1).bind fun (r5 : T_N1) => (r1_Add N r.1 r5).bind fun (r6 : T_N1) => some r6)) fun r => Can r (evenV a b) (n + 6) := by
    intro h
    rw [if_pos h] at e
    refine Tells.ite (fun c => ?_) (fun c => ?_)
    · refine Tells.bind (r1_Of_tells (by omega) (by omega) (by omega)) fun r3 h3 => Tells.bind (r1_Sub_tells hq h3 (by omega) hl) fun r4 h4 => Tells.some ?_
      have c : (decide (a < 0) != decide (b < 0)) = true := c
      rw [c] at e et
      simp only [sg, if_true] at e et
      rw [show evenV a b = a.tdiv b - 1 by omega]
      exact h4.mono (by omega)
    · refine Tells.bind (r1_Of_tells (by omega) (by omega) (by omega)) fun r3 h3 => Tells.bind (r1_Add_tells hq h3 (by omega) hl) fun r4 h4 => Tells.some ?_
      have c : (decide (a < 0) != decide (b < 0)) = false := c
      rw [c] at e et
      have e : evenV a b = (Q : Int) + 1 := e
      have et : (Q : Int) = a.tdiv b := et
      rw [show evenV a b = a.tdiv b + 1 by omega]
      exact h4.mono (by omega)
  refine Tells.dec (fun c => ?_) (fun c => ?_)
  · refine Tells.ok (inRt (by omega) (by omega)) (Tells.dec (fun c2 => same (by omega)) (fun c2 => Tells.ite (fun c3 => ?_) (fun c3 => ?_)))
    · have c3 : r2 = 0 := by simpa using c3
      rw [tmodE hd0.1, hodd (by intro h; rw [h] at c; simp at c)]
      refine Tells.ite (fun c4 => same ?_) (fun c4 => more ?_)
      · have : (Q : Int) % 2 ≠ 1 := by simpa using c4
        omega
      · have : (Q : Int) % 2 = 1 := by simpa using c4
        omega
    · have c3 : r2 ≠ 0 := by simpa using c3
      exact more (by omega)
  · have hz : r.1.2.1 = [] := List.eq_nil_of_length_eq_zero (by omega)
    have : Q = 0 := by rw [hz] at hqv; simp [vl] at hqv; omega
    refine Tells.dec (fun c2 => same (by omega)) (fun c2 => Tells.ite (fun c3 => same ?_) (fun c3 => more ?_))
    · have c3 : r2 = 0 := by simpa using c3
      omega
    · have c3 : r2 ≠ 0 := by simpa using c3
      omega
end Go.Proofs.Ytgicljncknbgcaa.Abs
namespace Go.Proofs.Ytgicljncknbgcaa.Abs
open Go
set_option linter.unusedVariables false
set_option linter.unusedSimpArgs false

theorem q_le (u c y1 y0 B : Nat) (hB : B = 4294967296) (hy1 : 2147483648 ≤ y1) (hy0 : y0 < B) (hc : c < B) (hu : u < y1 * B + y0) :
    (u * B + c) / (y1 * B + y0) ≤ u / y1 ∧ u / y1 ≤ 4294967297 ∧ (u * B + c) / (y1 * B + y0) < B := by
  subst hB
  refine ⟨?_, ?_, ?_⟩
  · rw [Nat.le_div_iff_mul_le (by omega)]
    have h := Nat.div_mul_le_self (u * 4294967296 + c) (y1 * 4294967296 + y0)
    generalize (u * 4294967296 + c) / (y1 * 4294967296 + y0) = Q at *
    have h1 : Q * (y1 * 4294967296 + y0) = Q * y1 * 4294967296 + Q * y0 := by rw [Nat.mul_add, ← Nat.mul_assoc]
    have h2 : 0 ≤ Q * y0 := Nat.zero_le _
    rw [h1] at h
    generalize Q * y1 = a at *
    generalize Q * y0 = b at *
    omega
  · have : u / y1 < 4294967298 := by
      rw [Nat.div_lt_iff_lt_mul (by omega)]
      omega
    omega
  · rw [Nat.div_lt_iff_lt_mul (by omega)]
    omega

/-- the test says no: found -/
theorem found (u c y1 y0 q : Nat) (hy : 0 < y1 * 4294967296 + y0) (hq : (u * 4294967296 + c) / (y1 * 4294967296 + y0) ≤ q) (hu : q * y1 ≤ u)
    (ht : q * y0 ≤ 4294967296 * (u - q * y1) + c) : q = (u * 4294967296 + c) / (y1 * 4294967296 + y0) := by
  refine Nat.le_antisymm ?_ hq
  rw [Nat.le_div_iff_mul_le hy, Nat.mul_add, ← Nat.mul_assoc]
  generalize q * y1 = a at *
  generalize q * y0 = b at *
  omega

/-- the test says yes: it is less -/
theorem lower (u c y1 y0 q : Nat) (hy : 0 < y1 * 4294967296 + y0) (hu : q * y1 ≤ u)
    (ht : 4294967296 * (u - q * y1) + c < q * y0) : (u * 4294967296 + c) / (y1 * 4294967296 + y0) ≤ q - 1 ∧ 1 ≤ q := by
  have h : (u * 4294967296 + c) / (y1 * 4294967296 + y0) < q := by
    rw [Nat.div_lt_iff_lt_mul hy, Nat.mul_add, ← Nat.mul_assoc]
    generalize q * y1 = a at *
    generalize q * y0 = b at *
    omega
  generalize (u * 4294967296 + c) / (y1 * 4294967296 + y0) = Q at *
  omega
theorem div_start (hi lo y s : Nat) (h0 : 0 < hi) (h1 : lo < 18446744073709551616) (h3 : hi < y) (hs : s ≤ 63) (hy1 : 9223372036854775808 ≤ y * 2 ^ s) (hy2 : y * 2 ^ s < 18446744073709551616) :
    (hi * 18446744073709551616 + lo) * 2 ^ s % 18446744073709551616 = lo * 2 ^ s % 18446744073709551616 ∧
    (hi * 2 ^ s) ||| (lo / 2 ^ (64 - s)) = (hi * 18446744073709551616 + lo) * 2 ^ s / 18446744073709551616 ∧ hi * 2 ^ s + 2 ^ s ≤ y * 2 ^ s ∧
    (hi * 18446744073709551616 + lo) * 2 ^ s / 18446744073709551616 < y * 2 ^ s := by
  have e64 : 2 ^ s * 2 ^ (64 - s) = 18446744073709551616 := by rw [← Nat.pow_add, show s + (64 - s) = 64 by omega]
  have hp : 0 < 2 ^ s := Nat.two_pow_pos s
  have hp2 : 0 < 2 ^ (64 - s) := Nat.two_pow_pos _
  have hle : hi * 2 ^ s + 2 ^ s ≤ y * 2 ^ s := by
    have : (hi + 1) * 2 ^ s ≤ y * 2 ^ s := Nat.mul_le_mul_right _ h3
    rw [Nat.add_mul, Nat.one_mul] at this; exact this
  have hlo : lo / 2 ^ (64 - s) < 2 ^ s := by
    rw [Nat.div_lt_iff_lt_mul hp2, e64]; exact h1
  have ex : (hi * 18446744073709551616 + lo) * 2 ^ s = 18446744073709551616 * (hi * 2 ^ s) + lo * 2 ^ s := by
    rw [Nat.add_mul, Nat.mul_right_comm, Nat.mul_comm (hi * 2 ^ s)]
  have ed : lo * 2 ^ s / 18446744073709551616 = lo / 2 ^ (64 - s) := by
    rw [← e64, Nat.mul_comm (2 ^ s) (2 ^ (64 - s)), Nat.mul_div_mul_right _ _ hp]
  have eq2 : (hi * 18446744073709551616 + lo) * 2 ^ s / 18446744073709551616 = hi * 2 ^ s + lo / 2 ^ (64 - s) := by
    rw [ex, Nat.mul_add_div (by omega), ed]
  refine ⟨?_, ?_, hle, ?_⟩
  · rw [ex, Nat.mul_add_mod]
  · rw [eq2, Nat.mul_comm hi, ← Nat.two_pow_add_eq_or_of_lt hlo]
  · rw [eq2]; omega


/-- one digit of the quotient is found; its remainder -/
def Div1 (U c Y q : Nat) : Prop := q = (U * 4294967296 + c) / Y
theorem Div1.rest {U c Y q : Nat} (h : Div1 U c Y q) (hY : 0 < Y) (hU : U < Y) (hc : c < 4294967296) : q * Y ≤ U * 4294967296 + c ∧ U * 4294967296 + c - q * Y < Y ∧ q < 4294967296 ∧ U * 4294967296 + c - q * Y = (U * 4294967296 + c) % Y := by
  unfold Div1 at h
  have h1 := Nat.div_add_mod (U * 4294967296 + c) Y
  have h2 := Nat.mod_lt (U * 4294967296 + c) hY
  have h3 : (U * 4294967296 + c) / Y < 4294967296 := by
    rw [Nat.div_lt_iff_lt_mul hY]
    omega
  rw [← h, Nat.mul_comm] at h1
  generalize q * Y = a at *
  omega
/-- the round's number is one too many: what is behind it -/
theorem div_down {U c Y1 Y0 q r : Nat} (hY1 : 2147483648 ≤ Y1) (hY0 : Y0 < 4294967296) (hr : q * Y1 + r = U) (hq : q ≤ 4294967297) (hc : c < 4294967296)
    (hQ : (U * 4294967296 + c) / (Y1 * 4294967296 + Y0) < 4294967296)
    (h : 4294967296 ≤ q ∨ 4294967296 * r + c < q * Y0) : 1 ≤ q ∧ (U * 4294967296 + c) / (Y1 * 4294967296 + Y0) ≤ q - 1 ∧ (q - 1) * Y1 + (r + Y1) = U ∧
      (4294967296 ≤ r + Y1 → Div1 U c (Y1 * 4294967296 + Y0) (q - 1)) := by
  have h1 : 1 ≤ q ∧ (U * 4294967296 + c) / (Y1 * 4294967296 + Y0) ≤ q - 1 := by
    rcases h with h | h
    · omega
    · have := lower U c Y1 Y0 q (by omega) (by omega) (by rw [show U - q * Y1 = r by omega]; exact h)
      omega
  have h2 : (q - 1) * Y1 + (r + Y1) = U := by
    obtain ⟨p, rfl⟩ : ∃ p, q = p + 1 := ⟨q - 1, by omega⟩
    rw [Nat.add_sub_cancel]
    rw [Nat.add_mul] at hr
    omega
  refine ⟨h1.1, h1.2, h2, fun h3 => found U c Y1 Y0 (q - 1) (by omega) h1.2 (by omega) ?_⟩
  rw [show U - (q - 1) * Y1 = r + Y1 by omega]
  have h4 : (q - 1) * Y0 ≤ 4294967296 * 4294967295 := Nat.mul_le_mul (by omega) (by omega)
  omega
theorem div_here {U c Y1 Y0 q r : Nat} (hY1 : 2147483648 ≤ Y1) (hr : q * Y1 + r = U) (hQ : (U * 4294967296 + c) / (Y1 * 4294967296 + Y0) ≤ q) (h : q * Y0 ≤ 4294967296 * r + c) : Div1 U c (Y1 * 4294967296 + Y0) q :=
  found U c Y1 Y0 q (by omega) hQ (by omega) (by rw [show U - q * Y1 = r by omega]; exact h)
theorem div_first {U c Y1 Y0 : Nat} (hY1 : 2147483648 ≤ Y1) (hY1' : Y1 < 4294967296) (hY0 : Y0 < 4294967296) (hc : c < 4294967296) (hU : U < Y1 * 4294967296 + Y0) :
    ∃ q P : Nat, (U : Int) / Y1 = q ∧ (q : Int) * Y1 = P ∧ q * Y1 = P ∧ P ≤ U ∧ U < P + Y1 ∧ q ≤ 4294967297 ∧ (U * 4294967296 + c) / (Y1 * 4294967296 + Y0) ≤ q ∧ (U * 4294967296 + c) / (Y1 * 4294967296 + Y0) < 4294967296 := by
  obtain ⟨c1, c2, c3⟩ := q_le U c Y1 Y0 4294967296 rfl hY1 hY0 hc hU
  exact ⟨U / Y1, U / Y1 * Y1, by simp, by simp, rfl, Nat.div_mul_le_self _ _, Nat.lt_div_mul_add (by omega), c2, c1, c3⟩
/-- what both digits make -/
theorem div_ends {hi lo y s U L1 L0 q1 q0 : Nat} (hy : 0 < y) (hh : hi < y) (hl : lo < 18446744073709551616) (hs : (hi * 18446744073709551616 + lo) * 2 ^ s = U * 18446744073709551616 + L1 * 4294967296 + L0)
    (h1 : Div1 U L1 (y * 2 ^ s) q1) (h0 : Div1 (U * 4294967296 + L1 - q1 * (y * 2 ^ s)) L0 (y * 2 ^ s) q0) :
    q1 * 4294967296 + q0 = (hi * 18446744073709551616 + lo) / y ∧ q1 * 4294967296 + q0 < 18446744073709551616 ∧
      ((U * 4294967296 + L1 - q1 * (y * 2 ^ s)) * 4294967296 + L0 - q0 * (y * 2 ^ s)) / 2 ^ s = (hi * 18446744073709551616 + lo) % y := by
  have hp : 0 < 2 ^ s := Nat.two_pow_pos s
  have hY : 0 < y * 2 ^ s := Nat.mul_pos hy hp
  unfold Div1 at h1 h0
  have a1 := Nat.div_add_mod (U * 4294967296 + L1) (y * 2 ^ s)
  have m1 := Nat.mod_lt (U * 4294967296 + L1) hY
  rw [← h1, Nat.mul_comm] at a1
  have a0 := Nat.div_add_mod ((U * 4294967296 + L1 - q1 * (y * 2 ^ s)) * 4294967296 + L0) (y * 2 ^ s)
  have m0 := Nat.mod_lt ((U * 4294967296 + L1 - q1 * (y * 2 ^ s)) * 4294967296 + L0) hY
  rw [← h0, Nat.mul_comm] at a0
  have hd := Nat.mul_div_mul_right (hi * 18446744073709551616 + lo) y hp
  have hm := Nat.mul_mod_mul_right (2 ^ s) (hi * 18446744073709551616 + lo) y
  have hN : (hi * 18446744073709551616 + lo) / y < 18446744073709551616 := by
    rw [Nat.div_lt_iff_lt_mul hy]
    have : (hi + 1) * 18446744073709551616 ≤ y * 18446744073709551616 := Nat.mul_le_mul_right _ hh
    omega
  rw [hs] at hd hm
  have he : U * 18446744073709551616 + L1 * 4294967296 + L0 = ((U * 4294967296 + L1 - q1 * (y * 2 ^ s)) * 4294967296 + L0 - q0 * (y * 2 ^ s)) + (y * 2 ^ s) * (q1 * 4294967296 + q0) := by
    have e2 : (y * 2 ^ s) * (q1 * 4294967296 + q0) = q1 * (y * 2 ^ s) * 4294967296 + q0 * (y * 2 ^ s) := by
      generalize y * 2 ^ s = Y
      rw [Nat.mul_add, ← Nat.mul_assoc, Nat.mul_comm Y q1, Nat.mul_comm Y q0]
    rw [e2]
    generalize q1 * (y * 2 ^ s) = a at *
    generalize q0 * (y * 2 ^ s) = b at *
    omega
  have hr : (U * 4294967296 + L1 - q1 * (y * 2 ^ s)) * 4294967296 + L0 - q0 * (y * 2 ^ s) < y * 2 ^ s := by
    generalize q1 * (y * 2 ^ s) = a at *
    generalize q0 * (y * 2 ^ s) = b at *
    omega
  rw [he, Nat.add_mul_div_left _ _ hY, Nat.div_eq_of_lt hr, Nat.zero_add] at hd
  rw [he, Nat.add_mul_mod_self_left, Nat.mod_eq_of_lt hr] at hm
  refine ⟨hd, by omega, ?_⟩
  rw [hm, Nat.mul_div_cancel _ hp]


/-! words of 64 bits -/
theorem wu {n : Int} (h1 : 0 ≤ n) (h2 : n ≤ 18446744073709551615) : IntKind.u64.wrap n = n := by rw [IntKind.wrap_u64]; omega
theorem wrap_nat (a : Nat) (h : a < 18446744073709551616) : IntKind.u64.wrap (a : Int) = (a : Int) := by rw [IntKind.wrap_u64]; omega
theorem ofInt_nat (a : Nat) (h : a < 18446744073709551616) : (BitVec.ofInt 64 (a : Int)).toNat = a := by
  rw [BitVec.ofInt_natCast, BitVec.toNat_ofNat]
  exact Nat.mod_eq_of_lt h
theorem iAnd_nat (a b : Nat) (ha : a < 18446744073709551616) (hb : b < 18446744073709551616) : iBits .and .u64 (a : Int) (b : Int) = ((a &&& b : Nat) : Int) := by
  show IntKind.u64.wrap (((BitVec.ofInt 64 (a : Int) &&& BitVec.ofInt 64 (b : Int)).toNat : Nat) : Int) = _
  rw [BitVec.toNat_and, ofInt_nat a ha, ofInt_nat b hb]
  exact wrap_nat _ (Nat.lt_of_le_of_lt Nat.and_le_left ha)
theorem iOr_nat (a b : Nat) (ha : a < 18446744073709551616) (hb : b < 18446744073709551616) : iBits .or .u64 (a : Int) (b : Int) = ((a ||| b : Nat) : Int) := by
  show IntKind.u64.wrap (((BitVec.ofInt 64 (a : Int) ||| BitVec.ofInt 64 (b : Int)).toNat : Nat) : Int) = _
  rw [BitVec.toNat_or, ofInt_nat a ha, ofInt_nat b hb]
  exact wrap_nat _ (Nat.or_lt_two_pow (n := 64) ha hb)
theorem iAnd_low (a : Nat) (ha : a < 18446744073709551616) : iBits .and .u64 (a : Int) 4294967295 = ((a % 4294967296 : Nat) : Int) := by
  have h := iAnd_nat a 4294967295 ha (by omega)
  rw [Nat.and_two_pow_sub_one_eq_mod a 32] at h
  exact h
theorem iAnd_one (a : Nat) (ha : a < 18446744073709551616) : iBits .and .u64 (a : Int) 1 = ((a % 2 : Nat) : Int) := by
  have h := iAnd_nat a 1 ha (by omega)
  rw [Nat.and_two_pow_sub_one_eq_mod a 1] at h
  exact h
theorem iShr_nat (a s : Nat) (hs : s ≤ 64) : iShr .u64 (a : Int) (s : Int) = ((a / 2 ^ s : Nat) : Int) := by
  show (a : Int).fdiv (2 ^ (min (s : Int).toNat 64)) = _
  rw [Int.toNat_natCast, Nat.min_eq_left hs, Int.fdiv_eq_ediv_of_nonneg _ (Int.le_of_lt (Int.pow_pos (by omega)))]
  simp
theorem iShl_nat (a s : Nat) (hs : s ≤ 64) : iShl .u64 (a : Int) (s : Int) = IntKind.u64.wrap ((a * 2 ^ s : Nat) : Int) := by
  show IntKind.u64.wrap ((a : Int) * 2 ^ (min (s : Int).toNat 64)) = _
  rw [Int.toNat_natCast, Nat.min_eq_left hs]
  simp
theorem iShr32 (a : Nat) : iShr .u64 (a : Int) (32 : Int) = ((a / 4294967296 : Nat) : Int) := iShr_nat a 32 (by omega)
theorem prod32 {a b : Nat} (ha : a < 4294967296) (hb : b < 4294967296) : a * b ≤ 18446744065119617025 := Nat.mul_le_mul (show a ≤ 4294967295 by omega) (show b ≤ 4294967295 by omega)
theorem wmul {a b : Nat} (ha : a < 4294967296) (hb : b < 4294967296) : IntKind.u64.wrap ((a : Int) * (b : Int)) = ((a * b : Nat) : Int) := by
  have := prod32 ha hb
  rw [← Int.natCast_mul]
  exact wrap_nat _ (by omega)
theorem wadd {a b : Nat} (h : a + b < 18446744073709551616) : IntKind.u64.wrap ((a : Int) + (b : Int)) = ((a + b : Nat) : Int) := by
  rw [← Int.natCast_add]
  exact wrap_nat _ h
theorem bits_Mul64_is (N x y : Nat) (hx : x < 18446744073709551616) (hy : y < 18446744073709551616) : bits_Mul64 N (x : Int) (y : Int) = some (((x * y / 18446744073709551616 : Nat) : Int), ((x * y % 18446744073709551616 : Nat) : Int), ()) := by
  unfold bits_Mul64
  rw [iAnd_low x hx, iAnd_low y hy, iShr32 x, iShr32 y]
  obtain ⟨a, ha⟩ : ∃ a, a = x / 4294967296 := ⟨_, rfl⟩
  obtain ⟨b, hb⟩ : ∃ b, b = x % 4294967296 := ⟨_, rfl⟩
  obtain ⟨c, hc⟩ : ∃ c, c = y / 4294967296 := ⟨_, rfl⟩
  obtain ⟨d, hd⟩ : ∃ d, d = y % 4294967296 := ⟨_, rfl⟩
  have h1 : a < 4294967296 := by omega
  have h2 : b < 4294967296 := by omega
  have h3 : c < 4294967296 := by omega
  have h4 : d < 4294967296 := by omega
  have ex : x = a * 4294967296 + b := by omega
  have ey : y = c * 4294967296 + d := by omega
  rw [← ha, ← hb, ← hc, ← hd]
  have p1 := prod32 h2 h4
  have p2 := prod32 h1 h4
  have p3 := prod32 h2 h3
  have p4 := prod32 h1 h3
  have exy : x * y = (a * c) * 18446744073709551616 + (a * d + b * c) * 4294967296 + b * d := by
    rw [ex, ey, Nat.add_mul, Nat.mul_add, Nat.mul_add]
    have e1 : a * 4294967296 * (c * 4294967296) = a * c * 18446744073709551616 := by
      rw [Nat.mul_mul_mul_comm]
    have e2 : a * 4294967296 * d = a * d * 4294967296 := by rw [Nat.mul_right_comm]
    have e3 : b * (c * 4294967296) = b * c * 4294967296 := by rw [Nat.mul_assoc]
    rw [e1, e2, e3]
    omega
  rw [wmul h2 h4, wmul h1 h4, wmul h2 h3, wmul h1 h3, iShr32 (b * d)]
  rw [wadd (a := a * d) (b := b * d / 4294967296) (by omega), iShr32, iAnd_low _ (by omega)]
  rw [wadd (a := (a * d + b * d / 4294967296) % 4294967296) (b := b * c) (by omega), iShr32]
  rw [wadd (a := a * c) (b := (a * d + b * d / 4294967296) / 4294967296) (by omega)]
  rw [wadd (a := a * c + (a * d + b * d / 4294967296) / 4294967296) (b := ((a * d + b * d / 4294967296) % 4294967296 + b * c) / 4294967296) (by omega)]
  rw [← Int.natCast_mul, exy]
  generalize a * c = S at *
  generalize a * d = Q at *
  generalize b * c = R at *
  generalize b * d = T at *
  have e1 : S + (Q + T / 4294967296) / 4294967296 + ((Q + T / 4294967296) % 4294967296 + R) / 4294967296 = (S * 18446744073709551616 + (Q + R) * 4294967296 + T) / 18446744073709551616 := by omega
  rw [e1, IntKind.wrap_u64]
  congr 3
end Go.Proofs.Ytgicljncknbgcaa.Abs
