/- The document's long numbers: of an int64, and back; products, quotients. -/
import Derived.Test.YtgicljncknbgcaaN1
namespace Go.Proofs.Ytgicljncknbgcaa.Abs
set_option linter.unusedVariables false
set_option linter.unusedSimpArgs false

theorem tdivN {m : Int} (h : 0 ≤ m) (b : Int) : Int.tdiv (-m) b = -(m / b) := by rw [Int.neg_tdiv, tdivE h]
theorem tmodN {m : Int} (h : 0 ≤ m) (b : Int) : Int.tmod (-m) b = -(m % b) := by rw [Int.neg_tmod, tmodE h]
/-- of the number n: the digits d, and what is left, m -/
structure OfI (n : Int) (d : List Int) (m : Int) : Prop where
  dig : Dig d
  val : vl d + 10000 ^ d.length * m = n.natAbs
  nn : 0 ≤ m
  nrm : m = 0 → Nrm d
  lim : ∃ j, d.length + j = 5 ∧ m < 10000 ^ j
theorem OfI.le {n : Int} {d : List Int} {m : Int} (h : OfI n d m) : m ≤ n.natAbs := by
  have h1 := vl_nonneg h.dig
  have h2 := h.val
  have h3 : (1 : Int) * m ≤ 10000 ^ d.length * m := Int.mul_le_mul_of_nonneg_right (by have : (0 : Int) < 10000 ^ d.length := Int.pow_pos (by omega); omega) h.nn
  omega
theorem OfI.step {n : Int} {d : List Int} {m : Int} (h : OfI n d m) (h0 : m ≠ 0) : OfI n (d ++ [m % 10000]) (m / 10000) ∧ d.length < 5 := by
  obtain ⟨h1, h2, h3, h4, j, h5, h6⟩ := h
  cases j with
  | zero => simp at h6; omega
  | succ j =>
    rw [Int.pow_succ] at h6
    refine ⟨⟨h1.app (.one (by omega) (by omega)), ?_, by omega, fun h => .app (by omega), j, by simp; omega, by omega⟩, by omega⟩
    rw [vl_app, List.length_append, List.length_singleton, Int.pow_succ, ← h2]
    simp only [vl]
    rw [Int.add_assoc, Int.mul_assoc (10000 ^ d.length) 10000, ← Int.mul_add]
    congr 2
    omega
theorem r1_Of_tells {N : Nat} {n : Int} (h1 : -9223372036854775808 ≤ n) (h2 : n ≤ 9223372036854775807) (hN : 10 ≤ N) : Tells (r1_Of N n) fun x => Can x n 5 := by
  unfold r1_Of r1_Of_t
  refine Tells.iter (fun e => OfI n e.2 e.1.natAbs ∧ (n < 0 → e.1 ≤ 0) ∧ (0 ≤ n → 0 ≤ e.1)) (fun e => 5 - e.2.length) ?_ N _ ⟨⟨(fun d h => by cases h), by simp [vl], by omega, fun _ => Nrm.nil, 5, rfl, by simp only; omega⟩, by simp only; omega, by simp only; omega⟩ (by simp; omega)
  rintro K ⟨m, d⟩ ⟨hI, hn, hp⟩ hK
  simp only at hI hn hp
  unfold r1_Of_B1
  simp only
  refine Tells.ite (fun c => ?_) (fun c => ?_)
  · have c : m ≠ 0 := by simpa using c
    have hle := hI.le
    obtain ⟨hs, hl⟩ := hI.step (by omega)
    by_cases hm : 0 ≤ m
    · have e0 : (m.natAbs : Int) = m := by omega
      rw [e0] at hs
      rw [tmodE hm, tdivE hm]
      refine Tells.dec (fun c2 => by omega) (fun c2 => ?_)
      refine Tells.ok (fitsT (by simp; omega)) (Tells.ok (inI (by omega) (by omega)) (hK _ ⟨?_, by simp only; omega, by simp only; omega⟩ (by simp; omega)))
      have e1 : ((m / 10000).natAbs : Int) = m / 10000 := by omega
      simp only [e1]
      exact hs
    · obtain ⟨q, rfl⟩ : ∃ q, m = -q := ⟨-m, by omega⟩
      have hq : 0 ≤ q := by omega
      have e0 : ((-q).natAbs : Int) = q := by omega
      rw [e0] at hs
      rw [tmodN hq, tdivN hq]
      have e1 : ((-(q / 10000)).natAbs : Int) = q / 10000 := by omega
      refine Tells.dec (fun c2 => ?_) (fun c2 => ?_)
      · have e2 : 0 - -(q % 10000) = q % 10000 := by omega
        rw [e2]
        refine Tells.ok (inI (by omega) (by omega)) (Tells.ok (fitsT (by simp; omega)) (Tells.ok (inI (by omega) (by omega)) (hK _ ⟨?_, by simp only; omega, by simp only; omega⟩ (by simp; omega))))
        simp only [e1]
        exact hs
      · have e2 : -(q % 10000) = q % 10000 := by omega
        rw [e2]
        refine Tells.ok (fitsT (by simp; omega)) (Tells.ok (inI (by omega) (by omega)) (hK _ ⟨?_, by simp only; omega, by simp only; omega⟩ (by simp; omega)))
        simp only [e1]
        exact hs
  · have c : m = 0 := by simpa using c
    subst c
    obtain ⟨h1, h2, h3, h4, j, h5, h6⟩ := hI
    exact Tells.some ⟨h1, h4 rfl, by simp only; omega, by simpa using h2, rfl⟩
theorem vl_drop_le {a : List Int} (h : Dig a) (k : Nat) : vl (a.drop k) ≤ vl a := by
  by_cases hk : k ≤ a.length
  · have e := vl_split a k hk
    have h1 := vl_nonneg (h.take k)
    have h2 : (1 : Int) * vl (a.drop k) ≤ 10000 ^ k * vl (a.drop k) := Int.mul_le_mul_of_nonneg_right (by have : (0 : Int) < 10000 ^ k := Int.pow_pos (by omega); omega) (vl_nonneg (h.drop k))
    omega
  · rw [List.drop_of_length_le (by omega)]
    exact vl_nonneg h
theorem sg_abs (v : Int) : sg (decide (v < 0)) (v.natAbs : Int) = v := by
  unfold sg
  by_cases h : v < 0
  · rw [decide_eq_true h]; simp; omega
  · rw [decide_eq_false h]; simp; omega
/-- an int64, or ErrOver -/
def intE (v : Int) : Int × Int × Unit := if -9223372036854775808 ≤ v ∧ v ≤ 9223372036854775807 then (v, 0, ()) else (0, 9, ())
theorem r1_Int_tells {N n : Nat} {x : T_N1} {v : Int} (hx : Can x v n) (hN : n + 20 ≤ N) (hl : N ≤ 1000000000) : Tells (r1_N_Int N x) fun r => r = intE v := by
  have x1 := hx.len
  have xv := hx.val
  have xs := hx.sgn
  unfold r1_N_Int r1_N_Int_t
  refine Tells.bind (r1_Of_tells (by omega) (by omega) (by omega)) fun r hr => ?_
  refine Tells.bind (r1_Of_tells (by omega) (by omega) (by omega)) fun r1 hr1 => ?_
  refine Tells.bind (r1_Cmp_tells hx hr (by omega) hl) fun r2 hr2 => ?_
  refine Tells.dec (fun c => ?_) (fun c => ?_)
  · have : v < -9223372036854775808 := by
      rw [hr2] at c
      split at c
      · assumption
      · split at c <;> omega
    exact Tells.some (by unfold intE; rw [if_neg (by omega)])
  have c : -9223372036854775808 ≤ v := by
    rw [hr2] at c
    split at c
    · omega
    · omega
  refine Tells.bind (r1_Cmp_tells hx hr1 (by omega) hl) fun r3 hr3 => ?_
  refine Tells.dec (fun c2 => ?_) (fun c2 => ?_)
  · have : 9223372036854775807 < v := by
      rw [hr3] at c2
      split at c2
      · omega
      · split at c2 <;> omega
    exact Tells.some (by unfold intE; rw [if_neg (by omega)])
  have c2 : v ≤ 9223372036854775807 := by
    rw [hr3] at c2
    split at c2
    · omega
    · split at c2 <;> omega
  refine Tells.ok (inI (by omega) (by omega)) ?_
  refine Tells.iter (fun e => ∃ k : Nat, e.2 = (k : Int) - 1 ∧ k ≤ x.2.1.length ∧ e.1 = sg x.1 (vl (x.2.1.drop k))) (fun e => (e.2 + 1).toNat) ?_ N _ ⟨x.2.1.length, rfl, Nat.le_refl _, by rw [List.drop_length]; simp [vl, sg]⟩ (by simp only; omega)
  rintro K ⟨m, i⟩ ⟨k, h1, h2, h3⟩ hK
  simp only at h1 h3
  unfold r1_N_Int_B1
  simp only
  refine Tells.dec (fun c3 => ?_) (fun c3 => ?_)
  · obtain ⟨q, rfl⟩ : ∃ q, k = q + 1 := ⟨k - 1, by omega⟩
    have hi : i = (q : Int) := by omega
    subst hi
    have hA := hx.dig.nth (q : Int)
    have e1 := vl_drop x.2.1 q
    have e2 := vl_drop_le hx.dig q
    have e3 := vl_nonneg (hx.dig.drop (q + 1))
    by_cases hv : v < 0
    · have hx1 : x.1 = true := by rw [xs, decide_eq_true hv]
      simp only [sg, hx1, if_true] at h3
      refine Tells.ok hx1 ?_
      refine Tells.ok (inI (by omega) (by omega)) (Tells.ok (inRt (by omega) (by omega)) (Tells.ok (inI (by omega) (by omega)) (Tells.ok (inI (by omega) (by omega)) (hK _ ⟨q, rfl, by omega, ?_⟩ (by simp only; omega)))))
      simp only [sg, hx1, if_true]
      omega
    · have hx1 : x.1 = false := by rw [xs, decide_eq_false hv]
      have h3 : m = vl (List.drop (q + 1) x.2.1) := by simpa [sg, hx1] using h3
      refine Tells.no hx1 ?_
      refine Tells.ok (inI (by omega) (by omega)) (Tells.ok (inRt (by omega) (by omega)) (Tells.ok (inI (by omega) (by omega)) (Tells.ok (inI (by omega) (by omega)) (hK _ ⟨q, rfl, by omega, ?_⟩ (by simp only; omega)))))
      simp only [sg, hx1]
      rw [if_neg (by simp)]
      omega
  · have : k = 0 := by omega
    subst this
    refine Tells.some ?_
    rw [List.drop_zero, xv, xs, sg_abs] at h3
    unfold intE
    rw [if_pos ⟨c, c2⟩, h3]
theorem w1_told_tells {N n : Nat} {x : T_N1} {v a e : Int} (hx : Can x v n) (hN : n + 20 ≤ N) (hl : N ≤ 1000000000) : Tells (w1_told N a e x) fun r => r = true ↔ (a, e, ()) = intE v := by
  unfold w1_told
  refine Tells.bind (r1_Int_tells hx hN hl) fun r hr => ?_
  subst hr
  refine Tells.ite (fun c => Tells.some ?_) (fun c => Tells.some ?_)
  · have c : a = (intE v).1 := by simpa using c
    constructor
    · intro h
      have h : e = (intE v).2.1 := by simpa using h
      rw [c, h]
    · intro h
      rw [← h]
      simp
  · have c : a ≠ (intE v).1 := by simpa using c
    constructor
    · intro h; cases h
    · intro h
      exact absurd (by rw [← h]) c
end Go.Proofs.Ytgicljncknbgcaa.Abs
