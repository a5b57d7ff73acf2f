/- The document's long numbers: products. -/
import Derived.Test.YtgicljncknbgcaaN2
namespace Go.Proofs.Ytgicljncknbgcaa.Abs
set_option linter.unusedVariables false
set_option linter.unusedSimpArgs false

theorem Dig.zeros (n : Nat) : Dig (List.replicate n 0) := fun d h => by rw [List.eq_of_mem_replicate h]; omega
theorem vl_zeros : ∀ n : Nat, vl (List.replicate n 0) = 0
  | 0 => rfl
  | n + 1 => by rw [List.replicate_succ, vl, vl_zeros n]; rfl
theorem mul_bound {a b : Int} (ha : 0 ≤ a ∧ a < 10000) (hb : 0 ≤ b ∧ b < 10000) : 0 ≤ a * b ∧ a * b ≤ 99980001 := by
  constructor
  · exact Int.mul_nonneg ha.1 hb.1
  · have h1 : a * b ≤ 9999 * b := Int.mul_le_mul_of_nonneg_right (by omega) hb.1
    omega
/-- the row of a digit y at the place i -/
structure RowI (x : List Int) (y : Int) (i : Nat) (e : List Int × Int × Int) (k : Nat) : Prop where
  at_ : e.2.2 = (k : Int)
  len : e.1.length = i + k
  dig : Dig e.1
  more : 0 ≤ e.2.1 ∧ e.2.1 ≤ 9999
  val : vl e.1 + 10000 ^ (i + k) * (e.2.1 + y * vl (x.drop k)) = 10000 ^ i * (vl x * y)
  lim : k ≤ x.length ∨ (k = x.length + 1 ∧ e.2.1 = 0)
theorem RowI.step {x : List Int} {y : Int} {i k : Nat} {row : List Int} {more kk : Int} (h : RowI x y i (row, more, kk) k) (hx : Dig x) (hy : 0 ≤ y ∧ y < 10000) (hc : k < x.length ∨ more > 0) {s : Int} (hs : s = more + nthD x (k : Int) 0 * y) : RowI x y i (row ++ [s.tmod 10000], s.tdiv 10000, kk + 1) (k + 1) := by
  obtain ⟨h1, h2, h3, h4, h5, h6⟩ := h
  simp only at h1 h2 h3 h4 h5 h6
  subst h1
  have hA := hx.nth (k : Int)
  have hA0 := nthD_out (a := x) (k := k)
  have hb := mul_bound hA hy
  have s0 : 0 ≤ s := by omega
  rw [tdivE s0, tmodE s0]
  refine ⟨rfl, by simp [h2]; omega, h3.app (.one (by omega) (by omega)), by show 0 ≤ s / 10000 ∧ s / 10000 ≤ 9999; omega, ?_, ?_⟩
  · simp only
    rw [vl_app, h2, ← h5, vl_drop x k, show i + (k + 1) = (i + k) + 1 by omega, Int.pow_succ]
    simp only [vl]
    rw [Int.add_assoc, Int.mul_assoc (10000 ^ (i + k)) 10000, ← Int.mul_add]
    congr 2
    have e : y * (nthD x (k : Int) 0 + 10000 * vl (x.drop (k + 1))) = nthD x (k : Int) 0 * y + 10000 * (y * vl (x.drop (k + 1))) := by
      rw [Int.mul_add, Int.mul_comm y, ← Int.mul_assoc, Int.mul_comm y 10000, Int.mul_assoc]
    rw [e]
    omega
  · show k + 1 ≤ _ ∨ (_ ∧ s / 10000 = 0)
    rcases hc with hc | hc
    · omega
    · rcases Nat.lt_or_ge k x.length with hk | hk
      · omega
      · rw [hA0 hk] at hs
        omega
theorem r1_Mul_tells {N n m : Nat} {x y : T_N1} {a b : Int} (hx : Can x a n) (hy : Can y b m) (hN : 2 * n + 2 * m + 20 ≤ N) (hl : N ≤ 1000000000) : Tells (r1_Mul N x y) fun r => Can r (a * b) (n + m + 1) := by
  have x1 := hx.len
  have y1 := hy.len
  have xv := hx.val
  have yv := hy.val
  have xs := hx.sgn
  have ys := hy.sgn
  unfold r1_Mul r1_Mul_t
  refine Tells.iter (fun (e : Int × Bool × List Int) => ∃ i : Nat, e.1 = (i : Int) ∧ i ≤ y.2.1.length ∧ Can (e.2.1, e.2.2, ()) (vl x.2.1 * vl (y.2.1.take i)) (i + n + 1)) (fun e => (y.2.1.length + 1 - e.1).toNat) ?_ N _ ⟨0, rfl, by omega, ⟨(fun d h => by cases h), .nil, by simp, by simp [vl], by simp [vl]⟩⟩ (by simp only; omega)
  rintro K ⟨ii, sn, sd⟩ ⟨i, h1, h2, hS⟩ hK
  simp only at h1
  subst h1
  unfold r1_Mul_B1 r1_Mul_B1t
  simp only
  have hxn := vl_nonneg hx.dig
  refine Tells.dec (fun c => ?_) (fun c => ?_)
  · have hY := hy.dig.nth (i : Int)
    have hcm : canMake 8 (i : Int) (i : Int) = true := by rw [canMake_iff]; omega
    refine Tells.ok hcm ?_
    refine Tells.iter (fun e => ∃ k, RowI x.2.1 (nthD y.2.1 (i : Int) 0) i e k) (fun e => (x.2.1.length + 2 - e.2.2).toNat) ?_ N _ ⟨0, ⟨rfl, by simp, Dig.zeros _, by simp, ?_, .inl (by omega)⟩⟩ (by simp only; omega)
    · rintro K2 ⟨row, more, kk⟩ ⟨k, hR⟩ hK2
      have hk := hR.at_
      have hlen := hR.len
      have hmore := hR.more
      have hlim := hR.lim
      simp only at hk hlen hmore hlim
      subst hk
      have hA := hx.dig.nth (k : Int)
      have hA0 := nthD_out (a := x.2.1) (k := k)
      have hb := mul_bound hA hY
      have hp0 : x.2.1.length ≤ k → nthD x.2.1 (k : Int) 0 * nthD y.2.1 (i : Int) 0 = 0 := fun h => by rw [hA0 h, Int.zero_mul]
      have go : ∀ s, s = more + nthD x.2.1 (k : Int) 0 * nthD y.2.1 (i : Int) 0 → (k < x.2.1.length ∨ more > 0) → Tells (bif fits (row.length + [s.tmod 10000].length) 17592186044416 then bif inI64 (s.tdiv 10000) then bif inI64 ((k : Int) + 1) then K2 (row ++ [s.tmod 10000], s.tdiv 10000, (k : Int) + 1) else none else none else none) fun r => Can r (a * b) (n + m + 1) := by
        intro s hs hc
        have s0 : 0 ≤ s := by omega
        have e1 := tdivE (b := 10000) s0
        refine Tells.ok (fitsT (by simp; omega)) (Tells.ok (inI (by omega) (by omega)) (Tells.ok (inI (by omega) (by omega)) ?_))
        refine hK2 _ ⟨k + 1, hR.step hx.dig hY hc hs⟩ ?_
        simp only
        omega
      unfold r1_Mul_B2
      simp only
      repeat' first
        | exact go _ (by omega) (by omega)
        | refine Tells.ok (inRt (by omega) (by omega)) ?_
        | refine Tells.ok (inI (by omega) (by omega)) ?_
        | refine Tells.dec (fun c => ?_) (fun c => ?_)
        | (exfalso; omega)
      have hv := hR.val
      simp only at hv
      rw [List.drop_of_length_le (by omega), show more = 0 by omega] at hv
      simp only [vl, Int.mul_zero, Int.add_zero] at hv
      refine Tells.bind (r1_up_tells hS.dig hR.dig (by have h1 := hS.len; simp only at h1 ⊢; omega) hl) fun r hr => ?_
      obtain ⟨u1, u2, u3, _⟩ := hr
      have hsl := hS.len
      have hsv := hS.val
      simp only at hsl hsv u2 u3
      refine Tells.bind (r1_trim_tells u1 (by omega) hl) fun r2 hr2 => ?_
      refine Tells.ok (inI (by omega) (by omega)) (hK _ ⟨i + 1, by simp, by omega, ?_⟩ (by simp only; omega))
      have hpos : 0 ≤ vl x.2.1 * vl (y.2.1.take i) := Int.mul_nonneg hxn (vl_nonneg (hy.dig.take i))
      have e1 : sg false (vl r) = vl x.2.1 * vl (y.2.1.take (i + 1)) := by
        have hi : i < y.2.1.length := by omega
        show vl r = _
        rw [u2, hsv, hv, List.take_succ_eq_append_getElem hi, vl_app, List.length_take, Nat.min_eq_left (by omega), Int.mul_add, nthD_eq hi]
        simp only [vl, Int.mul_zero, Int.add_zero]
        rw [Int.mul_left_comm (vl x.2.1)]
        omega
      rw [e1] at hr2
      obtain ⟨q1, q2, ⟨⟩⟩ := r2
      exact hr2.mono (by omega)
    · simp only [List.drop_zero]
      rw [vl_zeros, Int.mul_comm (nthD _ _ _)]
      simp
  · have hi : i = y.2.1.length := by omega
    subst hi
    rw [List.take_length] at hS
    have hsl := hS.len
    have hsv := hS.val
    simp only at hsl hsv
    refine Tells.bind (r1_trim_tells hS.dig (by omega) hl) fun r hr => Tells.some ?_
    have e : sg (!(x.1 == y.1)) (vl sd) = a * b := by
      rw [hsv, xv, yv, xs, ys]
      have ea : (a.natAbs : Int) = if a < 0 then -a else a := by split <;> omega
      have eb : (b.natAbs : Int) = if b < 0 then -b else b := by split <;> omega
      have hn : (((a.natAbs : Int) * (b.natAbs : Int)).natAbs : Int) = (a.natAbs : Int) * (b.natAbs : Int) := by
        rw [Int.natAbs_mul, Int.natAbs_natCast, Int.natAbs_natCast, Int.natCast_mul]
      rw [hn, ea, eb]
      unfold sg
      by_cases ha : a < 0 <;> by_cases hb : b < 0 <;> simp [ha, hb, Int.neg_mul, Int.mul_neg]
    rw [e] at hr
    exact hr.mono (by omega)
end Go.Proofs.Ytgicljncknbgcaa.Abs
