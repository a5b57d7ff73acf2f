/- The document's long numbers: rounded quotients. -/
import Derived.Test.YtgicljncknbgcaaN4
namespace Go.Proofs.Ytgicljncknbgcaa.Abs
set_option linter.unusedVariables false
set_option linter.unusedSimpArgs false

def rneN (n d : Nat) : Nat := if d < 2 * (n % d) ∨ (2 * (n % d) = d ∧ n / d % 2 = 1) then n / d + 1 else n / d
def evenV (a b : Int) : Int := sg (decide (a < 0) != decide (b < 0)) (rneN a.natAbs b.natAbs : Nat)
theorem evenV_eq {a b : Int} : evenV a b = sg (decide (a < 0) != decide (b < 0)) ((a.natAbs / b.natAbs : Nat) + if b.natAbs < 2 * (a.natAbs % b.natAbs) ∨ (2 * (a.natAbs % b.natAbs) = b.natAbs ∧ a.natAbs / b.natAbs % 2 = 1) then 1 else 0) := by
  unfold evenV rneN
  split <;> simp
theorem natAbs_tdiv' (a b : Int) : ((a.tdiv b).natAbs : Nat) = a.natAbs / b.natAbs := Int.natAbs_tdiv a b
theorem r1_Even_tells {N n m : Nat} {x y : T_N1} {a b : Int} (hx : Can x a n) (hy : Can y b m) (h0 : b ≠ 0) (hN : 5 * n + 5 * m + 60100 ≤ N) (hl : N ≤ 1000000000) : Tells (r1_Even N x y) fun r => Can r (evenV a b) (n + 6) := by
  have xs := hx.sgn
  have ys := hy.sgn
  unfold r1_Even
  refine Tells.bind (r1_Quo_tells hx hy h0 (by omega) hl) fun r hr => ?_
  obtain ⟨hq, hm⟩ := hr
  have hml := hm.len
  refine Tells.bind (r1_up_tells hm.dig hm.dig (by omega) hl) fun r1 hr1 => ?_
  obtain ⟨u1, u2, u3, u4⟩ := hr1
  have hyl := hy.len
  refine Tells.bind (r1_by_tells u1 hy.dig (u4 hm.nrm hm.nrm) hy.nrm (by omega) hl) fun r2 hr2 => ?_
  obtain ⟨b1, b2⟩ := hr2
  rw [u2, hm.val, hy.val, Int.natAbs_tmod] at b1 b2
  have hqv := hq.val
  rw [Int.natAbs_tdiv, show a.natAbs.div b.natAbs = a.natAbs / b.natAbs from rfl] at hqv
  have e := evenV_eq (a := a) (b := b)
  have et := sgn_tdiv a b
  obtain ⟨Q, hQ⟩ : ∃ Q : Nat, Q = a.natAbs / b.natAbs := ⟨_, rfl⟩
  obtain ⟨S, hS⟩ : ∃ S : Nat, S = a.natAbs % b.natAbs := ⟨_, rfl⟩
  rw [← hQ] at e et hqv
  rw [← hS] at e b1 b2
  clear hQ hS
  have hodd : r.1.2.1 ≠ [] → (nthD r.1.2.1 0 0) % 2 = (Q : Int) % 2 := by
    intro h
    have h1 := vl_drop r.1.2.1 0
    simp only [List.drop_zero] at h1
    rw [hqv] at h1
    have h2 : nthD r.1.2.1 ((0 : Nat) : Int) 0 = nthD r.1.2.1 0 0 := rfl
    rw [h2] at h1
    omega
  have hd0 := hq.dig.nth 0
  rw [xs, ys]
  -- the answers
  have same : (¬ (b.natAbs < 2 * S ∨ (2 * S = b.natAbs ∧ Q % 2 = 1))) → Tells (some r.1) fun r => Can r (evenV a b) (n + 6) := by
    intro h
    rw [if_neg h] at e
    refine Tells.some ?_
    rw [e, Int.add_zero, et]
    exact hq.mono (by omega)
  have more : (b.natAbs < 2 * S ∨ (2 * S = b.natAbs ∧ Q % 2 = 1)) → Tells (bif !(decide (a < 0) == decide (b < 0)) then ((r1_Of N 1).bind fun (r3 : T_N1) => (r1_Sub N r.1 r3).bind fun (r4 : T_N1) => some r4) else ((r1_Of N 1).bind fun (r5 : T_N1) => (r1_Add N r.1 r5).bind fun (r6 : T_N1) => some r6)) fun r => Can r (evenV a b) (n + 6) := by
    intro h
    rw [if_pos h] at e
    refine Tells.ite (fun c => ?_) (fun c => ?_)
    · refine Tells.bind (r1_Of_tells (by omega) (by omega) (by omega)) fun r3 h3 => Tells.bind (r1_Sub_tells hq h3 (by omega) hl) fun r4 h4 => Tells.some ?_
      have c : (decide (a < 0) != decide (b < 0)) = true := c
      rw [c] at e et
      simp only [sg, if_true] at e et
      rw [show evenV a b = a.tdiv b - 1 by omega]
      exact h4.mono (by omega)
    · refine Tells.bind (r1_Of_tells (by omega) (by omega) (by omega)) fun r3 h3 => Tells.bind (r1_Add_tells hq h3 (by omega) hl) fun r4 h4 => Tells.some ?_
      have c : (decide (a < 0) != decide (b < 0)) = false := c
      rw [c] at e et
      have e : evenV a b = (Q : Int) + 1 := e
      have et : (Q : Int) = a.tdiv b := et
      rw [show evenV a b = a.tdiv b + 1 by omega]
      exact h4.mono (by omega)
  refine Tells.dec (fun c => ?_) (fun c => ?_)
  · refine Tells.ok (inRt (by omega) (by omega)) (Tells.dec (fun c2 => same (by omega)) (fun c2 => Tells.ite (fun c3 => ?_) (fun c3 => ?_)))
    · have c3 : r2 = 0 := by simpa using c3
      rw [tmodE hd0.1, hodd (by intro h; rw [h] at c; simp at c)]
      refine Tells.ite (fun c4 => same ?_) (fun c4 => more ?_)
      · have : (Q : Int) % 2 ≠ 1 := by simpa using c4
        omega
      · have : (Q : Int) % 2 = 1 := by simpa using c4
        omega
    · have c3 : r2 ≠ 0 := by simpa using c3
      exact more (by omega)
  · have hz : r.1.2.1 = [] := List.eq_nil_of_length_eq_zero (by omega)
    have : Q = 0 := by rw [hz] at hqv; simp [vl] at hqv; omega
    refine Tells.dec (fun c2 => same (by omega)) (fun c2 => Tells.ite (fun c3 => same ?_) (fun c3 => more ?_))
    · have c3 : r2 = 0 := by simpa using c3
      omega
    · have c3 : r2 ≠ 0 := by simpa using c3
      omega
end Go.Proofs.Ytgicljncknbgcaa.Abs
