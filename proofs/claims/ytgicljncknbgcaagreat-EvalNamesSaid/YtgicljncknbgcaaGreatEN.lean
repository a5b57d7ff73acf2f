/- EvalNames: what the law's function tells of any text, values and bindings. -/
import Derived.Test.YtgicljncknbgcaaGreatN1
import Derived.Test.YtgicljncknbgcaaGreatE2
set_option linter.unusedVariables false
set_option linter.unusedSimpArgs false
set_option linter.unusedSectionVars false
namespace Go.Proofs.YtgicljncknbgcaaGreat.Abs
theorem known10 : qx3 2000000 = some true := by kernel_rfl
open Go
theorem w21 : Tells ((qx3 2000000).bind fun r => some r) fun r => r = true := by rw [known10]; exact Tells.some rfl
theorem k05 {s : List UInt8} {self : q00} {vars : List q31} {other : q31} (h1 : WfV self) (h2 : ∀ b ∈ vars, WfV b.2.1) (h3 : WfV other.2.1) : Tells (qu8 2000000 s self vars other) fun r => r = true := by
 unfold qu8 zl5
 refine Tells.dec (fun _ => w21) fun c1 => Tells.dec (fun _ => w21) fun c2 => Tells.dec (fun _ => w21) fun c3 => Tells.dec (fun _ => w21) fun c4 => ?_
 refine Tells.bind (u43 (M := 100000) (by omega) ⟨by omega, by omega⟩ (by omega)) fun r hr => ?_
 obtain ⟨t, p, e, _⟩ := r
 dsimp only at hr ⊢
 refine Tells.ite (fun _ => w21) fun c5 => ?_
 have c5 : e = 0 := by simpa using c5
 obtain ⟨k1, L, pl, i, k2, k3, k4⟩ := hr c5
 have hrun := Run.ok k3 k4 (by omega) trivial
 obtain ⟨X, hX, _, hG⟩ := hrun.pre
 rw [List.nil_append] at hX
 subst hX
 refine Tells.iter (fun (i : Int) => ∃ k : Nat, i = k ∧ k ≤ t.length ∧ ∀ n ∈ t.take k, n.1 = 2 → n.2.2.1 ≠ other.1) (fun (i : Int) => t.length - i.toNat) ?_ _ 0 ⟨0, rfl, by omega, by simp⟩ (by simp; omega)
 rintro K i ⟨k, rfl, g1, g2⟩ hK
 unfold wb9 wq1
 dsimp only
 refine Tells.dec (fun c => ?_) (fun c => ?_)
 ·have hk : k < t.length := by omega
  have ht := zz1 t k hk
  rw [qu5 hk]
  have next : (t[k].1 = 2 → t[k].2.2.1 ≠ other.1) → Tells (bif q27 ((k : Int) + 1) then K ((k : Int) + 1) else none) fun r => r = true := fun h => by
   refine Tells.ok (inI (by omega) (by omega)) (hK _ ⟨k + 1, by omega, by omega, fun n hn => ?_⟩ (by omega))
   rw [ht] at hn
   rcases List.mem_append.1 hn with hn | hn
   ·exact g2 n hn
   ·rw [List.mem_singleton.1 hn]; exact h
  refine Tells.ok (w58 (by omega) (by omega)) (Tells.ite (fun c6 => Tells.ok (w58 (by omega) (by omega)) (Tells.ite (fun c7 => w21) (fun c7 => next fun _ => ?_))) (fun c6 => next fun h => ?_))
  ·simpa using c7
  ·simp [h] at c6
 ·have hk : k = t.length := by omega
  subst hk
  rw [List.take_length] at g2
  refine Tells.iter (fun (e : List q31 × Int) => ∃ k : Nat, e.2 = k ∧ k ≤ vars.length ∧ e.1 = [other] ++ vars.take k ∧ ∀ b ∈ vars.take k, b.2.1.2.2.1.length ≤ 300) (fun (e : List q31 × Int) => vars.length - e.2.toNat) ?_ _ _ ⟨0, rfl, by omega, by simp, by simp⟩ (by dsimp only; omega)
  rintro K ⟨more, i⟩ ⟨k, e1, q1, q2, q3⟩ hK
  dsimp only at e1 q1 q2 q3 hK
  subst e1 q2
  unfold wb7 wq0
  dsimp only
  refine Tells.dec (fun c => ?_) (fun c => ?_)
  ·have hk : k < vars.length := by omega
   have ht := zz1 vars k hk
   rw [qu5 hk]
   refine Tells.ok (w58 (by omega) (by omega)) (Tells.dec (fun _ => w21) (fun c6 => ?_))
   refine Tells.ok (ya0 (by simp; omega)) (Tells.ok (inI (by omega) (by omega)) (hK _ ⟨k + 1, by dsimp only; omega, by omega, by rw [ht, ← List.append_assoc], fun b hb => ?_⟩ (by dsimp only; omega)))
   rw [ht] at hb
   rcases List.mem_append.1 hb with hb | hb
   ·exact q3 b hb
   ·rw [List.mem_singleton.1 hb]; omega
  ·have hk : k = vars.length := by omega
   subst hk
   rw [List.take_length] at q3
   rw [List.take_length]
   refine Tells.iter (fun (e : List q31 × Int) => ∃ k : Nat, e.2 = k ∧ k ≤ vars.length ∧ e.1 = ([other] ++ vars) ++ (vars.take k).map fun b => (b.1, other.2.1, ())) (fun (e : List q31 × Int) => vars.length - e.2.toNat) ?_ _ _ ⟨0, rfl, by omega, by simp⟩ (by dsimp only; omega)
   rintro K ⟨more, i⟩ ⟨k, e1, q1, q2⟩ hK
   dsimp only at e1 q1 q2 hK
   subst e1 q2
   unfold z30
   dsimp only
   refine Tells.dec (fun c => ?_) (fun c => ?_)
   ·have hk : k < vars.length := by omega
    have ht := zz1 vars k hk
    rw [qu5 hk]
    refine Tells.ok (w58 (by omega) (by omega)) (Tells.ok (ya0 (by simp; omega)) (Tells.ok (inI (by omega) (by omega)) (hK _ ⟨k + 1, by dsimp only; omega, by omega, ?_⟩ (by dsimp only; omega))))
    rw [ht, List.map_append, ← List.append_assoc]
    rfl
   ·have hk : k = vars.length := by omega
    subst hk
    rw [List.take_length]
    have nodes : ∀ n ∈ t, VOK 300 n.2.1 ∧ n.2.2.2.1.length ≤ 100000 := fun n hn => by
     obtain ⟨⟨a1, a2, a3⟩, _⟩ := hG n hn
     exact ⟨⟨a1.1, a1.2.1, a1.2.2.1, by have := a1.2.2.2; omega⟩, by omega⟩
    have ho : VOK 300 other.2.1 := ⟨h3.1, h3.2.1, h3.2.2, by omega⟩
    have hv : ∀ b ∈ vars, VOK 300 b.2.1 := fun b hb => ⟨(h2 b hb).1, (h2 b hb).2.1, (h2 b hb).2.2, q3 b hb⟩
    have e1 : EvOK 2000000 300 t self vars := ⟨by omega, by omega, nodes, ⟨h1.1, h1.2.1, h1.2.2, by omega⟩, hv⟩
    have e2 : EvOK 2000000 300 t self (([other] ++ vars) ++ vars.map fun b => (b.1, other.2.1, ())) := ⟨by omega, by omega, nodes, ⟨h1.1, h1.2.1, h1.2.2, by omega⟩, fun b hb => by
     simp only [List.mem_append, List.mem_singleton, List.mem_map] at hb
     rcases hb with (rfl | hb) | ⟨x, _, rfl⟩
     ·exact ho
     ·exact hv b hb
     ·exact ho⟩
    have cong : ug4 2000000 self vars t t.length = ug4 2000000 self (([other] ++ vars) ++ vars.map fun b => (b.1, other.2.1, ())) t t.length := vt5 (fun n hn => by
     by_cases hb : ub1 n = true
     ·left
      unfold u46
      by_cases a1 : n.1 = 1
      ·rw [if_pos a1, if_pos a1]
      ·by_cases a3 : n.1 = 3
       ·rw [if_neg a1, if_neg a1, if_pos a3, if_pos a3]
       ·have a2 : n.1 = 2 := by simp [ub1, a1, a3] at hb; exact hb
        rw [if_neg a1, if_neg a1, if_neg a3, if_neg a3, look_more _ _ _ (fun h => g2 n hn a2 h.symm)]
     ·right
      simpa using hb) _ (by omega)
    obtain ⟨x, x1, l1, x2, _, x3⟩ := vw7 e1 (by omega) (by omega)
    obtain ⟨y, y1, l2, y2, _, y3⟩ := vw7 e2 (by omega) (by simp; omega)
    rw [cong] at x2
    rw [x2] at y2
    cases y2
    subst x3 y3
    refine Tells.bindE x1 (Tells.bindE y1 ?_)
    refine Tells.ok (by simp) (Tells.ok (by simp) w21)
end Go.Proofs.YtgicljncknbgcaaGreat.Abs
