/- NumNear of this seat: for every input the law returns true, and its arguments read as they did: the last step of its proof. -/
import Derived.Test.YtlmjcifiofobpaaNear
import Derived.Test.YtlmjcifiofobpaaRows
import Derived.WalkKit
import Derived.ProofKit
import Derived.OpenShut
namespace Go.Proofs.Ytlmjcifiofobpaa.numNear
open Go.ChangeShapes Go.WideShapes Go.ChangeAt Go.RowKit
set_option linter.unusedVariables false      -- a walk need not use every 'w<i>' (that an integer argument fits its kind)

theorem own : ownKnob Try.prog.godebug = none := by kernel_rfl

theorem walk (a0 : Int) (a1 : Int) (w0 : (Lit.int .i32 a0).wf = true) (w1 : (Lit.int .i32 a1).wf = true) (w : World) :
    Calls Try.prog 3 #[.int .i32 a0, .int .i32 a1] w fun e w' => e = .returned (.bool true) ∧ Below w.heap.size w w' := by
  obtain ⟨p1, p2⟩ := bounds_i32 w0
  obtain ⟨q1, q2⟩ := bounds_i32 w1
  have ha : I64 a0 := by unfold I64; omega
  have hb : I64 a1 := by unfold I64; omega
  by_cases h0 : a1 = 0
  · subst h0
    have k := muldec_tells a0 0 ha hb
    rw [overV_exact a0 0 10000 0 (by omega) (by omega)] at k
    exact near_zero a0 w p1 p2 k
  · have hxy : (a0 * a1).natAbs ≤ 4611686018427387904 := by
      rw [Int.natAbs_mul]
      exact Nat.mul_le_mul (show a0.natAbs ≤ 2147483648 by omega) (show a1.natAbs ≤ 2147483648 by omega)
    obtain ⟨m1, m2, m3⟩ := over_near a0 a1 10000 (by omega)
    obtain ⟨n1, n2, n3⟩ := over_near a0 10000 a1 h0
    have hm : I64 (overV a0 a1 10000) := by unfold I64; omega
    have hq : I64 (overV a0 10000 a1) := by
      have hle : (overV a0 10000 a1).natAbs ≤ (overV a0 10000 a1 * a1).natAbs := by
        rw [Int.natAbs_mul]
        exact Nat.le_mul_of_pos_right _ (by omega)
      unfold I64
      omega
    refine near_walk a0 a1 (overV a0 a1 10000) (a0 * a1) (overV a0 10000 a1) (overV a0 10000 a1 * a1) w p1 p2 q1 q2 ((muldec_tells a0 a1 ha hb).inside hm) rfl (by omega) (by omega) (by omega) (by omega) ?_
      (fun _ => (divdec_tells a0 a1 ha hb h0).inside hq) rfl (fun _ => ⟨n1, n2⟩) (by simpa using h0) ?_
    · intro h
      rw [m3 (by omega)]
      rfl
    · intro h
      rw [n3 h]
      rfl

set_option maxRecDepth 100000 in
theorem lifted (os : Os) (started : os.Started) (H : Type) (enc : TypeId × Value → H) :
    ReturnsInHanded {} Try.checked os 3 .any (Rows.numNearSpec.pre6 enc Try.prog Try.f3 Rows.numNearRow.domain false) (Rows.numNearSpec.post enc Try.prog Try.f3 false true false false) := by
  refine returnsInHanded_of_change (C := Try.checked) own started (by kernel_rfl) Try.func3
    (ChangeSpec.witness6 (enc := enc) (C := Try.checked) false ⟨#[], #[.int .i32 0, .int .i32 0], []⟩ 8 (by kernel_rfl) (by kernel_rfl) (by kernel_rfl) (by kernel_rfl)) ?_
  intro W base args ds gs before hval0 hW hcnd _
  have hval : ∀ (j : Nat) t v, Try.f3.params[j]? = some t → args[j]? = some v → Value.okWide Try.prog W .any base t v := hval0
  have hW' := hW
  obtain ⟨p, q, hA0, hV, rfl, hfz, hnd⟩ := hW
  have hA : DataW.TrodAll enc Try.prog W 0 (fun _ => true) true Try.f3.params.toList args.toList ds p := hA0
  rw [Try.params3] at hA hval
  obtain ⟨v0, vs0, d0, ds0, p0, q0, hargs, rfl, rfl, h0, r0⟩ := trodAll_cons hA
  obtain ⟨v1, vs1, d1, ds1, p1, q1, rfl, rfl, rfl, h1, r1⟩ := trodAll_cons r0
  obtain ⟨rfl, rfl, rfl⟩ := trodAll_nil r1
  obtain rfl : args = #[v0, v1] := by cases args; simp_all
  obtain ⟨rfl, rfl⟩ := trodVars_none hV
  obtain ⟨a0, rfl, rfl, rfl, w0⟩ := open_int Try.underlying21 (hval 0 21 v0 rfl rfl) h0
  obtain ⟨a1, rfl, rfl, rfl, w1⟩ := open_int Try.underlying21 (hval 1 21 v1 rfl rfl) h1
  clear hA0 hval0
  simp only [List.append_nil] at hW'
  refine (walk a0 a1 w0 w1 W).mono fun e W' ⟨he, hg⟩ => ?_
  subst he
  exact ⟨_, rfl, law_post laid (by decide +kernel) rfl rfl Try.underlying4 hW' rfl rfl rfl hg⟩

theorem over : Rows.numNearRow.holds Try.pinned (OpenSpec.ofChange Rows.numNearSpec) :=
  OpenClaim.holds_of_wide 3 Try.f3 rfl rfl rfl rfl rfl rfl rfl ⟨rfl, rfl, rfl, rfl, rfl⟩ rfl rfl rfl rfl rfl (by kernel_rfl) Try.func3 (by kernel_rfl)
    (of_decide_eq_true (by kernel_rfl)) (by unfold Func.isWrapper; first | (rw [if_pos (by decide +kernel)]; kernel_rfl) | (rw [if_neg (by decide +kernel)]; exact ⟨rfl, rfl⟩))
    (fun os started H enc _ => lifted os started H enc)

theorem proved : Rows.NumNearSaid :=
  over
#print axioms proved
end Go.Proofs.Ytlmjcifiofobpaa.numNear
