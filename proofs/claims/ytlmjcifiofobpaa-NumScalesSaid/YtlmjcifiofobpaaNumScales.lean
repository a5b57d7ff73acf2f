/- NumScales of this seat: for every input the law returns true, and its arguments read as they did: the last step of its proof. -/
import Derived.Test.YtlmjcifiofobpaaScales
import Derived.Test.YtlmjcifiofobpaaRows
import Derived.WalkKit
import Derived.ProofKit
import Derived.OpenShut
namespace Go.Proofs.Ytlmjcifiofobpaa.numScales
open Go.ChangeShapes Go.WideShapes Go.ChangeAt Go.RowKit
set_option linter.unusedVariables false      -- a walk need not use every 'w<i>' (that an integer argument fits its kind)

theorem own : ownKnob Try.prog.godebug = none := by kernel_rfl

theorem walk (a0 : Int) (a1 : Int) (w0 : (Lit.int .i64 a0).wf = true) (w1 : (Lit.int .i64 a1).wf = true) (w : World) :
    Calls Try.prog 4 #[.int .i64 a0, .int .i64 a1] w fun e w' => e = .returned (.bool true) ∧ Below w.heap.size w w' := by
  have ha : I64 a0 := wf_I64 w0
  have hb : I64 a1 := wf_I64 w1
  by_cases h1 : I64 (a0 * 10000)
  · by_cases h2 : I64 (a1 * 10000)
    · have hs : I64 (a0 + a1) := by unfold I64 at *; omega
      have k4 := add_tells _ _ h1 h2
      rw [← Int.add_mul] at k4
      have k7 := muldec_tells _ _ h1 h2
      rw [overV_exact (a0 * 10000) (a1 * 10000) 10000 (a0 * a1 * 10000) (by omega) (by rw [Int.mul_assoc, Int.mul_assoc, Int.mul_comm 10000, Int.mul_assoc, Int.mul_assoc])] at k7
      have hm : I64 (toldV (a0 * a1)) := by unfold toldV; split <;> unfold I64 at * <;> omega
      have fin : ∀ c g3 : Int, Tells 14 #[.int .i64 (a0 * 10000), .int .i64 (a1 * 10000)] c g3 → Tells 14 #[.int .i64 a0, .int .i64 a1] c g3 →
          Calls Try.prog 4 #[.int .i64 a0, .int .i64 a1] w fun e w' => e = .returned (.bool true) ∧ Below w.heap.size w w' := by
        intro c g3 k9 k10
        refine scales_in a0 a1 _ _ _ _ _ _ _ _ _ 0 _ _ c g3 w ((scale_tells a0 ha).inside h1) ((scale_tells a1 hb).inside h2) ((add_tells a0 a1 ha hb).inside hs) k4 (scale_tells _ hs)
          (mul_tells a0 a1 ha hb) k7 (scale_tells _ hm) k9 k10 ?_
        by_cases hp : I64 (a0 * a1)
        · rw [toldE_in hp, toldV_in hp]
          exact .inl ⟨rfl, by simp, by simp⟩
        · have hp' : ¬ I64 (a0 * a1 * 10000) := by unfold I64 at *; omega
          rw [toldE_out hp, toldV_out hp, toldE_out hp', toldV_out hp']
          exact .inr ⟨rfl, rfl, rfl⟩
      by_cases h0 : a1 = 0
      · subst h0
        exact fin 0 10 (divdec_tells0 _) (divdec_tells0 _)
      · have k9 := divdec_tells _ _ h1 h2 (by omega)
        rw [overV_scale] at k9
        exact fin _ _ k9 (divdec_tells a0 a1 ha hb h0)
    · exact scales_out a0 a1 _ _ _ _ w (scale_tells a0 ha) (scale_tells a1 hb) (.inr ⟨by rw [toldE_in h1]; rfl, by rw [toldE_out h2]; rfl⟩)
  · exact scales_out a0 a1 _ _ _ _ w (scale_tells a0 ha) (scale_tells a1 hb) (.inl (by rw [toldE_out h1]; rfl))

set_option maxRecDepth 100000 in
theorem lifted (os : Os) (started : os.Started) (H : Type) (enc : TypeId × Value → H) :
    ReturnsInHanded {} Try.checked os 4 .any (Rows.numScalesSpec.pre6 enc Try.prog Try.f4 Rows.numScalesRow.domain false) (Rows.numScalesSpec.post enc Try.prog Try.f4 false true false false) := by
  refine returnsInHanded_of_change (C := Try.checked) own started (by kernel_rfl) Try.func4
    (ChangeSpec.witness6 (enc := enc) (C := Try.checked) false ⟨#[], #[.int .i64 0, .int .i64 0], []⟩ 8 (by kernel_rfl) (by kernel_rfl) (by kernel_rfl) (by kernel_rfl)) ?_
  intro W base args ds gs before hval0 hW hcnd _
  have hval : ∀ (j : Nat) t v, Try.f4.params[j]? = some t → args[j]? = some v → Value.okWide Try.prog W .any base t v := hval0
  have hW' := hW
  obtain ⟨p, q, hA0, hV, rfl, hfz, hnd⟩ := hW
  have hA : DataW.TrodAll enc Try.prog W 0 (fun _ => true) true Try.f4.params.toList args.toList ds p := hA0
  rw [Try.params4] at hA hval
  obtain ⟨v0, vs0, d0, ds0, p0, q0, hargs, rfl, rfl, h0, r0⟩ := trodAll_cons hA
  obtain ⟨v1, vs1, d1, ds1, p1, q1, rfl, rfl, rfl, h1, r1⟩ := trodAll_cons r0
  obtain ⟨rfl, rfl, rfl⟩ := trodAll_nil r1
  obtain rfl : args = #[v0, v1] := by cases args; simp_all
  obtain ⟨rfl, rfl⟩ := trodVars_none hV
  obtain ⟨a0, rfl, rfl, rfl, w0⟩ := open_int Try.underlying2 (hval 0 2 v0 rfl rfl) h0
  obtain ⟨a1, rfl, rfl, rfl, w1⟩ := open_int Try.underlying2 (hval 1 2 v1 rfl rfl) h1
  clear hA0 hval0
  simp only [List.append_nil] at hW'
  refine (walk a0 a1 w0 w1 W).mono fun e W' ⟨he, hg⟩ => ?_
  subst he
  exact ⟨_, rfl, law_post laid (by decide +kernel) rfl rfl Try.underlying4 hW' rfl rfl rfl hg⟩

theorem over : Rows.numScalesRow.holds Try.pinned (OpenSpec.ofChange Rows.numScalesSpec) :=
  OpenClaim.holds_of_wide 4 Try.f4 rfl rfl rfl rfl rfl rfl rfl ⟨rfl, rfl, rfl, rfl, rfl⟩ rfl rfl rfl rfl rfl (by kernel_rfl) Try.func4 (by kernel_rfl)
    (of_decide_eq_true (by kernel_rfl)) (by unfold Func.isWrapper; first | (rw [if_pos (by decide +kernel)]; kernel_rfl) | (rw [if_neg (by decide +kernel)]; exact ⟨rfl, rfl⟩))
    (fun os started H enc _ => lifted os started H enc)

theorem proved : Rows.NumScalesSaid :=
  over
#print axioms proved
end Go.Proofs.Ytlmjcifiofobpaa.numScales
