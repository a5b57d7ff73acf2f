/- NumTurns of this seat: for every input the law returns true, and its arguments read as they did: the last step of its proof. -/
import Derived.Test.YtlmjcifiofobpaaTurns
import Derived.Test.YtlmjcifiofobpaaRows
import Derived.WalkKit
import Derived.ProofKit
import Derived.OpenShut
namespace Go.Proofs.Ytlmjcifiofobpaa.numTurns
open Go.ChangeShapes Go.WideShapes Go.ChangeAt Go.RowKit
set_option linter.unusedVariables false      -- a walk need not use every 'w<i>' (that an integer argument fits its kind)

theorem own : ownKnob Try.prog.godebug = none := by kernel_rfl

theorem walk (a0 : Int) (a1 : Int) (w0 : (Lit.int .i64 a0).wf = true) (w1 : (Lit.int .i64 a1).wf = true) (w : World) :
    Calls Try.prog 6 #[.int .i64 a0, .int .i64 a1] w fun e w' => e = .returned (.bool true) ∧ Below w.heap.size w w' := by
  have ha : I64 a0 := wf_I64 w0
  have hb : I64 a1 := wf_I64 w1
  have k2 := add_tells a1 a0 hb ha
  have k4 := mul_tells a1 a0 hb ha
  have k6 := muldec_tells a1 a0 hb ha
  rw [Int.add_comm] at k2
  rw [Int.mul_comm] at k4
  rw [overV_comm] at k6
  refine turns_walk a0 a1 _ _ _ _ _ _ _ _ _ _ (a0.tmod a1) w (add_tells a0 a1 ha hb) k2 (mul_tells a0 a1 ha hb) k4 (muldec_tells a0 a1 ha hb) k6 (sub_tells a0 a1 ha hb) (sub_tells a1 a0 hb ha)
    (fun h => (mod_tells a0 a1 ha hb h).inside (mod_inside a0 a1 ha)) ?_ ?_
  · by_cases h1 : I64 (a0 - a1)
    · by_cases h2 : I64 (a1 - a0)
      · rw [toldE_in h1, toldE_in h2, toldV_in h1, toldV_in h2]
        refine .inr (.inr ⟨rfl, rfl, ?_⟩)
        unfold I64 at h1 h2
        rw [bne_eq_false_iff_eq]
        unfold wrap64
        omega
      · rw [toldE_in h1, toldE_out h2]
        exact .inr (.inl ⟨rfl, rfl⟩)
    · rw [toldE_out h1]
      exact .inl rfl
  · intro h0
    have h5 := mod_inside a0 a1 ha
    unfold I64 at *
    have hl : (a0.tmod a1).natAbs < a1.natAbs := by
      rw [Int.natAbs_tmod]
      exact Nat.mod_lt _ (by omega)
    refine ⟨by omega, by omega, fun h => by omega, fun h => by omega, ?_⟩
    by_cases hr : a0.tmod a1 = 0
    · exact .inl hr
    · refine .inr ?_
      rw [decide_eq_decide]
      obtain ⟨s1, s2, s3⟩ := tmod_sides a0 a1
      by_cases h : 0 ≤ a0
      · have := s2 h
        omega
      · have := s3 (by omega)
        omega

set_option maxRecDepth 100000 in
theorem lifted (os : Os) (started : os.Started) (H : Type) (enc : TypeId × Value → H) :
    ReturnsInHanded {} Try.checked os 6 .any (Rows.numTurnsSpec.pre6 enc Try.prog Try.f6 Rows.numTurnsRow.domain false) (Rows.numTurnsSpec.post enc Try.prog Try.f6 false true false false) := by
  refine returnsInHanded_of_change (C := Try.checked) own started (by kernel_rfl) Try.func6
    (ChangeSpec.witness6 (enc := enc) (C := Try.checked) false ⟨#[], #[.int .i64 0, .int .i64 0], []⟩ 8 (by kernel_rfl) (by kernel_rfl) (by kernel_rfl) (by kernel_rfl)) ?_
  intro W base args ds gs before hval0 hW hcnd _
  have hval : ∀ (j : Nat) t v, Try.f6.params[j]? = some t → args[j]? = some v → Value.okWide Try.prog W .any base t v := hval0
  have hW' := hW
  obtain ⟨p, q, hA0, hV, rfl, hfz, hnd⟩ := hW
  have hA : DataW.TrodAll enc Try.prog W 0 (fun _ => true) true Try.f6.params.toList args.toList ds p := hA0
  rw [Try.params6] at hA hval
  obtain ⟨v0, vs0, d0, ds0, p0, q0, hargs, rfl, rfl, h0, r0⟩ := trodAll_cons hA
  obtain ⟨v1, vs1, d1, ds1, p1, q1, rfl, rfl, rfl, h1, r1⟩ := trodAll_cons r0
  obtain ⟨rfl, rfl, rfl⟩ := trodAll_nil r1
  obtain rfl : args = #[v0, v1] := by cases args; simp_all
  obtain ⟨rfl, rfl⟩ := trodVars_none hV
  obtain ⟨a0, rfl, rfl, rfl, w0⟩ := open_int Try.underlying2 (hval 0 2 v0 rfl rfl) h0
  obtain ⟨a1, rfl, rfl, rfl, w1⟩ := open_int Try.underlying2 (hval 1 2 v1 rfl rfl) h1
  clear hA0 hval0
  simp only [List.append_nil] at hW'
  refine (walk a0 a1 w0 w1 W).mono fun e W' ⟨he, hg⟩ => ?_
  subst he
  exact ⟨_, rfl, law_post laid (by decide +kernel) rfl rfl Try.underlying4 hW' rfl rfl rfl hg⟩

theorem over : Rows.numTurnsRow.holds Try.pinned (OpenSpec.ofChange Rows.numTurnsSpec) :=
  OpenClaim.holds_of_wide 6 Try.f6 rfl rfl rfl rfl rfl rfl rfl ⟨rfl, rfl, rfl, rfl, rfl⟩ rfl rfl rfl rfl rfl (by kernel_rfl) Try.func6 (by kernel_rfl)
    (of_decide_eq_true (by kernel_rfl)) (by unfold Func.isWrapper; first | (rw [if_pos (by decide +kernel)]; kernel_rfl) | (rw [if_neg (by decide +kernel)]; exact ⟨rfl, rfl⟩))
    (fun os started H enc _ => lifted os started H enc)

theorem proved : Rows.NumTurnsSaid :=
  over
#print axioms proved
end Go.Proofs.Ytlmjcifiofobpaa.numTurns
