/- NumBack of this seat: for every input the law returns true, and its arguments read as they did: the last step of its proof. -/
import Derived.Test.YtlmjcifiofobpaaBack
import Derived.Test.YtlmjcifiofobpaaRows
import Derived.WalkKit
import Derived.ProofKit
import Derived.OpenShut
namespace Go.Proofs.Ytlmjcifiofobpaa.numBack
open Go.ChangeShapes Go.WideShapes Go.ChangeAt Go.RowKit
set_option linter.unusedVariables false      -- a walk need not use every 'w<i>' (that an integer argument fits its kind)

theorem own : ownKnob Try.prog.godebug = none := by kernel_rfl

theorem walk (a0 : Int) (a1 : Int) (w0 : (Lit.int .i64 a0).wf = true) (w1 : (Lit.int .i64 a1).wf = true) (w : World) :
    Calls Try.prog 5 #[.int .i64 a0, .int .i64 a1] w fun e w' => e = .returned (.bool true) ∧ Below w.heap.size w w' := by
  have ha : I64 a0 := wf_I64 w0
  have hb : I64 a1 := wf_I64 w1
  have k7 := muldec_tells a0 10000 ha (by unfold I64; omega)
  rw [overV_exact a0 10000 10000 a0 (by omega) rfl] at k7
  have fin : ∀ q h r : Int, Tells 20 #[.int .i64 a0, .int .i64 a1] q h → ((h == 0) = true → Tells 21 #[.int .i64 a0, .int .i64 a1] r 0) →
      ((h == 0) = true → ∃ m : Int, q * a1 = m ∧ -9223372036854775808 ≤ m ∧ m ≤ 9223372036854775807 ∧ (wrap64 (m + r) != a0) = false) →
      Calls Try.prog 5 #[.int .i64 a0, .int .i64 a1] w fun e w' => e = .returned (.bool true) ∧ Below w.heap.size w w' := by
    intro q h r k5 k6 hq
    refine back_walk a0 a1 _ _ _ _ q h r w (add_tells a0 a1 ha hb) ?_ (mul_tells a0 a1 ha hb) ?_ k5 k6 (k7.inside ha) ?_ hq ha
    · intro he
      by_cases hs : I64 (a0 + a1)
      · rw [toldV_in hs]
        have k := sub_tells _ _ hs hb
        rw [Int.add_sub_cancel] at k
        exact k.inside ha
      · rw [toldE_out hs] at he
        exact absurd he (by decide)
    · intro hg hz
      have hz' : a1 ≠ 0 := by simpa using hz
      by_cases hs : I64 (a0 * a1)
      · rw [toldV_in hs]
        have k := quo_tells _ _ hs hb hz'
        rw [Int.mul_tdiv_cancel _ hz'] at k
        exact k.inside ha
      · rw [toldE_out hs] at hg
        exact absurd hg (by decide)
    · intro hz
      have hz' : a0 ≠ 0 := by simpa using hz
      have k := divdec_tells a0 a0 ha ha hz'
      rw [overV_exact a0 10000 a0 10000 hz' (Int.mul_comm _ _)] at k
      exact k.inside (by unfold I64; omega)
  by_cases h0 : a1 = 0
  · subst h0
    exact fin 0 10 0 (quo_tells0 a0) (fun h => absurd h (by decide)) (fun h => absurd h (by decide))
  · refine fin _ _ _ (quo_tells a0 a1 ha hb h0) (fun _ => (mod_tells a0 a1 ha hb h0).inside (mod_inside a0 a1 ha)) ?_
    intro h
    by_cases hs : I64 (a0.tdiv a1)
    · rw [toldV_in hs]
      have e := Int.tdiv_mul_add_tmod a0 a1
      obtain ⟨t1, t2, t3⟩ := tmod_sides a0 a1
      unfold I64 at ha
      refine ⟨_, rfl, ?_, ?_, ?_⟩
      · by_cases hp : 0 ≤ a0
        · have := t2 hp
          omega
        · have := t3 (by omega)
          omega
      · by_cases hp : 0 ≤ a0
        · have := t2 hp
          omega
        · have := t3 (by omega)
          omega
      · rw [e, bne_eq_false_iff_eq]
        unfold wrap64
        omega
    · rw [toldE_out hs] at h
      exact absurd h (by decide)

set_option maxRecDepth 100000 in
theorem lifted (os : Os) (started : os.Started) (H : Type) (enc : TypeId × Value → H) :
    ReturnsInHanded {} Try.checked os 5 .any (Rows.numBackSpec.pre6 enc Try.prog Try.f5 Rows.numBackRow.domain false) (Rows.numBackSpec.post enc Try.prog Try.f5 false true false false) := by
  refine returnsInHanded_of_change (C := Try.checked) own started (by kernel_rfl) Try.func5
    (ChangeSpec.witness6 (enc := enc) (C := Try.checked) false ⟨#[], #[.int .i64 0, .int .i64 0], []⟩ 8 (by kernel_rfl) (by kernel_rfl) (by kernel_rfl) (by kernel_rfl)) ?_
  intro W base args ds gs before hval0 hW hcnd _
  have hval : ∀ (j : Nat) t v, Try.f5.params[j]? = some t → args[j]? = some v → Value.okWide Try.prog W .any base t v := hval0
  have hW' := hW
  obtain ⟨p, q, hA0, hV, rfl, hfz, hnd⟩ := hW
  have hA : DataW.TrodAll enc Try.prog W 0 (fun _ => true) true Try.f5.params.toList args.toList ds p := hA0
  rw [Try.params5] at hA hval
  obtain ⟨v0, vs0, d0, ds0, p0, q0, hargs, rfl, rfl, h0, r0⟩ := trodAll_cons hA
  obtain ⟨v1, vs1, d1, ds1, p1, q1, rfl, rfl, rfl, h1, r1⟩ := trodAll_cons r0
  obtain ⟨rfl, rfl, rfl⟩ := trodAll_nil r1
  obtain rfl : args = #[v0, v1] := by cases args; simp_all
  obtain ⟨rfl, rfl⟩ := trodVars_none hV
  obtain ⟨a0, rfl, rfl, rfl, w0⟩ := open_int Try.underlying2 (hval 0 2 v0 rfl rfl) h0
  obtain ⟨a1, rfl, rfl, rfl, w1⟩ := open_int Try.underlying2 (hval 1 2 v1 rfl rfl) h1
  clear hA0 hval0
  simp only [List.append_nil] at hW'
  refine (walk a0 a1 w0 w1 W).mono fun e W' ⟨he, hg⟩ => ?_
  subst he
  exact ⟨_, rfl, law_post laid (by decide +kernel) rfl rfl Try.underlying4 hW' rfl rfl rfl hg⟩

theorem over : Rows.numBackRow.holds Try.pinned (OpenSpec.ofChange Rows.numBackSpec) :=
  OpenClaim.holds_of_wide 5 Try.f5 rfl rfl rfl rfl rfl rfl rfl ⟨rfl, rfl, rfl, rfl, rfl⟩ rfl rfl rfl rfl rfl (by kernel_rfl) Try.func5 (by kernel_rfl)
    (of_decide_eq_true (by kernel_rfl)) (by unfold Func.isWrapper; first | (rw [if_pos (by decide +kernel)]; kernel_rfl) | (rw [if_neg (by decide +kernel)]; exact ⟨rfl, rfl⟩))
    (fun os started H enc _ => lifted os started H enc)

theorem proved : Rows.NumBackSaid :=
  over
#print axioms proved
end Go.Proofs.Ytlmjcifiofobpaa.numBack
