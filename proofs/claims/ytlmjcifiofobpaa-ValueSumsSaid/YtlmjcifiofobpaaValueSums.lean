/- ValueSums of this seat: for every input the law returns true, and its arguments read as they did: the plain part, and the last step. -/
import Derived.Test.YtlmjcifiofobpaaSums
import Derived.Test.YtlmjcifiofobpaaSummed
import Derived.Test.YtlmjcifiofobpaaRows
import Derived.WalkKit
import Derived.ProofKit
import Derived.OpenShut
import Derived.Lib.SmallJoins
namespace Go.Proofs.Ytlmjcifiofobpaa.valueSums
open Go.ChangeShapes Go.WideShapes Go.ChangeAt Go.RowKit
set_option linter.unusedVariables false

theorem own : ownKnob Try.prog.godebug = none := by kernel_rfl
theorem walk (a b : Val) (ha : a.ok) (hb : b.ok) (w : World) : Calls Try.prog 11 #[a.enc, b.enc] w fun x w' => x = .returned (.bool true) ∧ Below w.heap.size w w' := by
  refine sums_walk a b (vadd a b).1 (vmul a b).1 (vneg b).1 (vsub a b).1 (mayF a) (mayF b) (vadd a b).2 (vmul a b).2 (vneg b).2 (vsub a b).2 w (may_calls a) (may_calls b)
    (vadd_calls a b ha hb) ?_ (vmul_calls a b ha hb) ?_ ?_ ?_ ?_ (vneg_calls b hb) (vneg_e b hb) (vsub_calls a b ha hb) ?_ ?_
  · rw [vadd_comm a b ha hb]
    exact vadd_calls b a hb ha
  · rw [vmul_comm a b ha hb]
    exact vmul_calls b a hb ha
  · intro _ _ W
    have h := may_calls (vadd a b).1 W
    have e : mayF (vadd a b).1 = true := by unfold vadd; rw [doF_eq _ _ a b ha hb]; exact may_doS _ _ a b
    rw [e] at h
    exact h
  · intro _ _ W
    have h := may_calls (vmul a b).1 W
    have e : mayF (vmul a b).1 = true := by unfold vmul; rw [doF_eq _ _ a b ha hb]; exact may_doS _ _ a b
    rw [e] at h
    exact h
  · intro h
    unfold vadd
    rw [doF_eq _ _ a b ha hb]
    exact doS_null _ _ a b h
  · intro h W
    have hc := vadd_calls a (vneg b).1 ha (vneg_ok b hb) W
    rw [vsub_neg a b ha hb h] at hc
    exact hc
  · intro _ hm h W
    have hc := vneg_calls (vneg b).1 (vneg_ok b hb) W
    rw [vneg_back b hb hm h] at hc
    exact hc

theorem open_val {H : Type} {enc : TypeId × Value → H} {W : World} {base : Nat} {sp : Nat → Bool} {hd : Bool} {r : Reach} {b0 : Nat} {v : Value} {d : DataW H} {p : List MemPlace}
    (hv : Value.okWide Try.prog W r b0 38 v) (h : DataW.Trod enc Try.prog W base sp hd 38 v d p) : ∃ x : Val, x.ok ∧ v = x.enc := by
  obtain ⟨v0, v1, v2, y0, y1, y2, n, rfl, _, _, h0, h1, h2⟩ := Joins.open_agg3 Try.underlying38 (by kernel_rfl) (by kernel_rfl) hv h
  obtain ⟨k, e0, _, w0⟩ := DataW.trod_int Try.underlying5 h0
  obtain ⟨m, e1, _, w1⟩ := DataW.trod_int Try.underlying2 h1
  obtain ⟨s, e2, _, _⟩ := DataW.trod_string Try.underlying9 h2
  simp only [List.cons.injEq, and_true] at e0 e1 e2
  subst e0 e1 e2
  exact ⟨⟨k, m, s⟩, ⟨(bounds_u8 w0).1, (bounds_u8 w0).2, bounds_i64 w1⟩, rfl⟩

set_option maxRecDepth 100000 in
theorem lifted (os : Os) (started : os.Started) (H : Type) (enc : TypeId × Value → H) :
    ReturnsInHanded {} Try.checked os 11 .any (Rows.valueSumsSpec.pre6 enc Try.prog Try.f11 Rows.valueSumsRow.domain false) (Rows.valueSumsSpec.post enc Try.prog Try.f11 false true false false) := by
  refine returnsInHanded_of_change (C := Try.checked) own started (by kernel_rfl) Try.func11
    (ChangeSpec.witness6 (enc := enc) (C := Try.checked) false ⟨#[], #[.agg #[.int .u8 0, .int .i64 0, .string ⟨#[]⟩], .agg #[.int .u8 0, .int .i64 0, .string ⟨#[]⟩]], []⟩ 11 (by kernel_rfl) (by kernel_rfl) (by kernel_rfl) (by kernel_rfl)) ?_
  intro W base args ds gs before hval0 hW hcnd _
  have hval : ∀ (j : Nat) t v, Try.f11.params[j]? = some t → args[j]? = some v → Value.okWide Try.prog W .any base t v := hval0
  have hW' := hW
  obtain ⟨p, q, hA0, hV, rfl, hfz, hnd⟩ := hW
  have hA : DataW.TrodAll enc Try.prog W 0 (fun _ => true) true Try.f11.params.toList args.toList ds p := hA0
  rw [Try.params11] at hA hval
  obtain ⟨v0, vs0, d0, ds0, p0, q0, hargs, rfl, rfl, h0, r0⟩ := trodAll_cons hA
  obtain ⟨v1, vs1, d1, ds1, p1, q1, rfl, rfl, rfl, h1, r1⟩ := trodAll_cons r0
  obtain ⟨rfl, rfl, rfl⟩ := trodAll_nil r1
  obtain rfl : args = #[v0, v1] := by cases args; simp_all
  obtain ⟨rfl, rfl⟩ := trodVars_none hV
  obtain ⟨a0, o0, e0⟩ := open_val (hval 0 38 v0 rfl rfl) h0
  obtain ⟨a1, o1, e1⟩ := open_val (hval 1 38 v1 rfl rfl) h1
  clear hA0 hval0
  simp only [List.append_nil] at hW'
  have hwk := walk a0 a1 o0 o1 W
  rw [← e0, ← e1] at hwk
  refine hwk.mono fun e W' ⟨he, hg⟩ => ?_
  subst he
  exact ⟨_, rfl, law_post laid (by decide +kernel) rfl rfl Try.underlying4 hW' rfl rfl rfl hg⟩

theorem over : Rows.valueSumsRow.holds Try.pinned (OpenSpec.ofChange Rows.valueSumsSpec) :=
  OpenClaim.holds_of_wide 11 Try.f11 rfl rfl rfl rfl rfl rfl rfl ⟨rfl, rfl, rfl, rfl, rfl⟩ rfl rfl rfl rfl rfl (by kernel_rfl) Try.func11 (by kernel_rfl)
    (of_decide_eq_true (by kernel_rfl)) (by unfold Func.isWrapper; first | (rw [if_pos (by decide +kernel)]; kernel_rfl) | (rw [if_neg (by decide +kernel)]; exact ⟨rfl, rfl⟩))
    (fun os started H enc _ => lifted os started H enc)

theorem proved : Rows.ValueSumsSaid :=
  over
#print axioms proved
end Go.Proofs.Ytlmjcifiofobpaa.valueSums
