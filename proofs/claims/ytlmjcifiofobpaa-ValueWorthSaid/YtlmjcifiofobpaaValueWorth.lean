/- ValueWorth of this seat: for every input the law returns true, and its arguments read as they did: the plain part, and the last step. -/
import Derived.Test.YtlmjcifiofobpaaWorth
import Derived.Test.YtlmjcifiofobpaaOrdered
import Derived.Test.YtlmjcifiofobpaaRows
import Derived.WalkKit
import Derived.ProofKit
import Derived.OpenShut
import Derived.Lib.SmallJoins
namespace Go.Proofs.Ytlmjcifiofobpaa.valueWorth
open Go.ChangeShapes Go.WideShapes Go.ChangeAt Go.RowKit
set_option linter.unusedVariables false

theorem own : ownKnob Try.prog.godebug = none := by kernel_rfl
theorem add_in (a : Val) (hk : a.k = 1) (h : I64 (a.n * 10000)) : vadd a ⟨2, 0, ⟨#[]⟩⟩ = (⟨2, a.n * 10000, ⟨#[]⟩⟩, 0) := by
  have hd : decF a = (⟨2, a.n * 10000, ⟨#[]⟩⟩, 0) := by unfold decF; rw [if_neg (by omega), if_pos h]
  have hal : alikeF [a, ⟨2, 0, ⟨#[]⟩⟩] = ([⟨2, a.n * 10000, ⟨#[]⟩⟩, ⟨2, 0, ⟨#[]⟩⟩], false, 0) := by
    unfold alikeF anyBad anyNull kindOf allDec
    simp [badV, isNum, hk, asDec, decF, h]
  unfold vadd doF
  rw [hal]
  simp [nAdd, toldF, toldV_in h, toldE_in h]
theorem add_out (a : Val) (hk : a.k = 1) (h : ¬ I64 (a.n * 10000)) : vadd a ⟨2, 0, ⟨#[]⟩⟩ = (Val.zero, 9) := by
  have hd : decF a = (Val.zero, 9) := by unfold decF; rw [if_neg (by omega), if_neg h]
  have hal : alikeF [a, ⟨2, 0, ⟨#[]⟩⟩] = ([], false, 9) := by
    unfold alikeF anyBad anyNull kindOf allDec
    simp [badV, isNum, hk, decF, h]
  unfold vadd doF
  rw [hal]
  simp
theorem walk (a b c : Val) (ha : a.ok) (hb : b.ok) (hc : c.ok) (w : World) : Calls Try.prog 8 #[a.enc, b.enc, c.enc] w fun x w' => x = .returned (.bool true) ∧ Below w.heap.size w w' := by
  have hz : Val.ok ⟨2, 0, ⟨#[]⟩⟩ := by unfold Val.ok I64; dsimp only; omega
  have ks := cmp_is a a ha ha
  rw [(cmpV_self a).1] at ks
  refine worth_walk a b c _ _ _ _ _ _ _ w (cmp_is a b ha hb) (cmp_is b c hb hc) (cmp_is a c ha hc) ks ?_ (cmpV_self a).2 ?_
  · cases h1 : (cmpV a b).2
    · exact .inl rfl
    · cases h2 : (cmpV b c).2
      · exact .inr (.inl ⟨rfl, rfl⟩)
      · obtain ⟨g1, g2, g3⟩ := cmpV_goes a b c h1 h2
        exact .inr (.inr ⟨rfl, rfl, g1, g2, g3⟩)
  · intro hk
    have hk1 : a.k = 1 := by simpa using hk
    by_cases h : I64 (a.n * 10000)
    · refine .inl ⟨a.n * 10000, fun W => ?_, fun W => ?_, rfl, h⟩
      · have hv := vadd_calls a ⟨2, 0, ⟨#[]⟩⟩ ha hz W
        rw [add_in a hk1 h] at hv
        exact hv
      · have hv := compare_calls a ⟨2, a.n * 10000, ⟨#[]⟩⟩ W ha.2.2 h
        have e : cmpV a ⟨2, a.n * 10000, ⟨#[]⟩⟩ = (0, true) := by
          rw [cmpV_num _ _ ⟨by unfold isNum; simp [hk1], rfl⟩]
          unfold worth
          rw [if_pos hk1, if_neg (by simp), cmpI_ordered.self]
        rw [e] at hv
        exact hv
    · refine .inr fun W => ?_
      have hv := vadd_calls a ⟨2, 0, ⟨#[]⟩⟩ ha hz W
      rw [add_out a hk1 h] at hv
      exact hv

theorem open_val {H : Type} {enc : TypeId × Value → H} {W : World} {base : Nat} {sp : Nat → Bool} {hd : Bool} {r : Reach} {b0 : Nat} {v : Value} {d : DataW H} {p : List MemPlace}
    (hv : Value.okWide Try.prog W r b0 38 v) (h : DataW.Trod enc Try.prog W base sp hd 38 v d p) : ∃ x : Val, x.ok ∧ v = x.enc := by
  obtain ⟨v0, v1, v2, y0, y1, y2, n, rfl, _, _, h0, h1, h2⟩ := Joins.open_agg3 Try.underlying38 (by kernel_rfl) (by kernel_rfl) hv h
  obtain ⟨k, e0, _, w0⟩ := DataW.trod_int Try.underlying5 h0
  obtain ⟨m, e1, _, w1⟩ := DataW.trod_int Try.underlying2 h1
  obtain ⟨s, e2, _, _⟩ := DataW.trod_string Try.underlying9 h2
  simp only [List.cons.injEq, and_true] at e0 e1 e2
  subst e0 e1 e2
  exact ⟨⟨k, m, s⟩, ⟨(bounds_u8 w0).1, (bounds_u8 w0).2, bounds_i64 w1⟩, rfl⟩

set_option maxRecDepth 100000 in
theorem lifted (os : Os) (started : os.Started) (H : Type) (enc : TypeId × Value → H) :
    ReturnsInHanded {} Try.checked os 8 .any (Rows.valueWorthSpec.pre6 enc Try.prog Try.f8 Rows.valueWorthRow.domain false) (Rows.valueWorthSpec.post enc Try.prog Try.f8 false true false false) := by
  refine returnsInHanded_of_change (C := Try.checked) own started (by kernel_rfl) Try.func8
    (ChangeSpec.witness6 (enc := enc) (C := Try.checked) false ⟨#[], #[.agg #[.int .u8 0, .int .i64 0, .string ⟨#[]⟩], .agg #[.int .u8 0, .int .i64 0, .string ⟨#[]⟩], .agg #[.int .u8 0, .int .i64 0, .string ⟨#[]⟩]], []⟩ 8 (by kernel_rfl) (by kernel_rfl) (by kernel_rfl) (by kernel_rfl)) ?_
  intro W base args ds gs before hval0 hW hcnd _
  have hval : ∀ (j : Nat) t v, Try.f8.params[j]? = some t → args[j]? = some v → Value.okWide Try.prog W .any base t v := hval0
  have hW' := hW
  obtain ⟨p, q, hA0, hV, rfl, hfz, hnd⟩ := hW
  have hA : DataW.TrodAll enc Try.prog W 0 (fun _ => true) true Try.f8.params.toList args.toList ds p := hA0
  rw [Try.params8] at hA hval
  obtain ⟨v0, vs0, d0, ds0, p0, q0, hargs, rfl, rfl, h0, r0⟩ := trodAll_cons hA
  obtain ⟨v1, vs1, d1, ds1, p1, q1, rfl, rfl, rfl, h1, r1⟩ := trodAll_cons r0
  obtain ⟨v2, vs2, d2, ds2, p2, q2, rfl, rfl, rfl, h2, r2⟩ := trodAll_cons r1
  obtain ⟨rfl, rfl, rfl⟩ := trodAll_nil r2
  obtain rfl : args = #[v0, v1, v2] := by cases args; simp_all
  obtain ⟨rfl, rfl⟩ := trodVars_none hV
  obtain ⟨a0, o0, e0⟩ := open_val (hval 0 38 v0 rfl rfl) h0
  obtain ⟨a1, o1, e1⟩ := open_val (hval 1 38 v1 rfl rfl) h1
  obtain ⟨a2, o2, e2⟩ := open_val (hval 2 38 v2 rfl rfl) h2
  clear hA0 hval0
  simp only [List.append_nil] at hW'
  have hwk := walk a0 a1 a2 o0 o1 o2 W
  rw [← e0, ← e1, ← e2] at hwk
  refine hwk.mono fun e W' ⟨he, hg⟩ => ?_
  subst he
  exact ⟨_, rfl, law_post laid (by decide +kernel) rfl rfl Try.underlying4 hW' rfl rfl rfl hg⟩

theorem over : Rows.valueWorthRow.holds Try.pinned (OpenSpec.ofChange Rows.valueWorthSpec) :=
  OpenClaim.holds_of_wide 8 Try.f8 rfl rfl rfl rfl rfl rfl rfl ⟨rfl, rfl, rfl, rfl, rfl⟩ rfl rfl rfl rfl rfl (by kernel_rfl) Try.func8 (by kernel_rfl)
    (of_decide_eq_true (by kernel_rfl)) (by unfold Func.isWrapper; first | (rw [if_pos (by decide +kernel)]; kernel_rfl) | (rw [if_neg (by decide +kernel)]; exact ⟨rfl, rfl⟩))
    (fun os started H enc _ => lifted os started H enc)

theorem proved : Rows.ValueWorthSaid :=
  over
#print axioms proved
end Go.Proofs.Ytlmjcifiofobpaa.valueWorth
