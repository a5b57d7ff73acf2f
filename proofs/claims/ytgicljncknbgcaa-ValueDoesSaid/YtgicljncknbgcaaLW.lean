/- ValueDoes of this seat: for every input the law returns true, and its arguments read as they did: the last step of its proof. -/
import Derived.Test.YtgicljncknbgcaaL7
import Derived.Test.YtgicljncknbgcaaV3
import Derived.Lib.SmallJoins
import Derived.Test.YtgicljncknbgcaaRows
namespace Go.Proofs.Ytgicljncknbgcaa.valueDoes
open Abs
open Go.ChangeShapes Go.WideShapes Go.ChangeAt Go.RowKit
set_option linter.unusedVariables false

theorem own : ownKnob Try.prog.godebug = none := by kernel_rfl
theorem laid : laidOutB Try.prog = true := by kernel_rfl

def encV (v : T_Value) : Value := .agg #[.int .u8 v.1, .int .i64 v.2.1, .string ⟨v.2.2.1.toArray⟩]
theorem walk (a b : T_Value) (ha : WfV a) (hb : WfV b) (hm : a.2.2.1.length ≤ 9223372036854775807) (w : World) :
    Calls Try.prog 5 #[encV a, encV b] w fun e w' => e = .returned (.bool true) ∧ Below w.heap.size w w' := by
  exact law_calls (w2_ValueDoes_sound (a.2.2.1.length + 100000)) (x := (a, b, ())) (args := [.agg [.int .u8 a.1, .int .i64 a.2.1, .str a.2.2.1], .agg [.int .u8 b.1, .int .i64 b.2.1, .str b.2.2.1]]) rfl (w2_ValueDoes_is (M := 100000) (by omega) ⟨by omega, by omega⟩ a b ha hb.2.2 (by omega) hm) w (G := ⟨0, fun _ => false, fun _ => 0, fun _ => false, fun _ => 0, fun _ => 0⟩) rfl (fun _ => rfl) (by simp [dns, dn, VRs0, VR0, encV])

theorem open_val {H : Type} {enc : TypeId × Value → H} {W : World} {base : Nat} {sp : Nat → Bool} {hd : Bool} {r : Reach} {b0 : Nat} {v : Value} {d : DataW H} {p : List MemPlace}
    (hv : Value.okWide Try.prog W r b0 37 v) (h : DataW.Trod enc Try.prog W base sp hd 37 v d p) : ∃ x : T_Value, WfV x ∧ x.2.2.1.length ≤ 9223372036854775807 ∧ v = encV x := by
  obtain ⟨v0, v1, v2, y0, y1, y2, n, rfl, _, _, h0, h1, h2⟩ := Joins.open_agg3 Try.underlying37 (by kernel_rfl) (by kernel_rfl) hv h
  obtain ⟨k, e0, _, w0⟩ := DataW.trod_int Try.underlying5 h0
  obtain ⟨m, e1, _, w1⟩ := DataW.trod_int Try.underlying2 h1
  obtain ⟨s, e2, _, hlen⟩ := DataW.trod_string Try.underlying9 h2
  simp only [List.cons.injEq, and_true] at e0 e1 e2
  subst e0 e1 e2
  exact ⟨(k, m, s.data.toList, ()), ⟨(bounds_u8 w0).1, (bounds_u8 w0).2, bounds_i64 w1⟩, hlen, rfl⟩

set_option maxRecDepth 100000 in
theorem lifted (os : Os) (started : os.Started) (H : Type) (enc : TypeId × Value → H) :
    ReturnsInHanded {} Try.checked os 5 .any (Rows.valueDoesSpec.pre6 enc Try.prog Try.f5 Rows.valueDoesRow.domain false) (Rows.valueDoesSpec.post enc Try.prog Try.f5 false true false false) := by
  refine returnsInHanded_of_change (C := Try.checked) own started (by kernel_rfl) Try.func5
    (ChangeSpec.witness6 (enc := enc) (C := Try.checked) false ⟨#[], #[.agg #[.int .u8 0, .int .i64 0, .string ⟨#[]⟩], .agg #[.int .u8 0, .int .i64 0, .string ⟨#[]⟩]], []⟩ 5 (by kernel_rfl) (by kernel_rfl) (by kernel_rfl) (by kernel_rfl)) ?_
  intro W base args ds gs before hval0 hW hcnd _
  have hval : ∀ (j : Nat) t v, Try.f5.params[j]? = some t → args[j]? = some v → Value.okWide Try.prog W .any base t v := hval0
  have hW' := hW
  obtain ⟨p, q, hA0, hV, rfl, hfz, hnd⟩ := hW
  have hA : DataW.TrodAll enc Try.prog W 0 (fun _ => true) true Try.f5.params.toList args.toList ds p := hA0
  rw [Try.params5] at hA hval
  obtain ⟨v0, vs0, d0, ds0, p0, q0, hargs, rfl, rfl, h0, r0⟩ := trodAll_cons hA
  obtain ⟨v1, vs1, d1, ds1, p1, q1, rfl, rfl, rfl, h1, r1⟩ := trodAll_cons r0
  obtain ⟨rfl, rfl, rfl⟩ := trodAll_nil r1
  obtain rfl : args = #[v0, v1] := by cases args; simp_all
  obtain ⟨rfl, rfl⟩ := trodVars_none hV
  obtain ⟨a0, o0, m0, e0⟩ := open_val (hval 0 37 v0 rfl rfl) h0
  obtain ⟨a1, o1, m1, e1⟩ := open_val (hval 1 37 v1 rfl rfl) h1
  clear hA0 hval0
  simp only [List.append_nil] at hW'
  have hwk := walk a0 a1 o0 o1 m0 W
  rw [← e0, ← e1] at hwk
  refine hwk.mono fun e W' ⟨he, hg⟩ => ?_
  subst he
  exact ⟨_, rfl, law_post laid (by decide +kernel) rfl rfl Try.underlying4 hW' rfl rfl rfl hg⟩

theorem over : Rows.valueDoesRow.holds Try.pinned (OpenSpec.ofChange Rows.valueDoesSpec) :=
  OpenClaim.holds_of_wide 5 Try.f5 rfl rfl rfl rfl rfl rfl rfl ⟨rfl, rfl, rfl, rfl, rfl⟩ rfl rfl rfl rfl rfl (by kernel_rfl) Try.func5 (by kernel_rfl)
    (of_decide_eq_true (by kernel_rfl)) (by unfold Func.isWrapper; first | (rw [if_pos (by decide +kernel)]; kernel_rfl) | (rw [if_neg (by decide +kernel)]; exact ⟨rfl, rfl⟩))
    (fun os started H enc _ => lifted os started H enc)

theorem proved : Rows.ValueDoesSaid :=
  over
#print axioms proved
end Go.Proofs.Ytgicljncknbgcaa.valueDoes
