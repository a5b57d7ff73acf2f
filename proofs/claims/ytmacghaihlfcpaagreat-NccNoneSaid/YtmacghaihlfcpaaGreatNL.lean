/- NccNone of this seat: for every input the law returns true, and its arguments read as they did: the last step of its proof. -/
import Derived.Test.YtmacghaihlfcpaaGreatLC
import Derived.Test.YtmacghaihlfcpaaGreatC3
import Derived.Test.YtmacghaihlfcpaaGreatJN
import Derived.HandedShaped
import Derived.Test.YtmacghaihlfcpaaGreatRows
import Derived.Test.YtmacghaihlfcpaaGreatShelf
namespace Go.Proofs.YtmacghaihlfcpaaGreat.nccNone
open Abs
open Go.ChangeShapes Go.WideShapes Go.ChangeAt Go.RowKit
set_option linter.unusedVariables false

theorem own : ownKnob Tryz.prog.godebug = none := by kernel_rfl
theorem laid : laidOutB Tryz.prog = true := j1
theorem gi {W : World} (h : W.ShapedOpen Tryz.prog) : GI Tryz.prog G00 W := fun _ => by
  obtain ⟨m, hm⟩ := Tryz.laysM144.s1_3 W h
  exact ⟨⟨m, hm⟩, (cell_none hm).2, fun ⟨i, hi, _⟩ => by simp [G00] at hi, rfl⟩
theorem list2 {α : Type} {l : List α} (h : l.length = 2) : ∃ a b, l = [a, b] := by
  match l, h with
  | [a, b], _ => exact ⟨a, b, rfl⟩

set_option maxRecDepth 100000 in
theorem lifted (os : Os) (started : os.Started) (H : Type) (enc : TypeId × Value → H) :
    ReturnsInHanded {} Tryz.checked os 5 .any (Rows.nccNoneSpec.pre6 enc Tryz.prog Tryz.f5 Rows.nccNoneRow.domain false) (Rows.nccNoneSpec.post enc Tryz.prog Tryz.f5 false true false false) := by
  refine returnsInHanded_of_change_shaped (C := Tryz.checked) own started (by kernel_rfl) Tryz.func5
    (ChangeSpec.witness6 (enc := enc) (C := Tryz.checked) false ⟨#[], #[.int .i64 0, .agg #[.int .i64 0, .int .i64 0, .slice none 0 0]], []⟩ 8 (by kernel_rfl) (by kernel_rfl) (by kernel_rfl) (by kernel_rfl)) ?_
  intro W base args ds gs before hval0 hW hcnd _ hsh _
  have hval : ∀ (j : Nat) t v, Tryz.f5.params[j]? = some t → args[j]? = some v → Value.okWide Tryz.prog W .any base t v := hval0
  have hW' : DataW.Whole enc Tryz.prog Tryz.f5.params.toList Rows.nccNoneSpec.vars false W args.toList ds gs before := hW
  have hW2 := hW'
  obtain ⟨p, q, hA0, hV, rfl, hfz, hnd⟩ := hW2
  have hA : DataW.TrodAll enc Tryz.prog W 0 (fun _ => true) true Tryz.f5.params.toList args.toList ds p := hA0
  obtain ⟨rfl, rfl⟩ := trodVars_none hV
  have hwk := law_contract (pts := [tI, tFact]) (m := fun _ x => runFn6 fdW Tryz.prog fdN X_C3 1000 40 5 [tI, tFact] [.bool] x) (fun _ => runFn6_sound X_C3_sound (by kernel_rfl)) (fun x _ => ⟨0, ncc_tells x⟩) (fun x => rfl) (by kernel_rfl) W (gi hsh) hval hA
  obtain ⟨d1, d2, rfl⟩ := list2 (trodAll_length hA)
  refine hwk.mono fun e W' ⟨he, hg⟩ => ?_
  subst he
  exact ⟨_, rfl, law_post laid (by decide +kernel) rfl rfl Tryz.underlying4 hW' rfl rfl rfl hg⟩

theorem and2 {a b : Bool} (h1 : a = true) (h2 : b = true) : (a && b) = true := by rw [h1, h2]; rfl
set_option maxRecDepth 100000 in
theorem closed : joinedFacts Tryz.prog 5 Tryz.f5 Rows.nccNoneSpec Rows.nccNoneRow = true := by
  unfold joinedFacts
  exact (and2 (and2 (and2 (and2 (and2 (and2 (and2 (and2 (and2 (and2 (and2 (and2 (and2 (and2 (and2 (and2 (and2 (and2 (and2 (and2 (and2 (and2 (and2 (and2 (and2 (and2 (and2 (and2 (and2 (and2 (and2 j0 j1) j2) j3) j4) j5) j6) j7) j8) j9) j10) j11) j12) j13) j14) j15) j16) j17) j18) j19) j20) j21) j22) j23) j24) j25) j26) j27) j28) j29) j30) j31)
theorem over : Rows.nccNoneRow.holds Tryz.pinned (OpenSpec.ofChange Rows.nccNoneSpec) :=
  OpenClaim.holds_of_wide 5 Tryz.f5 rfl rfl rfl rfl rfl rfl rfl ⟨rfl, rfl, rfl, rfl, rfl⟩ rfl rfl rfl rfl rfl (by kernel_rfl) Tryz.func5 closed
    (of_decide_eq_true (by kernel_rfl)) (by unfold Func.isWrapper; first | (rw [if_pos (by decide +kernel)]; kernel_rfl) | (rw [if_neg (by decide +kernel)]; exact ⟨rfl, rfl⟩))
    (fun os started H enc _ => lifted os started H enc)

theorem proved : Rows.NccNoneSaid :=
  over
#print axioms proved
end Go.Proofs.YtmacghaihlfcpaaGreat.nccNone
