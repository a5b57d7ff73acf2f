/- ValueEnds of this seat: for every input the law returns true, and its arguments read as they did: the plain part, and the last step. -/
import Derived.Test.YtlmjcifiofobpaaEndsW
import Derived.Test.YtlmjcifiofobpaaEnded
import Derived.Test.YtlmjcifiofobpaaRows
import Derived.WalkKit
import Derived.ProofKit
import Derived.OpenShut
import Derived.Lib.SmallJoins
namespace Go.Proofs.Ytlmjcifiofobpaa.valueEnds
open Go.ChangeShapes Go.WideShapes Go.ChangeAt Go.RowKit
set_option linter.unusedVariables false

theorem own : ownKnob Try.prog.godebug = none := by kernel_rfl
theorem vals_new (l : List Val) (W : World) : ValsAt (W.alloc (.cells (cellsOf l).toArray 38)) W.heap.size 0 l := by
  intro k hk
  obtain ⟨c1, c2, c3⟩ := cellsOf_get l k hk
  have hb := Blk.new W (cellsOf l).toArray 38
  refine ⟨?_, ?_, ?_⟩ <;> rw [Nat.zero_add] <;> exact hb.cell _ (by simpa)
theorem row_least (l : List Val) (hl : l.length ≤ 60000) (hok : ∀ v ∈ l, v.ok) (r : Val) (e : Int) (h : firstF (-1) l = (r, e)) : GivesR 39 l r e := by
  intro W
  refine (least_calls l W.heap.size 0 l.length _ hl (vals_new l W) (by simp) hok).mono ?_
  rw [h]
  rintro x w' ⟨rfl, hb⟩
  exact ⟨rfl, ((below_refl W).alloc (Nat.le_refl _) _).trans (hb.mono (by simp))⟩
theorem row_most (l : List Val) (hl : l.length ≤ 60000) (hok : ∀ v ∈ l, v.ok) (r : Val) (e : Int) (h : firstF 1 l = (r, e)) : GivesR 40 l r e := by
  intro W
  refine (most_calls l W.heap.size 0 l.length _ hl (vals_new l W) (by simp) hok).mono ?_
  rw [h]
  rintro x w' ⟨rfl, hb⟩
  exact ⟨rfl, ((below_refl W).alloc (Nat.le_refl _) _).trans (hb.mono (by simp))⟩
theorem comp_of (a b : Val) (ha : I64 a.n) (hb : I64 b.n) (n : Int) (h : cmpV a b = (n, true)) : Comp a b n := by
  intro W
  have hc := compare_calls a b W ha hb
  rw [h] at hc
  exact hc
theorem walk (a b c : Val) (ha : a.ok) (hb : b.ok) (hc : c.ok) (w : World) : Calls Try.prog 10 #[a.enc, b.enc, c.enc] w fun x w' => x = .returned (.bool true) ∧ Below w.heap.size w w' := by
  obtain ⟨x, y, e, f1, f2, f3, f4, hz, hcs⟩ := ends_laws a b c ha hb hc
  have ho3 : ∀ p q r : Val, p.ok → q.ok → r.ok → ∀ v ∈ [p, q, r], v.ok := by
    intro p q r hp hq hr v hv
    simp at hv
    rcases hv with rfl | rfl | rfl <;> assumption
  have key : ∃ n0 n1 n2 m0 m1 m2 : Int, mayF a = true → mayF b = true → mayF c = true → e = 0 → x ≠ Val.zero → Comp x a n0 ∧ Comp x b n1 ∧ Comp x c n2 ∧ Comp y a m0 ∧ Comp y b m1 ∧ Comp y c m2 ∧ n0 ≤ 0 ∧ n1 ≤ 0 ∧ n2 ≤ 0 ∧ 0 ≤ m0 ∧ 0 ≤ m1 ∧ 0 ≤ m2 ∧ (n0 = 0 ∨ n1 = 0 ∨ n2 = 0) ∧ (m0 = 0 ∨ m1 = 0 ∨ m2 = 0) ∧ x.k = y.k := by
    by_cases h : e = 0 ∧ x ≠ Val.zero
    · obtain ⟨ix, iy, n0, n1, n2, m0, m1, m2, c0, c1, c2, d0, d1, d2, r⟩ := hcs h.1 h.2
      exact ⟨n0, n1, n2, m0, m1, m2, fun _ _ _ _ _ => ⟨comp_of x a ix ha.2.2 _ c0, comp_of x b ix hb.2.2 _ c1, comp_of x c ix hc.2.2 _ c2, comp_of y a iy ha.2.2 _ d0, comp_of y b iy hb.2.2 _ d1, comp_of y c iy hc.2.2 _ d2, r⟩⟩
    · exact ⟨0, 0, 0, 0, 0, 0, fun _ _ _ h1 h2 => absurd ⟨h1, h2⟩ h⟩
  obtain ⟨n0, n1, n2, m0, m1, m2, key⟩ := key
  exact ends_walk a b c x y (firstF (-1) [a]).1 (mayF a) (mayF b) (mayF c) e (firstF (-1) [a]).2 n0 n1 n2 m0 m1 m2 w (may_calls a) (may_calls b) (may_calls c)
    (row_least _ (by simp) (ho3 _ _ _ ha hb hc) _ _ f1) (row_most _ (by simp) (ho3 _ _ _ ha hb hc) _ _ f2) (row_least _ (by simp) (ho3 _ _ _ hc ha hb) _ _ f3) (row_most _ (by simp) (ho3 _ _ _ hb hc ha) _ _ f4)
    (row_least _ (by simp) (by intro v hv; simp at hv; subst hv; exact ha) _ _ rfl) (fun hm hk => by rw [least_one a ha hm hk]; exact ⟨rfl, rfl⟩) hz key

theorem open_val {H : Type} {enc : TypeId × Value → H} {W : World} {base : Nat} {sp : Nat → Bool} {hd : Bool} {r : Reach} {b0 : Nat} {v : Value} {d : DataW H} {p : List MemPlace}
    (hv : Value.okWide Try.prog W r b0 38 v) (h : DataW.Trod enc Try.prog W base sp hd 38 v d p) : ∃ x : Val, x.ok ∧ v = x.enc := by
  obtain ⟨v0, v1, v2, y0, y1, y2, n, rfl, _, _, h0, h1, h2⟩ := Joins.open_agg3 Try.underlying38 (by kernel_rfl) (by kernel_rfl) hv h
  obtain ⟨k, e0, _, w0⟩ := DataW.trod_int Try.underlying5 h0
  obtain ⟨m, e1, _, w1⟩ := DataW.trod_int Try.underlying2 h1
  obtain ⟨s, e2, _, _⟩ := DataW.trod_string Try.underlying9 h2
  simp only [List.cons.injEq, and_true] at e0 e1 e2
  subst e0 e1 e2
  exact ⟨⟨k, m, s⟩, ⟨(bounds_u8 w0).1, (bounds_u8 w0).2, bounds_i64 w1⟩, rfl⟩

set_option maxRecDepth 100000 in
theorem lifted (os : Os) (started : os.Started) (H : Type) (enc : TypeId × Value → H) :
    ReturnsInHanded {} Try.checked os 10 .any (Rows.valueEndsSpec.pre6 enc Try.prog Try.f10 Rows.valueEndsRow.domain false) (Rows.valueEndsSpec.post enc Try.prog Try.f10 false true false false) := by
  refine returnsInHanded_of_change (C := Try.checked) own started (by kernel_rfl) Try.func10
    (ChangeSpec.witness6 (enc := enc) (C := Try.checked) false ⟨#[], #[.agg #[.int .u8 0, .int .i64 0, .string ⟨#[]⟩], .agg #[.int .u8 0, .int .i64 0, .string ⟨#[]⟩], .agg #[.int .u8 0, .int .i64 0, .string ⟨#[]⟩]], []⟩ 10 (by kernel_rfl) (by kernel_rfl) (by kernel_rfl) (by kernel_rfl)) ?_
  intro W base args ds gs before hval0 hW hcnd _
  have hval : ∀ (j : Nat) t v, Try.f10.params[j]? = some t → args[j]? = some v → Value.okWide Try.prog W .any base t v := hval0
  have hW' := hW
  obtain ⟨p, q, hA0, hV, rfl, hfz, hnd⟩ := hW
  have hA : DataW.TrodAll enc Try.prog W 0 (fun _ => true) true Try.f10.params.toList args.toList ds p := hA0
  rw [Try.params10] at hA hval
  obtain ⟨v0, vs0, d0, ds0, p0, q0, hargs, rfl, rfl, h0, r0⟩ := trodAll_cons hA
  obtain ⟨v1, vs1, d1, ds1, p1, q1, rfl, rfl, rfl, h1, r1⟩ := trodAll_cons r0
  obtain ⟨v2, vs2, d2, ds2, p2, q2, rfl, rfl, rfl, h2, r2⟩ := trodAll_cons r1
  obtain ⟨rfl, rfl, rfl⟩ := trodAll_nil r2
  obtain rfl : args = #[v0, v1, v2] := by cases args; simp_all
  obtain ⟨rfl, rfl⟩ := trodVars_none hV
  obtain ⟨a0, o0, e0⟩ := open_val (hval 0 38 v0 rfl rfl) h0
  obtain ⟨a1, o1, e1⟩ := open_val (hval 1 38 v1 rfl rfl) h1
  obtain ⟨a2, o2, e2⟩ := open_val (hval 2 38 v2 rfl rfl) h2
  clear hA0 hval0
  simp only [List.append_nil] at hW'
  have hwk := walk a0 a1 a2 o0 o1 o2 W
  rw [← e0, ← e1, ← e2] at hwk
  refine hwk.mono fun e W' ⟨he, hg⟩ => ?_
  subst he
  exact ⟨_, rfl, law_post laid (by decide +kernel) rfl rfl Try.underlying4 hW' rfl rfl rfl hg⟩

theorem over : Rows.valueEndsRow.holds Try.pinned (OpenSpec.ofChange Rows.valueEndsSpec) :=
  OpenClaim.holds_of_wide 10 Try.f10 rfl rfl rfl rfl rfl rfl rfl ⟨rfl, rfl, rfl, rfl, rfl⟩ rfl rfl rfl rfl rfl (by kernel_rfl) Try.func10 (by kernel_rfl)
    (of_decide_eq_true (by kernel_rfl)) (by unfold Func.isWrapper; first | (rw [if_pos (by decide +kernel)]; kernel_rfl) | (rw [if_neg (by decide +kernel)]; exact ⟨rfl, rfl⟩))
    (fun os started H enc _ => lifted os started H enc)

theorem proved : Rows.ValueEndsSaid :=
  over
#print axioms proved
end Go.Proofs.Ytlmjcifiofobpaa.valueEnds
