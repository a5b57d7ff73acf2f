/- The contract of witanlaw02's known. -/
import Derived.Test.YtlmjcifiofobpaaAll
namespace Go.Proofs.Ytlmjcifiofobpaa
open Go.ChangeShapes Go.WideShapes Go.ChangeAt Go.RowKit
set_option linter.unusedVariables false
set_option linter.unusedSimpArgs false

theorem truthT_calls (w : World) : Calls Try.prog 64 #[.bool true] w fun x w' => x = .returned (.agg #[.int .u8 4, .int .i64 1, .string ⟨#[]⟩]) ∧ Below w.heap.size w w' := truth_calls true w
theorem six_vals (W : World) (a b : Val) (t : TypeId) : ValsAt (W.alloc (.cells #[.int .u8 a.k, .int .i64 a.n, .string a.s, .int .u8 b.k, .int .i64 b.n, .string b.s] t)) W.heap.size 0 [a, b] := by
  intro k hk
  match k, hk with
  | 0, _ => simp [go_sem]
  | 1, _ => simp [go_sem]
theorem all_t_calls (W : World) : Calls Try.prog 35 #[.slice (some ⟨W.heap.size, 0, none⟩) 2 2] (W.alloc (.cells #[.int .u8 4, .int .i64 1, .string ⟨#[]⟩, .int .u8 0, .int .i64 0, .string ⟨#[]⟩] 38))
    fun x w' => x = .returned (.agg #[.int .u8 0, .int .i64 0, .string ⟨#[]⟩]) ∧ Below W.heap.size W w' := by
  refine (all_calls [truthV true, Val.zero] W.heap.size 0 2 _ (by simp) (six_vals W _ _ 38) (by simp)).mono ?_
  rintro x w' ⟨rfl, hb⟩
  exact ⟨rfl, ((below_refl W).alloc (Nat.le_refl _) _).trans (hb.mono (by simp))⟩
theorem all_f_calls (W : World) : Calls Try.prog 35 #[.slice (some ⟨W.heap.size, 0, none⟩) 2 2] (W.alloc (.cells #[.int .u8 4, .int .i64 0, .string ⟨#[]⟩, .int .u8 0, .int .i64 0, .string ⟨#[]⟩] 38))
    fun x w' => x = .returned (.agg #[.int .u8 4, .int .i64 0, .string ⟨#[]⟩]) ∧ Below W.heap.size W w' := by
  refine (all_calls [truthV false, Val.zero] W.heap.size 0 2 _ (by simp) (six_vals W _ _ 38) (by simp)).mono ?_
  have e : allF [truthV false, Val.zero] (truthV true) = truthV false := by kernel_rfl
  rw [e]
  rintro x w' ⟨rfl, hb⟩
  exact ⟨rfl, ((below_refl W).alloc (Nat.le_refl _) _).trans (hb.mono (by simp))⟩
theorem k_add1 (w : World) : Calls Try.prog 31 #[.agg #[.int .u8 1, .int .i64 1, .string ⟨#[]⟩], .agg #[.int .u8 2, .int .i64 5000, .string ⟨#[]⟩]] w
    fun x w' => x = .returned (.tuple #[.agg #[.int .u8 2, .int .i64 15000, .string ⟨#[]⟩], .int .i64 0]) ∧ Below w.heap.size w w' := by
  have h := vadd_calls ⟨1, 1, ⟨#[]⟩⟩ ⟨2, 5000, ⟨#[]⟩⟩ (by unfold Val.ok I64; dsimp only; omega) (by unfold Val.ok I64; dsimp only; omega) w
  have e : vadd ⟨1, 1, ⟨#[]⟩⟩ ⟨2, 5000, ⟨#[]⟩⟩ = (⟨2, 15000, ⟨#[]⟩⟩, 0) := by kernel_rfl
  rw [e] at h
  exact h
theorem k_add2 (w : World) : Calls Try.prog 31 #[.agg #[.int .u8 0, .int .i64 0, .string ⟨#[]⟩], .agg #[.int .u8 3, .int .i64 0, .string ⟨#[]⟩]] w
    fun x w' => x = .returned (.tuple #[.agg #[.int .u8 0, .int .i64 0, .string ⟨#[]⟩], .int .i64 8]) ∧ Below w.heap.size w w' := by
  have h := vadd_calls ⟨0, 0, ⟨#[]⟩⟩ ⟨3, 0, ⟨#[]⟩⟩ (by unfold Val.ok I64; dsimp only; omega) (by unfold Val.ok I64; dsimp only; omega) w
  have e : vadd ⟨0, 0, ⟨#[]⟩⟩ ⟨3, 0, ⟨#[]⟩⟩ = (⟨0, 0, ⟨#[]⟩⟩, 8) := by kernel_rfl
  rw [e] at h
  exact h
theorem k_cmp (w : World) : Calls Try.prog 29 #[.agg #[.int .u8 1, .int .i64 2, .string ⟨#[]⟩], .agg #[.int .u8 2, .int .i64 20000, .string ⟨#[]⟩]] w
    fun x w' => x = .returned (.tuple #[.int .i64 0, .bool true]) ∧ Below w.heap.size w w' := by
  have h := compare_calls ⟨1, 2, ⟨#[]⟩⟩ ⟨2, 20000, ⟨#[]⟩⟩ w (by unfold I64; dsimp only; omega) (by unfold I64; dsimp only; omega)
  have e : cmpV ⟨1, 2, ⟨#[]⟩⟩ ⟨2, 20000, ⟨#[]⟩⟩ = (0, true) := by kernel_rfl
  rw [e] at h
  exact h

theorem Three.cells {W : World} {g : Nat} {t : TypeId} {a b c : Value} (h : Three W g t a b c) : W.cell? ⟨g, 0, none⟩ = some a ∧ W.cell? ⟨g, 1, none⟩ = some b ∧ W.cell? ⟨g, 2, none⟩ = some c := ⟨h.facts.1, h.facts.2.1, h.facts.2.2.1⟩
def Six (W : World) (g h : Nat) : Prop := Three W g 38 (.int .u8 2) (.int .i64 15000) (.string ⟨#[]⟩) ∧ Three W h 38 (.int .u8 0) (.int .i64 0) (.string ⟨#[]⟩)

theorem six_flat {W : World} {g h : Nat} (hs : Six W g h) : W.cell? ⟨g, 0, none⟩ = some (.int .u8 2) ∧ W.cell? ⟨g, 1, none⟩ = some (.int .i64 15000) ∧ W.cell? ⟨g, 2, none⟩ = some (.string ⟨#[]⟩) ∧ W.cell? ⟨h, 0, none⟩ = some (.int .u8 0) ∧ W.cell? ⟨h, 1, none⟩ = some (.int .i64 0) ∧ W.cell? ⟨h, 2, none⟩ = some (.string ⟨#[]⟩) :=
  ⟨hs.1.cells.1, hs.1.cells.2.1, hs.1.cells.2.2, hs.2.cells⟩
theorem cell_lt {W : World} {g i : Nat} {v : Value} (h : W.cell? ⟨g, i, none⟩ = some v) : g < W.heap.size := World.block_lt_of_cell? W ⟨g, i, none⟩ h
theorem six_go {W W' : World} {g h : Nat} (hs : W.cell? ⟨g, 0, none⟩ = some (.int .u8 2) ∧ W.cell? ⟨g, 1, none⟩ = some (.int .i64 15000) ∧ W.cell? ⟨g, 2, none⟩ = some (.string ⟨#[]⟩) ∧ W.cell? ⟨h, 0, none⟩ = some (.int .u8 0) ∧ W.cell? ⟨h, 1, none⟩ = some (.int .i64 0) ∧ W.cell? ⟨h, 2, none⟩ = some (.string ⟨#[]⟩)) (hb : Below W.heap.size W W') : W'.cell? ⟨g, 0, none⟩ = some (.int .u8 2) ∧ W'.cell? ⟨g, 1, none⟩ = some (.int .i64 15000) ∧ W'.cell? ⟨g, 2, none⟩ = some (.string ⟨#[]⟩) ∧ W'.cell? ⟨h, 0, none⟩ = some (.int .u8 0) ∧ W'.cell? ⟨h, 1, none⟩ = some (.int .i64 0) ∧ W'.cell? ⟨h, 2, none⟩ = some (.string ⟨#[]⟩) :=
  ⟨(hb.cell (p := ⟨g, 0, none⟩) (cell_lt hs.1)).trans hs.1, (hb.cell (p := ⟨g, 1, none⟩) (cell_lt hs.1)).trans hs.2.1, (hb.cell (p := ⟨g, 2, none⟩) (cell_lt hs.1)).trans hs.2.2.1,
    (hb.cell (p := ⟨h, 0, none⟩) (cell_lt hs.2.2.2.1)).trans hs.2.2.2.1, (hb.cell (p := ⟨h, 1, none⟩) (cell_lt hs.2.2.2.1)).trans hs.2.2.2.2.1, (hb.cell (p := ⟨h, 2, none⟩) (cell_lt hs.2.2.2.1)).trans hs.2.2.2.2.2⟩

theorem six_alloc {W : World} {g h : Nat} (hs : W.cell? ⟨g, 0, none⟩ = some (.int .u8 2) ∧ W.cell? ⟨g, 1, none⟩ = some (.int .i64 15000) ∧ W.cell? ⟨g, 2, none⟩ = some (.string ⟨#[]⟩) ∧ W.cell? ⟨h, 0, none⟩ = some (.int .u8 0) ∧ W.cell? ⟨h, 1, none⟩ = some (.int .i64 0) ∧ W.cell? ⟨h, 2, none⟩ = some (.string ⟨#[]⟩)) (o : Obj) : (W.alloc o).cell? ⟨g, 0, none⟩ = some (.int .u8 2) ∧ (W.alloc o).cell? ⟨g, 1, none⟩ = some (.int .i64 15000) ∧ (W.alloc o).cell? ⟨g, 2, none⟩ = some (.string ⟨#[]⟩) ∧ (W.alloc o).cell? ⟨h, 0, none⟩ = some (.int .u8 0) ∧ (W.alloc o).cell? ⟨h, 1, none⟩ = some (.int .i64 0) ∧ (W.alloc o).cell? ⟨h, 2, none⟩ = some (.string ⟨#[]⟩) := six_go hs ((Below.refl W.heap.size W).alloc (Nat.le_refl _) o)

set_option maxRecDepth 100000 in
set_option maxHeartbeats 3200000 in
theorem known2_calls (w : World) : Calls Try.prog 30 #[] w fun e w' => e = .returned (.bool true) ∧ Below w.heap.size w w' := by
  go_enter Try.func30, Try.ntmps30
  go_wp2_with fail
  refine (k_add1 _).mono ?_
  rintro e w1 ⟨rfl, hb⟩
  go_wp2_with fail
  refine (k_cmp _).mono ?_
  rintro e w2 ⟨rfl, hn⟩
  have hT1 := hide ((Three.new w1 38 (.int .u8 2) (.int .i64 15000) (.string ⟨#[]⟩)).below hn (by simp))
  have hB := hide ((hb.alloc hb.size _).trans (hn.mono (by have := hb.size; simp; omega)))
  have z1 : w.heap.size ≤ w1.heap.size := hb.size
  have z2 : w1.heap.size + 1 ≤ w2.heap.size := by have := hn.size; simp at this; omega
  clear hb hn
  go_wp2_with fail
  refine (k_add2 _).mono ?_
  rintro e w3 ⟨rfl, hn⟩
  have hT2 := hide (hT1.out.below hn (by omega))
  have hB2 := hide (hB.out.trans (hn.mono (by omega)))
  have z3 : w2.heap.size ≤ w3.heap.size := hn.size
  clear hn hT1 hB
  go_upto_region 5 with fail
  obtain ⟨W0, hW0⟩ : ∃ W0, (w3.alloc (.cells #[.int .u8 0, .int .i64 0, .string ⟨#[]⟩] 38)).alloc (.cells #[.int .u8 0, .int .i64 0, .string ⟨#[]⟩] 38) = W0 := ⟨_, rfl⟩
  have hSx : Six W0 w1.heap.size (w3.heap.size + 1) := by
    rw [← hW0]
    refine ⟨(hT2.out.alloc _).alloc _, ?_⟩
    have h := Three.new (w3.alloc (.cells #[.int .u8 0, .int .i64 0, .string ⟨#[]⟩] 38)) 38 (.int .u8 0) (.int .i64 0) (.string ⟨#[]⟩)
    simp only [World.size_alloc] at h
    exact h
  have hB3 : Below w.heap.size w W0 := by
    rw [← hW0]
    exact (hB2.out.alloc hB2.out.size _).alloc (by have := hB2.out.size; simp; omega) _
  rw [hW0]
  clear hW0 hT2 hB2
  have hS0 := six_flat hSx
  have hBd := hB3.drew
  go_region_held3 (fun w' => w'.cell? ⟨w1.heap.size, 0, none⟩ = some (.int .u8 2) ∧ w'.cell? ⟨w1.heap.size, 1, none⟩ = some (.int .i64 15000) ∧ w'.cell? ⟨w1.heap.size, 2, none⟩ = some (.string ⟨#[]⟩) ∧ w'.cell? ⟨w3.heap.size + 1, 0, none⟩ = some (.int .u8 0) ∧ w'.cell? ⟨w3.heap.size + 1, 1, none⟩ = some (.int .i64 0) ∧ w'.cell? ⟨w3.heap.size + 1, 2, none⟩ = some (.string ⟨#[]⟩))
    (first | exact hS0 | assumption | exact six_alloc (by assumption) _)
    (first
      | (go_at_call_of 64 (Value.bool true); refine (truthT_calls _).mono ?_; rintro e wa ⟨rfl, ha⟩; have hSa := six_go (by assumption) ha; have hBa := below_then (w := w) (by assumption) ha)
      | (go_at_call_of 64 (Value.bool false); refine (truthF_calls _).mono ?_; rintro e wa ⟨rfl, ha⟩; have hSa := six_go (by assumption) ha; have hBa := below_then (w := w) (by assumption) ha)
      | (go_at_call 35; refine (all_t_calls _).mono ?_; rintro e wa ⟨rfl, ha⟩; have hSa := six_go (by assumption) ha; have hBa := below_then (w := w) (by assumption) ha)
      | (go_at_call 35; refine (all_f_calls _).mono ?_; rintro e wa ⟨rfl, ha⟩; have hSa := six_go (by assumption) ha; have hBa := below_then (w := w) (by assumption) ha))
  go_wp2_with fail
  go_ret
  exact ⟨rfl, hBa⟩
end Go.Proofs.Ytlmjcifiofobpaa
