/- The contracts of package value's arithmetic. -/
import Derived.Test.YtlmjcifiofobpaaAlike
import Derived.Deep.RegionHeld3
namespace Go.Proofs.Ytlmjcifiofobpaa
open Go.ChangeShapes Go.WideShapes Go.ChangeAt Go.RowKit
set_option linter.unusedVariables false
set_option linter.unusedSimpArgs false

/-- what a call that tells a number or an error makes of it, as a value of a kind -/
def toldF (kd : Int) (p : Int × Int) : Val × Int := if p.2 = 0 then (⟨kd, p.1, ⟨#[]⟩⟩, 0) else (Val.zero, p.2)
theorem told_calls (n e kd : Int) (pl : Addr) (g cap : Nat) (w : World) (h1 : w.cell? pl = some (.slice (some ⟨g, 0, none⟩) 2 cap)) (h2 : w.cell? ⟨g, 0, none⟩ = some (.int .u8 kd)) :
    Calls Try.prog 81 #[.int .i64 n, .int .i64 e, .pointer (some pl)] w fun x w' => x = .returned (.tuple #[(toldF kd (n, e)).1.enc, .int .i64 (toldF kd (n, e)).2]) ∧ Below w.heap.size w w' := by
  have a1 := fun o => (World.cell?_alloc_lt w o pl (World.block_lt_of_cell? w pl h1)).trans h1
  have a2 := fun o => (World.cell?_alloc_lt w o ⟨g, 0, none⟩ (World.block_lt_of_cell? w _ h2)).trans h2
  by_cases he : e = 0
  · have he' : (e != 0) = false := by simpa using he
    have hf := hide (show toldF kd (n, e) = (⟨kd, n, ⟨#[]⟩⟩, 0) by unfold toldF; rw [if_pos he])
    clear he h1 h2
    go_enter Try.func81, Try.ntmps81
    go_wp2_with fail
    refine bodyPost_ret (v := .tuple #[.agg #[.int .u8 kd, .int .i64 n, .string ⟨#[]⟩], .int .i64 0]) (by simp [results, Try.results81, go_sem]) rfl ?_
    exact ⟨by rw [hf.out]; rfl, (below_refl w).alloc (Nat.le_refl _) _⟩
  · have he' : (e != 0) = true := by simpa using he
    have hf := hide (show toldF kd (n, e) = (Val.zero, e) by unfold toldF; rw [if_neg he])
    clear he h1 h2 a1 a2
    go_enter Try.func81, Try.ntmps81
    go_wp2_with fail
    refine bodyPost_ret (v := .tuple #[.agg #[.int .u8 0, .int .i64 0, .string ⟨#[]⟩], .int .i64 e]) (by simp [results, Try.results81, go_sem]) rfl ?_
    exact ⟨by rw [hf.out]; rfl, (below_refl w).alloc (Nat.le_refl _) _⟩

def ArithOK (f : Nat) (F : Int → Int → Int × Int) : Prop := ∀ a b : Int, I64 a → I64 b → Tells f #[.int .i64 a, .int .i64 b] (F a b).1 (F a b).2
def doF (fw fd : Int → Int → Int × Int) (a b : Val) : Val × Int :=
  if (alikeF [a, b]).2.1 = true ∨ (alikeF [a, b]).2.2 ≠ 0 then (Val.zero, (alikeF [a, b]).2.2)
  else match (alikeF [a, b]).1 with
    | [x, y] => toldF x.k (if x.k = 2 then fd x.n y.n else fw x.n y.n)
    | _ => (Val.zero, 0)

/-- the result's block, and the two values in a row -/
theorem do_start (w : World) (a b : Val) : ∃ W : World, W = ((((w.alloc (.cells #[.int .u8 a.k, .int .i64 a.n, .string a.s] 38)).alloc (.cells #[.int .u8 b.k, .int .i64 b.n, .string b.s] 38)).alloc
      (.cells #[.int .u8 0, .int .i64 0, .string ⟨#[]⟩] 38)).alloc (.cells #[.int .u8 a.k, .int .i64 a.n, .string a.s, .int .u8 b.k, .int .i64 b.n, .string b.s] 38)) ∧
    Three W (w.heap.size + 1 + 1) 38 (.int .u8 0) (.int .i64 0) (.string ⟨#[]⟩) ∧ ValsAt W (w.heap.size + 1 + 1 + 1) 0 [a, b] ∧ W.heap.size = w.heap.size + 4 ∧ Below w.heap.size w W := by
  refine ⟨_, rfl, ?_, ?_, by simp, ?_⟩
  · have h := Three.new ((w.alloc (.cells #[.int .u8 a.k, .int .i64 a.n, .string a.s] 38)).alloc (.cells #[.int .u8 b.k, .int .i64 b.n, .string b.s] 38)) 38 (.int .u8 0) (.int .i64 0) (.string ⟨#[]⟩)
    simp only [World.size_alloc] at h
    exact h.alloc _
  · intro k hk
    match k, hk with
    | 0, _ => simp [go_sem]
    | 1, _ => simp [go_sem]
  · exact ((((below_refl w).alloc (Nat.le_refl _) _).alloc (by simp) _).alloc (by simp; omega) _).alloc (by simp; omega) _

theorem alike_parts (a b : Val) (ha : a.ok) (hb : b.ok) : ((alikeF [a, b]).2.1 = true ∨ (alikeF [a, b]).2.2 ≠ 0) ∨ ((alikeF [a, b]).2.1 = false ∧ (alikeF [a, b]).2.2 = 0 ∧ ∃ x y, (alikeF [a, b]).1 = [x, y] ∧ I64 x.n ∧ I64 y.n ∧ x.k = y.k ∧ (x.k = 1 ∨ x.k = 2)) := by
  unfold alikeF
  by_cases h1 : anyBad [a, b] = true
  · rw [if_pos h1]; exact .inl (.inr (by simp))
  · rw [if_neg h1]
    by_cases h2 : anyNull [a, b] = true
    · rw [if_pos h2]; exact .inl (.inl rfl)
    · rw [if_neg h2]
      by_cases h3 : kindOf [a, b] = 2
      · rw [if_pos h3]
        by_cases h4 : allDec [a, b] = true
        · rw [if_pos h4]
          have dk : ∀ v : Val, v.ok → (decF v).2 = 0 → I64 (decF v).1.n := by
            intro v hv h0
            unfold decF at *
            split
            · exact hv.2.2
            · rename_i h5
              rw [if_neg h5] at h0
              split
              · assumption
              · rename_i h6
                rw [if_neg h6] at h0
                exact absurd h0 (by decide)
          have h5 : (decF a).2 = 0 ∧ (decF b).2 = 0 := by unfold allDec at h4; simpa using h4
          exact .inr ⟨rfl, rfl, asDec a, asDec b, rfl, dk a ha h5.1, dk b hb h5.2, rfl, .inr rfl⟩
        · rw [if_neg h4]; exact .inl (.inr (by simp))
      · rw [if_neg h3]
        exact .inr ⟨rfl, rfl, asInt a, asInt b, rfl, ha.2.2, hb.2.2, rfl, .inl rfl⟩

theorem do_keep {W W' : World} {pl g0 cap : Nat} {xk xn yn : Int} (h : W.cell? ⟨pl, 0, none⟩ = some (.slice (some ⟨g0, 0, none⟩) 2 cap) ∧ W.cell? ⟨g0, 0, none⟩ = some (.int .u8 xk) ∧ W.cell? ⟨g0, 1, none⟩ = some (.int .i64 xn) ∧ W.cell? ⟨g0, 4, none⟩ = some (.int .i64 yn)) (hb : Below W.heap.size W W') (h1 : pl < W.heap.size) (h2 : g0 < W.heap.size) : W'.cell? ⟨pl, 0, none⟩ = some (.slice (some ⟨g0, 0, none⟩) 2 cap) ∧ W'.cell? ⟨g0, 0, none⟩ = some (.int .u8 xk) ∧ W'.cell? ⟨g0, 1, none⟩ = some (.int .i64 xn) ∧ W'.cell? ⟨g0, 4, none⟩ = some (.int .i64 yn) :=
  ⟨(hb.cell (p := ⟨pl, 0, none⟩) h1).trans h.1, (hb.cell (p := ⟨g0, 0, none⟩) h2).trans h.2.1, (hb.cell (p := ⟨g0, 1, none⟩) h2).trans h.2.2.1, (hb.cell (p := ⟨g0, 4, none⟩) h2).trans h.2.2.2⟩
theorem far_set (W : World) (gr g i j : Nat) (u : Value) (h : g ≠ gr) : (W.setCell ⟨gr, j, none⟩ u).cell? ⟨g, i, none⟩ = W.cell? ⟨g, i, none⟩ :=
  World.cell?_setCell_other W _ _ u (fun e => h (by injection e with e1; exact e1.symm))
theorem do_keep_set {W : World} {pl g0 gr cap : Nat} {xk xn yn : Int} (u v t : Value) (h : W.cell? ⟨pl, 0, none⟩ = some (.slice (some ⟨g0, 0, none⟩) 2 cap) ∧ W.cell? ⟨g0, 0, none⟩ = some (.int .u8 xk) ∧ W.cell? ⟨g0, 1, none⟩ = some (.int .i64 xn) ∧ W.cell? ⟨g0, 4, none⟩ = some (.int .i64 yn)) (h1 : pl ≠ gr) (h2 : g0 ≠ gr) : (((W.setCell ⟨gr, 0, none⟩ u).setCell ⟨gr, 1, none⟩ v).setCell ⟨gr, 2, none⟩ t).cell? ⟨pl, 0, none⟩ = some (.slice (some ⟨g0, 0, none⟩) 2 cap) ∧ (((W.setCell ⟨gr, 0, none⟩ u).setCell ⟨gr, 1, none⟩ v).setCell ⟨gr, 2, none⟩ t).cell? ⟨g0, 0, none⟩ = some (.int .u8 xk) ∧ (((W.setCell ⟨gr, 0, none⟩ u).setCell ⟨gr, 1, none⟩ v).setCell ⟨gr, 2, none⟩ t).cell? ⟨g0, 1, none⟩ = some (.int .i64 xn) ∧ (((W.setCell ⟨gr, 0, none⟩ u).setCell ⟨gr, 1, none⟩ v).setCell ⟨gr, 2, none⟩ t).cell? ⟨g0, 4, none⟩ = some (.int .i64 yn) := by
  simp only [far_set _ gr _ _ _ _ h1, far_set _ gr _ _ _ _ h2]
  exact h
theorem told_held (n e : Int) {W : World} {pl g0 cap : Nat} {xk xn yn : Int} (h : W.cell? ⟨pl, 0, none⟩ = some (.slice (some ⟨g0, 0, none⟩) 2 cap) ∧ W.cell? ⟨g0, 0, none⟩ = some (.int .u8 xk) ∧ W.cell? ⟨g0, 1, none⟩ = some (.int .i64 xn) ∧ W.cell? ⟨g0, 4, none⟩ = some (.int .i64 yn)) :
    Calls Try.prog 81 #[.int .i64 n, .int .i64 e, .pointer (some ⟨pl, 0, none⟩)] W fun x w' => x = .returned (.tuple #[.agg #[.int .u8 (toldF xk (n, e)).1.k, .int .i64 (toldF xk (n, e)).1.n, .string (toldF xk (n, e)).1.s], .int .i64 (toldF xk (n, e)).2]) ∧ Below W.heap.size W w' :=
  told_calls n e xk _ g0 cap W h.1 h.2.1
end Go.Proofs.Ytlmjcifiofobpaa
