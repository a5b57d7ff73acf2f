/- The contract of package value's dec; a block of three cells that is known whole. -/
import Derived.Test.YtlmjcifiofobpaaCompare
namespace Go.Proofs.Ytlmjcifiofobpaa
open Go.ChangeShapes Go.WideShapes Go.ChangeAt Go.RowKit
set_option linter.unusedVariables false
set_option linter.unusedSimpArgs false

def Val.zero : Val := ⟨0, 0, ⟨#[]⟩⟩
instance (n : Int) : Decidable (I64 n) := by unfold I64; infer_instance

/-- block g holds just these three cells, none frozen -/
def Three (W : World) (g : Nat) (t : TypeId) (a b c : Value) : Prop := W.heap[g]? = some (.cells #[a, b, c] t (0, 0))
theorem Three.lt {W : World} {g : Nat} {t : TypeId} {a b c : Value} (h : Three W g t a b c) : g < W.heap.size := by
  rcases Nat.lt_or_ge g W.heap.size with h1 | h1
  · exact h1
  · unfold Three at h
    rw [Array.getElem?_eq_none h1] at h
    cases h
theorem Three.facts {W : World} {g : Nat} {t : TypeId} {a b c : Value} (h : Three W g t a b c) :
    W.cell? ⟨g, 0, none⟩ = some a ∧ W.cell? ⟨g, 1, none⟩ = some b ∧ W.cell? ⟨g, 2, none⟩ = some c ∧ W.frozen? ⟨g, 0, none⟩ = false ∧ W.frozen? ⟨g, 1, none⟩ = false ∧ W.frozen? ⟨g, 2, none⟩ = false := by
  unfold Three at h
  refine ⟨?_, ?_, ?_, ?_, ?_, ?_⟩
  · exact (cell_of_row W g 0 _ t (0, 0) h).trans rfl
  · exact (cell_of_row W g 1 _ t (0, 0) h).trans rfl
  · exact (cell_of_row W g 2 _ t (0, 0) h).trans rfl
  all_goals simp [World.frozen?, h]
theorem Three.below {W W' : World} {g B : Nat} {t : TypeId} {a b c : Value} (h : Three W g t a b c) (hb : Below B W W') (hg : g < B) : Three W' g t a b c := (hb.block g hg).trans h
theorem Three.new (W : World) (t : TypeId) (a b c : Value) : Three (W.alloc (.cells #[a, b, c] t)) W.heap.size t a b c := heap_alloc_new W _
theorem Three.alloc {W : World} {g : Nat} {t : TypeId} {a b c : Value} (h : Three W g t a b c) (o : Obj) : Three (W.alloc o) g t a b c := (Below.heap_alloc W o g h.lt).trans h

def decF (v : Val) : Val × Int := if v.k = 2 then (v, 0) else if I64 (v.n * 10000) then (⟨2, v.n * 10000, ⟨#[]⟩⟩, 0) else (Val.zero, 9)
theorem below_set3 {w w1 : World} {g : Nat} (h : Below w.heap.size w w1) (hg : w.heap.size ≤ g) (a b c : Value) :
    Below w.heap.size w (((w1.setCell ⟨g, 0, none⟩ a).setCell ⟨g, 1, none⟩ b).setCell ⟨g, 2, none⟩ c) :=
  ((h.setCell (p := ⟨g, 0, none⟩) hg a).setCell (p := ⟨g, 1, none⟩) hg b).setCell (p := ⟨g, 2, none⟩) hg c

theorem dec_calls (v : Val) (w : World) (hn : I64 v.n) : Calls Try.prog 89 #[v.enc] w fun e w' => e = .returned (.tuple #[(decF v).1.enc, .int .i64 (decF v).2]) ∧ Below w.heap.size w w' := by
  obtain ⟨k, n, s⟩ := v
  unfold Val.enc at *
  dsimp only at *
  by_cases h1 : (k == 2) = true
  · have hf := hide (show decF ⟨k, n, s⟩ = (⟨k, n, s⟩, 0) by unfold decF; rw [if_pos (by simpa using h1)])
    go_enter Try.func89, Try.ntmps89
    go_wp2_with fail
    refine bodyPost_ret (v := .tuple #[.agg #[.int .u8 k, .int .i64 n, .string s], .int .i64 0]) (by simp [results, Try.results89, go_sem]) rfl ?_
    exact ⟨by rw [hf.out], ((below_refl w).alloc (Nat.le_refl _) _).alloc (by simp) _⟩
  · have h1' : (k == 2) = false := by simpa using h1
    have h3 := hide (show ¬ k = 2 by simpa using h1)
    clear h1
    by_cases h2 : I64 (n * 10000)
    · have hf := hide (show decF ⟨k, n, s⟩ = (⟨2, n * 10000, ⟨#[]⟩⟩, 0) by unfold decF; rw [if_neg h3.out, if_pos h2])
      have HS := hide ((scale_tells n hn).inside h2)
      clear h2 hn
      go_enter Try.func89, Try.ntmps89
      go_wp2_with fail
      refine (HS.out _).mono ?_
      rintro e w1 ⟨rfl, hb⟩
      obtain ⟨c0, c1, c2, f0, f1, f2⟩ := ((Three.new _ _ _ _ _).below hb (by simp)).facts
      rw [World.size_alloc] at c0 c1 c2 f0 f1 f2
      have hB := hide ((((below_refl w).alloc (Nat.le_refl _) _).alloc (by simp) _).trans (hb.mono (by simp; omega)))
      clear hb
      go_wp2_with fail
      refine bodyPost_ret (v := .tuple #[.agg #[.int .u8 2, .int .i64 (n * 10000), .string ⟨#[]⟩], .int .i64 0]) (by simp [results, Try.results89, go_sem, c0, c1, c2]) rfl ?_
      exact ⟨by rw [hf.out], below_set3 hB.out (by omega) _ _ _⟩
    · have hf := hide (show decF ⟨k, n, s⟩ = (Val.zero, 9) by unfold decF; rw [if_neg h3.out, if_neg h2])
      have HS := hide ((scale_tells n hn).outside h2)
      clear h2 hn
      go_enter Try.func89, Try.ntmps89
      go_wp2_with fail
      refine (HS.out _).mono ?_
      rintro e w1 ⟨rfl, hb⟩
      obtain ⟨c0, c1, c2, f0, f1, f2⟩ := ((Three.new _ _ _ _ _).below hb (by simp)).facts
      rw [World.size_alloc] at c0 c1 c2 f0 f1 f2
      have hB := hide ((((below_refl w).alloc (Nat.le_refl _) _).alloc (by simp) _).trans (hb.mono (by simp; omega)))
      clear hb
      go_wp2_with fail
      refine bodyPost_ret (v := .tuple #[.agg #[.int .u8 0, .int .i64 0, .string ⟨#[]⟩], .int .i64 9]) (by simp [results, Try.results89, go_sem, c0, c1, c2]) rfl ?_
      exact ⟨by rw [hf.out]; rfl, below_set3 hB.out (by omega) _ _ _⟩
end Go.Proofs.Ytlmjcifiofobpaa
