/- Blocks that a call knows whole, and what is kept of them from one call to the next. -/
import Derived.Test.YtlmjcifiofobpaaKnown
namespace Go.Proofs.Ytlmjcifiofobpaa
open Go.ChangeShapes Go.WideShapes Go.ChangeAt Go.RowKit
set_option linter.unusedVariables false
set_option linter.unusedSimpArgs false

/-- block g holds just these cells, none frozen -/
def Blk (W : World) (g : Nat) (vs : Array Value) (t : TypeId) : Prop := W.heap[g]? = some (.cells vs t (0, 0))
theorem Blk.lt {W : World} {g : Nat} {vs : Array Value} {t : TypeId} (h : Blk W g vs t) : g < W.heap.size := by
  rcases Nat.lt_or_ge g W.heap.size with h1 | h1
  · exact h1
  · unfold Blk at h
    rw [Array.getElem?_eq_none h1] at h
    cases h
theorem Blk.below {W W' : World} {g : Nat} {vs : Array Value} {t : TypeId} {B : Nat} (h : Blk W g vs t) (hb : Below B W W') (hg : g < B) : Blk W' g vs t := (hb.block g hg).trans h
theorem Blk.new (W : World) (vs : Array Value) (t : TypeId) : Blk (W.alloc (.cells vs t)) W.heap.size vs t := heap_alloc_new W _
theorem Blk.alloc {W : World} {g : Nat} {vs : Array Value} {t : TypeId} (h : Blk W g vs t) (o : Obj) : Blk (W.alloc o) g vs t := (Below.heap_alloc W o g h.lt).trans h
theorem Blk.drew {W : World} {g : Nat} {vs : Array Value} {t : TypeId} (h : Blk W g vs t) : Blk W.drew g vs t := h
theorem Blk.cell {W : World} {g : Nat} {vs : Array Value} {t : TypeId} (h : Blk W g vs t) (k : Nat) {v : Value} (hv : vs[k]? = some v) : W.cell? ⟨g, k, none⟩ = some v := (cell_of_row W g k _ t (0, 0) h).trans hv
theorem Blk.free {W : World} {g : Nat} {vs : Array Value} {t : TypeId} (h : Blk W g vs t) (k : Nat) : W.frozen? ⟨g, k, none⟩ = false := by
  unfold Blk at h
  simp [World.frozen?, h]
/-- a block of a value -/
def Vb (W : World) (g : Nat) (v : Val) : Prop := Blk W g #[.int .u8 v.k, .int .i64 v.n, .string v.s] 38
theorem Vb.cells {W : World} {g : Nat} {v : Val} (h : Vb W g v) : W.cell? ⟨g, 0, none⟩ = some (.int .u8 v.k) ∧ W.cell? ⟨g, 1, none⟩ = some (.int .i64 v.n) ∧ W.cell? ⟨g, 2, none⟩ = some (.string v.s) :=
  ⟨Blk.cell h 0 rfl, Blk.cell h 1 rfl, Blk.cell h 2 rfl⟩
theorem Vb.three {W : World} {g : Nat} {v : Val} (h : Vb W g v) : Three W g 38 (.int .u8 v.k) (.int .i64 v.n) (.string v.s) := h

/-- values in blocks: what a call knows -/
def Env (w : World) (L : List (Nat × Val)) (W : World) : Prop := Below w.heap.size w W ∧ ∀ p ∈ L, Vb W p.1 p.2
theorem Env.start (w : World) : Env w [] w := ⟨below_refl w, fun _ h => by cases h⟩
theorem Env.alloc {w W : World} {L : List (Nat × Val)} (h : Env w L W) (v : Val) : Env w ((W.heap.size, v) :: L) (W.alloc (.cells #[.int .u8 v.k, .int .i64 v.n, .string v.s] 38)) :=
  ⟨h.1.alloc h.1.size _, fun p hp => by
    rcases List.mem_cons.1 hp with rfl | hp
    · exact Blk.new W _ _
    · exact (h.2 p hp).alloc _⟩
theorem Env.other {w W : World} {L : List (Nat × Val)} (h : Env w L W) (o : Obj) : Env w L (W.alloc o) := ⟨h.1.alloc h.1.size _, fun p hp => (h.2 p hp).alloc _⟩
theorem Env.below {w W W' : World} {L : List (Nat × Val)} (h : Env w L W) (hb : Below W.heap.size W W') : Env w L W' :=
  ⟨h.1.trans (hb.mono h.1.size), fun p hp => (h.2 p hp).below hb (h.2 p hp).lt⟩
theorem Env.drew {w W : World} {L : List (Nat × Val)} (h : Env w L W) : Env w L W.drew := ⟨h.1.drew, fun p hp => h.2 p hp⟩
theorem Env.get {w W : World} {L : List (Nat × Val)} (h : Env w L W) (i : Nat) {g : Nat} {v : Val} (hi : L[i]? = some (g, v)) : W.cell? ⟨g, 0, none⟩ = some (.int .u8 v.k) ∧ W.cell? ⟨g, 1, none⟩ = some (.int .i64 v.n) ∧ W.cell? ⟨g, 2, none⟩ = some (.string v.s) :=
  (h.2 (g, v) (List.mem_of_getElem? hi)).cells
end Go.Proofs.Ytlmjcifiofobpaa
