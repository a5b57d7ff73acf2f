/- The abstract store and frame, and how a concrete world and frame stand to them. -/
import Derived.Test.YtgicljncknbgcaaAV
namespace Go.Proofs.Ytgicljncknbgcaa.Abs
open Go Go.ChangeShapes Go.WideShapes Go.ChangeAt Go.RowKit

/-- an object: its cells and its type -/
structure Ob where
  cs : List AV
  t : TypeId
  live : Bool := true
instance : Inhabited Ob := ⟨⟨[], 0, false⟩⟩

/-- what is known of a slice that is the call's own -/
def OwnC (M : Nat → Prop) (G : Gh) (w : World) : AV → Value → Prop
  | .list cs n (.own t e size), v => (∃ A, v = .slice A n n ∧ cs.length = n * size) ∨
      ∃ g cap cur, v = .slice (some ⟨g, 0, none⟩) n cap ∧ M g ∧ G.own g = true ∧ ¬ G.obj g ∧ G.phi g = cs.length ∧ G.tg g = t ∧ w.heap[g]? = some (.cells cur e (0, 0)) ∧ n ≤ cap ∧ cap ≤ maxLen ∧ cur.size = cap * size ∧ cs.length = n * size
  | _, _ => True
def VR (M : Nat → Prop) (G : Gh) (w : World) (a : AV) (v : Value) : Prop := VR0 G w a v ∧ OwnC M G w a v
/-- its mark, if it is the call's own -/
def AV.mark : AV → Option Nat
  | .list _ _ (.own t _ _) => some t
  | _ => none
/-- without its mark -/
def AV.plain : AV → AV
  | .list cs n (.own _ _ _) => .list cs n .unk
  | a => a
theorem VR0.plain {G : Gh} {w : World} {a : AV} {v : Value} (h : VR0 G w a v) : VR0 G w a.plain v := by
  unfold AV.plain
  split
  · simp only [VR0] at h ⊢
    obtain ⟨A, cap, h1, h2, _, h4⟩ := h
    exact ⟨A, cap, h1, h2, (fun h => by cases h), h4⟩
  · exact h
theorem OwnC.of_plain {M : Nat → Prop} {G : Gh} {w : World} {a : AV} {v : Value} (h : a.mark = none) : OwnC M G w a v := by
  unfold AV.mark at h
  unfold OwnC
  split
  · simp at h
  · trivial
theorem AV.mark_plain (a : AV) : a.plain.mark = none := by
  cases a with
  | list cs n g => cases g <;> rfl
  | _ => rfl
theorem VR.plain {M : Nat → Prop} {G : Gh} {w : World} {a : AV} {v : Value} (h : VR0 G w a v) : VR M G w a.plain v := ⟨h.plain, OwnC.of_plain a.mark_plain⟩

theorem OwnC.keep {M M' : Nat → Prop} {G G' : Gh} {w w' : World} (h : Ext M' G w G' w') {a : AV} {v : Value}
    (hM : ∀ g t, a.mark = some t → G.tg g = t → g < w.heap.size → ¬ G.obj g → G.own g = true → M g → ¬ M' g) (ho : OwnC M G w a v) : OwnC M G' w' a v := by
  unfold OwnC at *
  split
  · rename_i cs n t e size
    rcases ho with ho | ⟨g, cap, cur, h1, h2, h3, h4, h5, h6, h7, h8⟩
    · exact .inl ho
    · have hg : g < w.heap.size := by
        rcases Nat.lt_or_ge g w.heap.size with hh | hh
        · exact hh
        · rw [Array.getElem?_eq_none hh] at h7; cases h7
      obtain ⟨k1, k2, k3⟩ := h.keep g hg h4 h3 (hM g t rfl h6 hg h4 h3 h2)
      exact .inr ⟨g, cap, cur, h1, h2, (h.own g hg).trans h3, h.nobj hg h4, k2.trans h5, k3.trans h6, k1.trans h7, h8⟩
  · trivial

/-- the store's objects lie in the world, each in a block of its own -/
structure Sim (M : Nat → Prop) (G : Gh) (s : List Ob) (w : World) : Prop where
  n : G.n = s.length
  inj : ∀ i j, i < G.n → j < G.n → G.live i = true → G.live j = true → G.mu i = G.mu j → i = j
  own : ∀ i, i < G.n → G.live i = true → G.own (G.mu i) = false
  live : ∀ (i : Nat) (o : Ob), s[i]? = some o → o.live = true → G.live i = true
  lt : ∀ {i : Nat}, i < G.n → G.live i = true → G.mu i < w.heap.size
  at_ : ∀ (i : Nat) (o : Ob), s[i]? = some o → o.live = true → ∃ vs : List Value, w.heap[G.mu i]? = some (.cells vs.toArray o.t (0, 0)) ∧ vs.length = o.cs.length ∧ ∀ (k : Nat) (a : AV) (v : Value), o.cs[k]? = some a → vs[k]? = some v → VR M G w a v
/-- the frame -/
structure FR (M : Nat → Prop) (G : Gh) (w : World) (fr : List AV) (a : Act) : Prop where
  defers : a.defers = []
  size : a.tmps.size = fr.length
  at_ : ∀ t, VR M G w (fr.getD t .undef) (a.tmps.getD t undef)

def absS : Value → AV
  | .int k n => .int k n
  | .bool b => .bool b
  | .string s => .str s.data.toList
  | .pointer a => if a = none then .nilp else .undef
  | .slice a n c => if a = none ∧ n = 0 ∧ c = 0 then .list [] 0 .full else .undef
  | .nilFunc => .nilf
  | .func fn a b => if a.size = 0 ∧ b.size = 0 then .func fn [] else .undef
  | .tuple a => if a.size = 0 then .tuple [] else .undef
  | _ => .undef
def absV : Value → AV
  | .agg cs => .agg (cs.toList.map absS)
  | v => absS v
theorem absS_VR0 (G : Gh) (w : World) (v : Value) : VR0 G w (absS v) v := by
  cases v <;> simp only [absS, VR0]
  case pointer a =>
    split
    · rename_i h; subst h; simp only [VR0]
    · simp only [VR0]
  case slice a n c =>
    split
    · rename_i h
      obtain ⟨rfl, rfl, rfl⟩ := h
      simp only [VR0]
      exact ⟨none, 0, rfl, Nat.le_refl _, (fun _ => rfl), .inl (by trivial)⟩
    · simp only [VR0]
  case func fn a b =>
    split
    · rename_i h
      obtain ⟨h1, h2⟩ := h
      have h1' : a = #[] := Array.eq_empty_of_size_eq_zero h1
      have h2' : b = #[] := Array.eq_empty_of_size_eq_zero h2
      subst h1'; subst h2'
      simp only [VR0]
      exact ⟨[], rfl, by simp only [VRs0]⟩
    · simp only [VR0]
  case tuple a =>
    split
    · rename_i h
      have h' : a = #[] := Array.eq_empty_of_size_eq_zero h
      subst h'
      simp only [VR0]
      exact ⟨[], rfl, by simp only [VRs0]⟩
    · simp only [VR0]
theorem absV_VR0 (G : Gh) (w : World) (v : Value) : VR0 G w (absV v) v := by
  cases v
  case agg cs =>
    simp only [absV, VR0]
    refine ⟨cs.toList, rfl, VRs0.mk (by simp) fun i a v h1 h2 => ?_⟩
    rw [List.getElem?_map, h2] at h1
    simp at h1
    subst h1
    exact absS_VR0 G w v
  all_goals (simp only [absV]; exact absS_VR0 G w _)
theorem absS_mark (v : Value) : (absS v).mark = none := by cases v <;> simp only [absS] <;> (repeat' split) <;> rfl
theorem absV_mark (v : Value) : (absV v).mark = none := by cases v <;> simp only [absV] <;> first | rfl | exact absS_mark _

def aEval (fr : List AV) : Operand → AV
  | .tmp t => fr.getD t .undef
  | .const v => absV v
  | .func f => .func (.func f) []
  | .global _ => .undef
theorem FR.eval {M : Nat → Prop} {G : Gh} {w : World} {fr : List AV} {a : Act} (h : FR M G w fr a) (x : Operand) : VR M G w (aEval fr x) (a.eval x) := by
  cases x with
  | tmp t => exact h.at_ t
  | const v => exact ⟨absV_VR0 G w v, OwnC.of_plain (absV_mark v)⟩
  | func f => exact ⟨by simp only [aEval, VR0]; exact ⟨[], rfl, by simp only [VRs0]⟩, OwnC.of_plain rfl⟩
  | global g => exact ⟨by simp only [aEval, VR0], OwnC.of_plain rfl⟩

def aPut (fr : List AV) (d : Option Nat) (v : AV) : List AV :=
  match d with
  | some d => fr.set d v
  | none => fr
theorem FR.put {M : Nat → Prop} {G : Gh} {w : World} {fr : List AV} {a : Act} (h : FR M G w fr a) (d : Option Nat) {av : AV} {v : Value} (hv : VR M G w av v) : FR M G w (aPut fr d av) (a.put d v) := by
  cases d with
  | none => exact h
  | some d =>
    refine ⟨h.defers, by simp [aPut, Act.put, h.size], fun t => ?_⟩
    have hs := h.size
    by_cases hd : d < fr.length
    · by_cases ht : t = d
      · subst ht
        have hd' : t < a.tmps.size := by omega
        simp [aPut, Act.put, hd, hd']
        exact hv
      · have := h.at_ t
        simpa [aPut, Act.put, List.getElem?_set, Array.getElem?_setIfInBounds, ht, Ne.symm ht, List.getD_eq_getElem?_getD] using this
    · have := h.at_ t
      rw [show aPut fr (some d) av = fr by simp [aPut, List.set_eq_of_length_le (Nat.le_of_not_lt hd)]]
      rw [show (a.put (some d) v) = a by simp only [Act.put]; rw [Array.setIfInBounds_eq_of_size_le (show a.tmps.size ≤ d by omega)]]
      exact this
theorem VR.keep {M M' : Nat → Prop} {G G' : Gh} {w w' : World} (h : Ext M' G w G' w') {a : AV} {v : Value}
    (hM : ∀ g t, a.mark = some t → G.tg g = t → g < w.heap.size → ¬ G.obj g → G.own g = true → M g → ¬ M' g) (hv : VR M G w a v) : VR M G' w' a v :=
  ⟨VR0.mono h a v hv.1, hv.2.keep h hM⟩
theorem FR.keep {M M' : Nat → Prop} {G G' : Gh} {w w' : World} (h : Ext M' G w G' w') {fr : List AV} {a : Act}
    (hM : ∀ (t : Nat) g k, (fr.getD t .undef).mark = some k → G.tg g = k → g < w.heap.size → ¬ G.obj g → G.own g = true → M g → ¬ M' g) (hf : FR M G w fr a) : FR M G' w' fr a :=
  ⟨hf.defers, hf.size, fun t => (hf.at_ t).keep h (hM t)⟩
end Go.Proofs.Ytgicljncknbgcaa.Abs
