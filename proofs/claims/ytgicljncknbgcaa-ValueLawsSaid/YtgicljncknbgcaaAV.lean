/- Abstract values, ghosts, and how concrete values and worlds stand to them. -/
import Derived.WalkKit
import Derived.ProofKit
import Derived.Carry
import Derived.Deep.Draws
import Derived.Maps.AppendAt
namespace Go.Proofs.Ytgicljncknbgcaa.Abs
open Go Go.ChangeShapes Go.WideShapes Go.ChangeAt Go.RowKit

/-- how a slice may be appended to: its array is full; nobody knows; it is the call's own row (its mark, its element's type and size) -/
inductive Tag where
  | full
  | unk
  | own (t : Nat) (e : TypeId) (size : Nat)
  deriving DecidableEq

inductive AV where
  | undef
  | int (k : IntKind) (n : Int)
  | bool (b : Bool)
  | str (s : List UInt8)
  | nilp
  | ref (i o : Nat)
  | eptr (cs : List AV) (o : Nat)
  | list (cs : List AV) (n : Nat) (g : Tag)
  | arr (i n : Nat)
  | nilf
  | func (fn : Fn) (cs : List AV)
  | agg (cs : List AV)
  | tuple (vs : List AV)

instance : Inhabited AV := ⟨.undef⟩

/-- where the objects lie, which blocks are growing rows, how far these are seen, and their marks -/
structure Gh where
  n : Nat
  live : Nat → Bool
  mu : Nat → Nat
  own : Nat → Bool
  phi : Nat → Nat
  tg : Nat → Nat
def Gh.obj (G : Gh) (b : Nat) : Prop := ∃ i, i < G.n ∧ G.live i = true ∧ G.mu i = b
def CellsAt (w : World) (b o : Nat) (vs : List Value) : Prop := ∀ i v, vs[i]? = some v → w.cell? ⟨b, o + i, none⟩ = some v
def Seen (G : Gh) (w : World) (b o len : Nat) : Prop := b < w.heap.size ∧ ¬ G.obj b ∧ (G.own b = true → o + len ≤ G.phi b)

mutual
def VR0 (G : Gh) (w : World) : AV → Value → Prop
  | .undef, _ => True
  | .int k n, v => v = .int k n
  | .bool b, v => v = .bool b
  | .str s, v => v = .string ⟨s.toArray⟩
  | .nilp, v => v = .pointer none
  | .ref i o, v => v = .pointer (some ⟨G.mu i, o, none⟩) ∧ i < G.n
  | .arr i n, v => (∃ cap, v = .slice (some ⟨G.mu i, 0, none⟩) n cap ∧ n ≤ cap) ∧ i < G.n
  | .eptr cs o, v => ∃ b ob vs, v = .pointer (some ⟨b, ob + o, none⟩) ∧ Seen G w b ob cs.length ∧ CellsAt w b ob vs ∧ VRs0 G w cs vs
  | .list cs n g, v => ∃ A cap, v = .slice A n cap ∧ n ≤ cap ∧ (g = .full → cap = n) ∧ (cs = [] ∨ ∃ b o vs, A = some ⟨b, o, none⟩ ∧ Seen G w b o cs.length ∧ CellsAt w b o vs ∧ VRs0 G w cs vs)
  | .nilf, v => v = .nilFunc
  | .func fn cs, v => ∃ vs, v = .func fn #[] vs.toArray ∧ VRs0 G w cs vs
  | .agg cs, v => ∃ vs, v = .agg vs.toArray ∧ VRs0 G w cs vs
  | .tuple cs, v => ∃ vs, v = .tuple vs.toArray ∧ VRs0 G w cs vs
def VRs0 (G : Gh) (w : World) : List AV → List Value → Prop
  | [], vs => vs = []
  | a :: as, vs => ∃ v vs', vs = v :: vs' ∧ VR0 G w a v ∧ VRs0 G w as vs'
end

theorem VRs0.length {G : Gh} {w : World} : ∀ {cs : List AV} {vs : List Value}, VRs0 G w cs vs → vs.length = cs.length
  | [], _, h => by simp only [VRs0] at h; subst h; rfl
  | a :: as, vs, h => by
    simp only [VRs0] at h
    obtain ⟨v, vs', rfl, _, h2⟩ := h
    simp [h2.length]
theorem VRs0.get {G : Gh} {w : World} : ∀ {cs : List AV} {vs : List Value}, VRs0 G w cs vs → ∀ (i : Nat) (a : AV), cs[i]? = some a → ∃ v, vs[i]? = some v ∧ VR0 G w a v
  | [], _, _, i, a, hi => by simp at hi
  | a :: as, vs, h, i, b, hi => by
    simp only [VRs0] at h
    obtain ⟨v, vs', rfl, h1, h2⟩ := h
    cases i with
    | zero => simp at hi; subst hi; exact ⟨v, rfl, h1⟩
    | succ i => simpa using h2.get i b (by simpa using hi)
theorem VRs0.mk {G : Gh} {w : World} : ∀ {cs : List AV} {vs : List Value}, vs.length = cs.length → (∀ (i : Nat) (a : AV) (v : Value), cs[i]? = some a → vs[i]? = some v → VR0 G w a v) → VRs0 G w cs vs
  | [], vs, h, _ => by simp only [VRs0]; simpa using h
  | a :: as, [], h, _ => by simp at h
  | a :: as, v :: vs, h, hh => by
    simp only [VRs0]
    exact ⟨v, vs, rfl, hh 0 a v rfl rfl, VRs0.mk (by simpa using h) fun i b u hb hu => hh (i + 1) b u (by simpa using hb) (by simpa using hu)⟩

/-- how the world and the ghost may go on; M: the rows that may be written -/
structure Ext (M : Nat → Prop) (G : Gh) (w : World) (G' : Gh) (w' : World) : Prop where
  size : w.heap.size ≤ w'.heap.size
  os : w'.os = w.os
  tape : w'.tape = w.tape
  output : w'.output = w.output
  n : G.n ≤ G'.n
  live : ∀ i, i < G.n → G'.live i = true → G.live i = true
  mu : ∀ i, i < G.n → G'.mu i = G.mu i
  newobj : ∀ i, G.n ≤ i → i < G'.n → w.heap.size ≤ G'.mu i
  own : ∀ b, b < w.heap.size → G'.own b = G.own b
  phi : ∀ b, b < w.heap.size → G.own b = true → G.phi b ≤ G'.phi b
  cell : ∀ b, b < w.heap.size → ¬ G.obj b → G.own b = false → w'.heap[b]? = w.heap[b]?
  row : ∀ b, b < w.heap.size → ¬ G.obj b → G.own b = true → ∀ o, o < G.phi b → w'.cell? ⟨b, o, none⟩ = w.cell? ⟨b, o, none⟩
  keep : ∀ b, b < w.heap.size → ¬ G.obj b → G.own b = true → ¬ M b → w'.heap[b]? = w.heap[b]? ∧ G'.phi b = G.phi b ∧ G'.tg b = G.tg b

theorem Ext.refl (M : Nat → Prop) (G : Gh) (w : World) : Ext M G w G w :=
  ⟨Nat.le_refl _, rfl, rfl, rfl, Nat.le_refl _, fun _ _ h => h, fun _ _ => rfl, fun i h1 h2 => by omega, fun _ _ => rfl, fun _ _ _ => Nat.le_refl _, fun _ _ _ _ => rfl, fun _ _ _ _ _ _ => rfl, fun _ _ _ _ _ => ⟨rfl, rfl, rfl⟩⟩
theorem Ext.nobj {M : Nat → Prop} {G G' : Gh} {w w' : World} (h : Ext M G w G' w') {b : Nat} (hb : b < w.heap.size) (ho : ¬ G.obj b) : ¬ G'.obj b := by
  rintro ⟨i, hi, hl, rfl⟩
  rcases Nat.lt_or_ge i G.n with h1 | h1
  · exact ho ⟨i, h1, h.live i h1 hl, (h.mu i h1).symm⟩
  · have := h.newobj i h1 hi
    omega
theorem Ext.trans {M M' : Nat → Prop} {G G1 G2 : Gh} {w w1 w2 : World} (h : Ext M G w G1 w1) (k : Ext M' G1 w1 G2 w2) (hM : ∀ b, b < w.heap.size → M' b → M b) : Ext M G w G2 w2 where
  size := Nat.le_trans h.size k.size
  os := k.os.trans h.os
  tape := k.tape.trans h.tape
  output := k.output.trans h.output
  n := Nat.le_trans h.n k.n
  live i hi hl := h.live i hi (k.live i (Nat.lt_of_lt_of_le hi h.n) hl)
  mu i hi := (k.mu i (Nat.lt_of_lt_of_le hi h.n)).trans (h.mu i hi)
  newobj i h1 h2 := by
    rcases Nat.lt_or_ge i G1.n with h3 | h3
    · rw [k.mu i h3]; exact h.newobj i h1 h3
    · exact Nat.le_trans h.size (k.newobj i h3 h2)
  own b hb := (k.own b (Nat.lt_of_lt_of_le hb h.size)).trans (h.own b hb)
  phi b hb ho := Nat.le_trans (h.phi b hb ho) (k.phi b (Nat.lt_of_lt_of_le hb h.size) ((h.own b hb).trans ho))
  cell b hb ho hw := (k.cell b (Nat.lt_of_lt_of_le hb h.size) (h.nobj hb ho) ((h.own b hb).trans hw)).trans (h.cell b hb ho hw)
  row b hb ho hw o hlt := (k.row b (Nat.lt_of_lt_of_le hb h.size) (h.nobj hb ho) ((h.own b hb).trans hw) o (Nat.lt_of_lt_of_le hlt (h.phi b hb hw))).trans (h.row b hb ho hw o hlt)
  keep b hb ho hw hm := by
    obtain ⟨a1, a2, a3⟩ := h.keep b hb ho hw hm
    obtain ⟨b1, b2, b3⟩ := k.keep b (Nat.lt_of_lt_of_le hb h.size) (h.nobj hb ho) ((h.own b hb).trans hw) (fun hm' => hm (hM b hb hm'))
    exact ⟨b1.trans a1, b2.trans a2, b3.trans a3⟩
theorem Ext.mono {M M' : Nat → Prop} {G G1 : Gh} {w w1 : World} (h : Ext M' G w G1 w1) (hM : ∀ b, b < w.heap.size → M' b → M b) : Ext M G w G1 w1 :=
  { h with keep := fun b hb ho hw hm => h.keep b hb ho hw (fun hm' => hm (hM b hb hm')) }

theorem Seen.mono {M : Nat → Prop} {G G' : Gh} {w w' : World} (h : Ext M G w G' w') {b o len : Nat} (hs : Seen G w b o len) : Seen G' w' b o len := by
  obtain ⟨h1, h2, h3⟩ := hs
  refine ⟨Nat.lt_of_lt_of_le h1 h.size, h.nobj h1 h2, fun ho => ?_⟩
  rw [h.own b h1] at ho
  exact Nat.le_trans (h3 ho) (h.phi b h1 ho)
theorem CellsAt.mono {M : Nat → Prop} {G G' : Gh} {w w' : World} (h : Ext M G w G' w') {b o : Nat} {vs : List Value} (hs : Seen G w b o vs.length) (hc : CellsAt w b o vs) : CellsAt w' b o vs := by
  obtain ⟨h1, h2, h3⟩ := hs
  intro i v hi
  have hlt : i < vs.length := by
    rcases Nat.lt_or_ge i vs.length with h4 | h4
    · exact h4
    · rw [List.getElem?_eq_none h4] at hi; cases hi
  have hcell := hc i v hi
  cases ho : G.own b with
  | false => rw [World.cell?_of_block (w := w) (h.cell b h1 h2 ho)]; exact hcell
  | true => rw [h.row b h1 h2 ho (o + i) (by have := h3 ho; omega)]; exact hcell

mutual
theorem VR0.mono {M : Nat → Prop} {G G' : Gh} {w w' : World} (h : Ext M G w G' w') : ∀ (a : AV) (v : Value), VR0 G w a v → VR0 G' w' a v
  | .undef, _, _ => by simp only [VR0]
  | .int .., _, hv => by simp only [VR0] at hv ⊢; exact hv
  | .bool .., _, hv => by simp only [VR0] at hv ⊢; exact hv
  | .str .., _, hv => by simp only [VR0] at hv ⊢; exact hv
  | .nilp, _, hv => by simp only [VR0] at hv ⊢; exact hv
  | .ref i o, _, hv => by
    simp only [VR0] at hv ⊢
    rw [h.mu i hv.2]
    exact ⟨hv.1, Nat.lt_of_lt_of_le hv.2 h.n⟩
  | .arr i o, _, hv => by
    simp only [VR0] at hv ⊢
    rw [h.mu i hv.2]
    exact ⟨hv.1, Nat.lt_of_lt_of_le hv.2 h.n⟩
  | .eptr cs o, _, hv => by
    simp only [VR0] at hv ⊢
    obtain ⟨b, ob, vs, h1, h2, h3, h4⟩ := hv
    exact ⟨b, ob, vs, h1, h2.mono h, h3.mono h (by rw [h4.length]; exact h2), VRs0.mono h cs vs h4⟩
  | .list cs n g, _, hv => by
    simp only [VR0] at hv ⊢
    obtain ⟨A, cap, h1, h2, h3, h4⟩ := hv
    refine ⟨A, cap, h1, h2, h3, h4.imp id ?_⟩
    rintro ⟨b, o, vs, h5, h6, h7, h8⟩
    exact ⟨b, o, vs, h5, h6.mono h, h7.mono h (by rw [h8.length]; exact h6), VRs0.mono h cs vs h8⟩
  | .nilf, _, hv => by simp only [VR0] at hv ⊢; exact hv
  | .func fn cs, _, hv => by
    simp only [VR0] at hv ⊢
    obtain ⟨vs, h1, h2⟩ := hv
    exact ⟨vs, h1, VRs0.mono h cs vs h2⟩
  | .agg cs, _, hv => by
    simp only [VR0] at hv ⊢
    obtain ⟨vs, h1, h2⟩ := hv
    exact ⟨vs, h1, VRs0.mono h cs vs h2⟩
  | .tuple cs, _, hv => by
    simp only [VR0] at hv ⊢
    obtain ⟨vs, h1, h2⟩ := hv
    exact ⟨vs, h1, VRs0.mono h cs vs h2⟩
theorem VRs0.mono {M : Nat → Prop} {G G' : Gh} {w w' : World} (h : Ext M G w G' w') : ∀ (as : List AV) (vs : List Value), VRs0 G w as vs → VRs0 G' w' as vs
  | [], _, hv => by simp only [VRs0] at hv ⊢; exact hv
  | a :: as, _, hv => by
    simp only [VRs0] at hv ⊢
    obtain ⟨v, vs', h1, h2, h3⟩ := hv
    exact ⟨v, vs', h1, VR0.mono h a v h2, VRs0.mono h as vs' h3⟩
end
end Go.Proofs.Ytgicljncknbgcaa.Abs
