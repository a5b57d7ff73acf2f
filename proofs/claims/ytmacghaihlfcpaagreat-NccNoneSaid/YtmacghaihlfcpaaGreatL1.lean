/- Abstract values, ghosts, and how concrete values and worlds stand to them. -/
import Derived.WalkKit
import Derived.ProofKit
import Derived.Carry
import Derived.Deep.Draws
import Derived.Maps.AppendAt
import Derived.Laws.CopyRow
import Derived.Laws.OwnMore
namespace Go.Proofs.YtmacghaihlfcpaaGreat.Abs
open Go Go.ChangeShapes Go.WideShapes Go.ChangeAt Go.RowKit

/-- how a slice may be appended to: its array is full; nobody knows; it is the call's own row (its mark, its element's type and size) -/
inductive Tag where
  | full
  | unk
  | own (t : Nat) (e : TypeId) (size : Nat)
  deriving DecidableEq

inductive AV where
  | undef
  | int (k : IntKind) (n : Int)
  | bool (b : Bool)
  | str (s : List UInt8)
  | nilp
  | ref (i o : Nat)
  | eptr (cs : List AV) (o : Nat)
  | list (cs : List AV) (n : Nat) (g : Tag)
  | arr (i n : Nat)
  | nilf
  | mapn
  | mapr (i : Nat)
  | func (fn : Fn) (cs : List AV)
  | agg (cs : List AV)
  | tuple (vs : List AV)

instance : Inhabited AV := ⟨.undef⟩

/-- where the objects lie, which blocks are growing rows, how far these are seen, and their marks -/
structure Gh where
  n : Nat
  live : Nat → Bool
  mu : Nat → Nat
  own : Nat → Bool
  phi : Nat → Nat
  tg : Nat → Nat
def Gh.obj (G : Gh) (b : Nat) : Prop := ∃ i, i < G.n ∧ G.live i = true ∧ G.mu i = b
def CellsAt (w : World) (b o : Nat) (vs : List Value) : Prop := ∀ i v, vs[i]? = some v → w.cell? ⟨b, o + i, none⟩ = some v
def Seen (G : Gh) (w : World) (b o len : Nat) : Prop := b < w.heap.size ∧ ¬ G.obj b ∧ (G.own b = true → o + len ≤ G.phi b)

mutual
def VR0 (G : Gh) (w : World) : AV → Value → Prop
  | .undef, _ => True
  | .int k n, v => v = .int k n
  | .bool b, v => v = .bool b
  | .str s, v => v = .string ⟨s.toArray⟩
  | .nilp, v => v = .pointer none
  | .ref i o, v => v = .pointer (some ⟨G.mu i, o, none⟩) ∧ i < G.n
  | .arr i n, v => (∃ cap, v = .slice (some ⟨G.mu i, 0, none⟩) n cap ∧ n ≤ cap) ∧ i < G.n
  | .eptr cs o, v => ∃ b ob vs, v = .pointer (some ⟨b, ob + o, none⟩) ∧ Seen G w b ob cs.length ∧ CellsAt w b ob vs ∧ VRs0 G w cs vs
  | .list cs n g, v => ∃ A cap, v = .slice A n cap ∧ n ≤ cap ∧ (g = .full → cap = n) ∧ (cs = [] ∨ ∃ b o vs, A = some ⟨b, o, none⟩ ∧ Seen G w b o cs.length ∧ CellsAt w b o vs ∧ VRs0 G w cs vs)
  | .nilf, v => v = .nilFunc
  | .mapn, v => v = .map none
  | .mapr i, v => v = .map (some (G.mu i)) ∧ i < G.n
  | .func fn cs, v => ∃ vs, v = .func fn #[] vs.toArray ∧ VRs0 G w cs vs
  | .agg cs, v => ∃ vs, v = .agg vs.toArray ∧ VRs0 G w cs vs
  | .tuple cs, v => ∃ vs, v = .tuple vs.toArray ∧ VRs0 G w cs vs
def VRs0 (G : Gh) (w : World) : List AV → List Value → Prop
  | [], vs => vs = []
  | a :: as, vs => ∃ v vs', vs = v :: vs' ∧ VR0 G w a v ∧ VRs0 G w as vs'
end

theorem VRs0.length {G : Gh} {w : World} : ∀ {cs : List AV} {vs : List Value}, VRs0 G w cs vs → vs.length = cs.length
  | [], _, h => by simp only [VRs0] at h; subst h; rfl
  | a :: as, vs, h => by
    simp only [VRs0] at h
    obtain ⟨v, vs', rfl, _, h2⟩ := h
    simp [h2.length]
theorem VRs0.get {G : Gh} {w : World} : ∀ {cs : List AV} {vs : List Value}, VRs0 G w cs vs → ∀ (i : Nat) (a : AV), cs[i]? = some a → ∃ v, vs[i]? = some v ∧ VR0 G w a v
  | [], _, _, i, a, hi => by simp at hi
  | a :: as, vs, h, i, b, hi => by
    simp only [VRs0] at h
    obtain ⟨v, vs', rfl, h1, h2⟩ := h
    cases i with
    | zero => simp at hi; subst hi; exact ⟨v, rfl, h1⟩
    | succ i => simpa using h2.get i b (by simpa using hi)
theorem VRs0.mk {G : Gh} {w : World} : ∀ {cs : List AV} {vs : List Value}, vs.length = cs.length → (∀ (i : Nat) (a : AV) (v : Value), cs[i]? = some a → vs[i]? = some v → VR0 G w a v) → VRs0 G w cs vs
  | [], vs, h, _ => by simp only [VRs0]; simpa using h
  | a :: as, [], h, _ => by simp at h
  | a :: as, v :: vs, h, hh => by
    simp only [VRs0]
    exact ⟨v, vs, rfl, hh 0 a v rfl rfl, VRs0.mk (by simpa using h) fun i b u hb hu => hh (i + 1) b u (by simpa using hb) (by simpa using hu)⟩

/-- how the world and the ghost may go on; M: the rows that may be written -/
structure Ext (M : Nat → Prop) (G : Gh) (w : World) (G' : Gh) (w' : World) : Prop where
  size : w.heap.size ≤ w'.heap.size
  os : w'.os = w.os
  tape : w'.tape = w.tape
  output : w'.output = w.output
  n : G.n ≤ G'.n
  live : ∀ i, i < G.n → G'.live i = true → G.live i = true
  mu : ∀ i, i < G.n → G'.mu i = G.mu i
  newobj : ∀ i, G.n ≤ i → i < G'.n → w.heap.size ≤ G'.mu i
  own : ∀ b, b < w.heap.size → G'.own b = G.own b
  phi : ∀ b, b < w.heap.size → G.own b = true → G.phi b ≤ G'.phi b
  cell : ∀ b, b < w.heap.size → ¬ G.obj b → G.own b = false → w'.heap[b]? = w.heap[b]?
  row : ∀ b, b < w.heap.size → ¬ G.obj b → G.own b = true → ∀ o, o < G.phi b → w'.cell? ⟨b, o, none⟩ = w.cell? ⟨b, o, none⟩
  keep : ∀ b, b < w.heap.size → ¬ G.obj b → G.own b = true → ¬ M b → w'.heap[b]? = w.heap[b]? ∧ G'.phi b = G.phi b ∧ G'.tg b = G.tg b

theorem Ext.refl (M : Nat → Prop) (G : Gh) (w : World) : Ext M G w G w :=
  ⟨Nat.le_refl _, rfl, rfl, rfl, Nat.le_refl _, fun _ _ h => h, fun _ _ => rfl, fun i h1 h2 => by omega, fun _ _ => rfl, fun _ _ _ => Nat.le_refl _, fun _ _ _ _ => rfl, fun _ _ _ _ _ _ => rfl, fun _ _ _ _ _ => ⟨rfl, rfl, rfl⟩⟩
theorem Ext.nobj {M : Nat → Prop} {G G' : Gh} {w w' : World} (h : Ext M G w G' w') {b : Nat} (hb : b < w.heap.size) (ho : ¬ G.obj b) : ¬ G'.obj b := by
  rintro ⟨i, hi, hl, rfl⟩
  rcases Nat.lt_or_ge i G.n with h1 | h1
  · exact ho ⟨i, h1, h.live i h1 hl, (h.mu i h1).symm⟩
  · have := h.newobj i h1 hi
    omega
theorem Ext.trans {M M' : Nat → Prop} {G G1 G2 : Gh} {w w1 w2 : World} (h : Ext M G w G1 w1) (k : Ext M' G1 w1 G2 w2) (hM : ∀ b, b < w.heap.size → M' b → M b) : Ext M G w G2 w2 where
  size := Nat.le_trans h.size k.size
  os := k.os.trans h.os
  tape := k.tape.trans h.tape
  output := k.output.trans h.output
  n := Nat.le_trans h.n k.n
  live i hi hl := h.live i hi (k.live i (Nat.lt_of_lt_of_le hi h.n) hl)
  mu i hi := (k.mu i (Nat.lt_of_lt_of_le hi h.n)).trans (h.mu i hi)
  newobj i h1 h2 := by
    rcases Nat.lt_or_ge i G1.n with h3 | h3
    · rw [k.mu i h3]; exact h.newobj i h1 h3
    · exact Nat.le_trans h.size (k.newobj i h3 h2)
  own b hb := (k.own b (Nat.lt_of_lt_of_le hb h.size)).trans (h.own b hb)
  phi b hb ho := Nat.le_trans (h.phi b hb ho) (k.phi b (Nat.lt_of_lt_of_le hb h.size) ((h.own b hb).trans ho))
  cell b hb ho hw := (k.cell b (Nat.lt_of_lt_of_le hb h.size) (h.nobj hb ho) ((h.own b hb).trans hw)).trans (h.cell b hb ho hw)
  row b hb ho hw o hlt := (k.row b (Nat.lt_of_lt_of_le hb h.size) (h.nobj hb ho) ((h.own b hb).trans hw) o (Nat.lt_of_lt_of_le hlt (h.phi b hb hw))).trans (h.row b hb ho hw o hlt)
  keep b hb ho hw hm := by
    obtain ⟨a1, a2, a3⟩ := h.keep b hb ho hw hm
    obtain ⟨b1, b2, b3⟩ := k.keep b (Nat.lt_of_lt_of_le hb h.size) (h.nobj hb ho) ((h.own b hb).trans hw) (fun hm' => hm (hM b hb hm'))
    exact ⟨b1.trans a1, b2.trans a2, b3.trans a3⟩
theorem Ext.mono {M M' : Nat → Prop} {G G1 : Gh} {w w1 : World} (h : Ext M' G w G1 w1) (hM : ∀ b, b < w.heap.size → M' b → M b) : Ext M G w G1 w1 :=
  { h with keep := fun b hb ho hw hm => h.keep b hb ho hw (fun hm' => hm (hM b hb hm')) }

theorem Seen.mono {M : Nat → Prop} {G G' : Gh} {w w' : World} (h : Ext M G w G' w') {b o len : Nat} (hs : Seen G w b o len) : Seen G' w' b o len := by
  obtain ⟨h1, h2, h3⟩ := hs
  refine ⟨Nat.lt_of_lt_of_le h1 h.size, h.nobj h1 h2, fun ho => ?_⟩
  rw [h.own b h1] at ho
  exact Nat.le_trans (h3 ho) (h.phi b h1 ho)
theorem CellsAt.mono {M : Nat → Prop} {G G' : Gh} {w w' : World} (h : Ext M G w G' w') {b o : Nat} {vs : List Value} (hs : Seen G w b o vs.length) (hc : CellsAt w b o vs) : CellsAt w' b o vs := by
  obtain ⟨h1, h2, h3⟩ := hs
  intro i v hi
  have hlt : i < vs.length := by
    rcases Nat.lt_or_ge i vs.length with h4 | h4
    · exact h4
    · rw [List.getElem?_eq_none h4] at hi; cases hi
  have hcell := hc i v hi
  cases ho : G.own b with
  | false => rw [World.cell?_of_block (w := w) (h.cell b h1 h2 ho)]; exact hcell
  | true => rw [h.row b h1 h2 ho (o + i) (by have := h3 ho; omega)]; exact hcell

mutual
theorem VR0.mono {M : Nat → Prop} {G G' : Gh} {w w' : World} (h : Ext M G w G' w') : ∀ (a : AV) (v : Value), VR0 G w a v → VR0 G' w' a v
  | .undef, _, _ => by simp only [VR0]
  | .int .., _, hv => by simp only [VR0] at hv ⊢; exact hv
  | .bool .., _, hv => by simp only [VR0] at hv ⊢; exact hv
  | .str .., _, hv => by simp only [VR0] at hv ⊢; exact hv
  | .nilp, _, hv => by simp only [VR0] at hv ⊢; exact hv
  | .ref i o, _, hv => by
    simp only [VR0] at hv ⊢
    rw [h.mu i hv.2]
    exact ⟨hv.1, Nat.lt_of_lt_of_le hv.2 h.n⟩
  | .arr i o, _, hv => by
    simp only [VR0] at hv ⊢
    rw [h.mu i hv.2]
    exact ⟨hv.1, Nat.lt_of_lt_of_le hv.2 h.n⟩
  | .eptr cs o, _, hv => by
    simp only [VR0] at hv ⊢
    obtain ⟨b, ob, vs, h1, h2, h3, h4⟩ := hv
    exact ⟨b, ob, vs, h1, h2.mono h, h3.mono h (by rw [h4.length]; exact h2), VRs0.mono h cs vs h4⟩
  | .list cs n g, _, hv => by
    simp only [VR0] at hv ⊢
    obtain ⟨A, cap, h1, h2, h3, h4⟩ := hv
    refine ⟨A, cap, h1, h2, h3, h4.imp id ?_⟩
    rintro ⟨b, o, vs, h5, h6, h7, h8⟩
    exact ⟨b, o, vs, h5, h6.mono h, h7.mono h (by rw [h8.length]; exact h6), VRs0.mono h cs vs h8⟩
  | .nilf, _, hv => by simp only [VR0] at hv ⊢; exact hv
  | .mapn, _, hv => by simp only [VR0] at hv ⊢; exact hv
  | .mapr i, _, hv => by
    simp only [VR0] at hv ⊢
    rw [h.mu i hv.2]
    exact ⟨hv.1, Nat.lt_of_lt_of_le hv.2 h.n⟩
  | .func fn cs, _, hv => by
    simp only [VR0] at hv ⊢
    obtain ⟨vs, h1, h2⟩ := hv
    exact ⟨vs, h1, VRs0.mono h cs vs h2⟩
  | .agg cs, _, hv => by
    simp only [VR0] at hv ⊢
    obtain ⟨vs, h1, h2⟩ := hv
    exact ⟨vs, h1, VRs0.mono h cs vs h2⟩
  | .tuple cs, _, hv => by
    simp only [VR0] at hv ⊢
    obtain ⟨vs, h1, h2⟩ := hv
    exact ⟨vs, h1, VRs0.mono h cs vs h2⟩
theorem VRs0.mono {M : Nat → Prop} {G G' : Gh} {w w' : World} (h : Ext M G w G' w') : ∀ (as : List AV) (vs : List Value), VRs0 G w as vs → VRs0 G' w' as vs
  | [], _, hv => by simp only [VRs0] at hv ⊢; exact hv
  | a :: as, _, hv => by
    simp only [VRs0] at hv ⊢
    obtain ⟨v, vs', h1, h2, h3⟩ := hv
    exact ⟨v, vs', h1, VR0.mono h a v h2, VRs0.mono h as vs' h3⟩
end
end Go.Proofs.YtmacghaihlfcpaaGreat.Abs

namespace Go.Proofs.YtmacghaihlfcpaaGreat.Abs
open Go Go.ChangeShapes Go.WideShapes Go.ChangeAt Go.RowKit

/-- an object: its cells and its type -/
structure Ob where
  cs : List AV
  t : TypeId
  live : Bool := true
instance : Inhabited Ob := ⟨⟨[], 0, false⟩⟩
/-- the type by which an object that is a map is known -/
def mapT : TypeId := 1000000007
def entriesOf : List Value → List MapEntry
  | k :: v :: b :: l => ⟨k, v, match b with | .int _ n => n.toNat | _ => 0⟩ :: entriesOf l
  | _ => []
/-- the block of an object: a row of cells; or a map: its clock, then of each entry key, value, stamp; or an iterator -/
def natOf : Value → Nat
  | .int _ n => n.toNat
  | _ => 0
/-- an iterator: its map, since when, the last step's clock, the stamps seen -/
def iterObj (r : Option Nat) : List Value → Obj
  | a :: b :: l => .mapIter r (natOf a) (l.map natOf).toArray (natOf b)
  | _ => .mapIter r 0 #[] 0
def Ob.obj (o : Ob) (vs : List Value) : Obj :=
  if o.t = mapT then (match vs.head? with
    | some (.map r) => iterObj r vs.tail
    | some (.int _ n) => .map (entriesOf vs.tail).toArray n.toNat
    | _ => .map (entriesOf vs.tail).toArray 0)
  else .cells vs.toArray o.t (0, 0)
theorem Ob.obj_congr {o o' : Ob} (h : o'.t = o.t) (vs : List Value) : o'.obj vs = o.obj vs := by unfold Ob.obj; rw [h]
theorem Ob.obj_cells {o : Ob} (h : o.t ≠ mapT) (vs : List Value) : o.obj vs = .cells vs.toArray o.t (0, 0) := if_neg h

/-- what is known of a slice that is the call's own -/
def OwnC (M : Nat → Prop) (G : Gh) (w : World) : AV → Value → Prop
  | .list cs n (.own t e size), v => (∃ A, v = .slice A n n ∧ cs.length = n * size) ∨
      ∃ g cap cur, v = .slice (some ⟨g, 0, none⟩) n cap ∧ M g ∧ G.own g = true ∧ ¬ G.obj g ∧ G.phi g = cs.length ∧ G.tg g = t ∧ w.heap[g]? = some (.cells cur e (0, 0)) ∧ n ≤ cap ∧ cap ≤ maxLen ∧ cur.size = cap * size ∧ cs.length = n * size
  | _, _ => True
def VR (M : Nat → Prop) (G : Gh) (w : World) (a : AV) (v : Value) : Prop := VR0 G w a v ∧ OwnC M G w a v
/-- its mark, if it is the call's own -/
def AV.mark : AV → Option Nat
  | .list _ _ (.own t _ _) => some t
  | _ => none
/-- without its mark -/
def AV.plain : AV → AV
  | .list cs n (.own _ _ _) => .list cs n .unk
  | a => a
theorem VR0.plain {G : Gh} {w : World} {a : AV} {v : Value} (h : VR0 G w a v) : VR0 G w a.plain v := by
  unfold AV.plain
  split
  · simp only [VR0] at h ⊢
    obtain ⟨A, cap, h1, h2, _, h4⟩ := h
    exact ⟨A, cap, h1, h2, (fun h => by cases h), h4⟩
  · exact h
theorem OwnC.of_plain {M : Nat → Prop} {G : Gh} {w : World} {a : AV} {v : Value} (h : a.mark = none) : OwnC M G w a v := by
  unfold AV.mark at h
  unfold OwnC
  split
  · simp at h
  · trivial
theorem AV.mark_plain (a : AV) : a.plain.mark = none := by
  cases a with
  | list cs n g => cases g <;> rfl
  | _ => rfl
theorem VR.plain {M : Nat → Prop} {G : Gh} {w : World} {a : AV} {v : Value} (h : VR0 G w a v) : VR M G w a.plain v := ⟨h.plain, OwnC.of_plain a.mark_plain⟩

theorem OwnC.keep {M M' : Nat → Prop} {G G' : Gh} {w w' : World} (h : Ext M' G w G' w') {a : AV} {v : Value}
    (hM : ∀ g t, a.mark = some t → G.tg g = t → g < w.heap.size → ¬ G.obj g → G.own g = true → M g → ¬ M' g) (ho : OwnC M G w a v) : OwnC M G' w' a v := by
  unfold OwnC at *
  split
  · rename_i cs n t e size
    rcases ho with ho | ⟨g, cap, cur, h1, h2, h3, h4, h5, h6, h7, h8⟩
    · exact .inl ho
    · have hg : g < w.heap.size := by
        rcases Nat.lt_or_ge g w.heap.size with hh | hh
        · exact hh
        · rw [Array.getElem?_eq_none hh] at h7; cases h7
      obtain ⟨k1, k2, k3⟩ := h.keep g hg h4 h3 (hM g t rfl h6 hg h4 h3 h2)
      exact .inr ⟨g, cap, cur, h1, h2, (h.own g hg).trans h3, h.nobj hg h4, k2.trans h5, k3.trans h6, k1.trans h7, h8⟩
  · trivial

/-- the store's objects lie in the world, each in a block of its own -/
structure Sim (M : Nat → Prop) (G : Gh) (s : List Ob) (w : World) : Prop where
  n : G.n = s.length
  inj : ∀ i j, i < G.n → j < G.n → G.live i = true → G.live j = true → G.mu i = G.mu j → i = j
  own : ∀ i, i < G.n → G.live i = true → G.own (G.mu i) = false
  live : ∀ (i : Nat) (o : Ob), s[i]? = some o → o.live = true → G.live i = true
  lt : ∀ {i : Nat}, i < G.n → G.live i = true → G.mu i < w.heap.size
  at_ : ∀ (i : Nat) (o : Ob), s[i]? = some o → o.live = true → ∃ vs : List Value, w.heap[G.mu i]? = some (o.obj vs) ∧ vs.length = o.cs.length ∧ ∀ (k : Nat) (a : AV) (v : Value), o.cs[k]? = some a → vs[k]? = some v → VR M G w a v
/-- the frame -/
structure FR (M : Nat → Prop) (G : Gh) (w : World) (fr : List AV) (a : Act) : Prop where
  defers : a.defers = []
  size : a.tmps.size = fr.length
  at_ : ∀ t, VR M G w (fr.getD t .undef) (a.tmps.getD t undef)

def absS : Value → AV
  | .int k n => .int k n
  | .bool b => .bool b
  | .string s => .str s.data.toList
  | .pointer a => if a = none then .nilp else .undef
  | .slice a n c => if a = none ∧ n = 0 ∧ c = 0 then .list [] 0 .full else .undef
  | .nilFunc => .nilf
  | .map r => if r = none then .mapn else .undef
  | .func fn a b => if a.size = 0 ∧ b.size = 0 then .func fn [] else .undef
  | .tuple a => if a.size = 0 then .tuple [] else .undef
  | _ => .undef
def absV : Value → AV
  | .agg cs => .agg (cs.toList.map absS)
  | v => absS v
theorem absS_VR0 (G : Gh) (w : World) (v : Value) : VR0 G w (absS v) v := by
  cases v <;> simp only [absS, VR0]
  case pointer a =>
    split
    · rename_i h; subst h; simp only [VR0]
    · simp only [VR0]
  case map r =>
    split
    · rename_i h; subst h; simp only [VR0]
    · simp only [VR0]
  case slice a n c =>
    split
    · rename_i h
      obtain ⟨rfl, rfl, rfl⟩ := h
      simp only [VR0]
      exact ⟨none, 0, rfl, Nat.le_refl _, (fun _ => rfl), .inl (by trivial)⟩
    · simp only [VR0]
  case func fn a b =>
    split
    · rename_i h
      obtain ⟨h1, h2⟩ := h
      have h1' : a = #[] := Array.eq_empty_of_size_eq_zero h1
      have h2' : b = #[] := Array.eq_empty_of_size_eq_zero h2
      subst h1'; subst h2'
      simp only [VR0]
      exact ⟨[], rfl, by simp only [VRs0]⟩
    · simp only [VR0]
  case tuple a =>
    split
    · rename_i h
      have h' : a = #[] := Array.eq_empty_of_size_eq_zero h
      subst h'
      simp only [VR0]
      exact ⟨[], rfl, by simp only [VRs0]⟩
    · simp only [VR0]
theorem absV_VR0 (G : Gh) (w : World) (v : Value) : VR0 G w (absV v) v := by
  cases v
  case agg cs =>
    simp only [absV, VR0]
    refine ⟨cs.toList, rfl, VRs0.mk (by simp) fun i a v h1 h2 => ?_⟩
    rw [List.getElem?_map, h2] at h1
    simp at h1
    subst h1
    exact absS_VR0 G w v
  all_goals (simp only [absV]; exact absS_VR0 G w _)
theorem absS_mark (v : Value) : (absS v).mark = none := by cases v <;> simp only [absS] <;> (repeat' split) <;> rfl
theorem absV_mark (v : Value) : (absV v).mark = none := by cases v <;> simp only [absV] <;> first | rfl | exact absS_mark _

def aEval (fr : List AV) : Operand → AV
  | .tmp t => fr.getD t .undef
  | .const v => absV v
  | .func f => .func (.func f) []
  | .global _ => .undef
theorem FR.eval {M : Nat → Prop} {G : Gh} {w : World} {fr : List AV} {a : Act} (h : FR M G w fr a) (x : Operand) : VR M G w (aEval fr x) (a.eval x) := by
  cases x with
  | tmp t => exact h.at_ t
  | const v => exact ⟨absV_VR0 G w v, OwnC.of_plain (absV_mark v)⟩
  | func f => exact ⟨by simp only [aEval, VR0]; exact ⟨[], rfl, by simp only [VRs0]⟩, OwnC.of_plain rfl⟩
  | global g => exact ⟨by simp only [aEval, VR0], OwnC.of_plain rfl⟩

def aPut (fr : List AV) (d : Option Nat) (v : AV) : List AV :=
  match d with
  | some d => fr.set d v
  | none => fr
theorem FR.put {M : Nat → Prop} {G : Gh} {w : World} {fr : List AV} {a : Act} (h : FR M G w fr a) (d : Option Nat) {av : AV} {v : Value} (hv : VR M G w av v) : FR M G w (aPut fr d av) (a.put d v) := by
  cases d with
  | none => exact h
  | some d =>
    refine ⟨h.defers, by simp [aPut, Act.put, h.size], fun t => ?_⟩
    have hs := h.size
    by_cases hd : d < fr.length
    · by_cases ht : t = d
      · subst ht
        have hd' : t < a.tmps.size := by omega
        simp [aPut, Act.put, hd, hd']
        exact hv
      · have := h.at_ t
        simpa [aPut, Act.put, List.getElem?_set, Array.getElem?_setIfInBounds, ht, Ne.symm ht, List.getD_eq_getElem?_getD] using this
    · have := h.at_ t
      rw [show aPut fr (some d) av = fr by simp [aPut, List.set_eq_of_length_le (Nat.le_of_not_lt hd)]]
      rw [show (a.put (some d) v) = a by simp only [Act.put]; rw [Array.setIfInBounds_eq_of_size_le (show a.tmps.size ≤ d by omega)]]
      exact this
theorem VR.keep {M M' : Nat → Prop} {G G' : Gh} {w w' : World} (h : Ext M' G w G' w') {a : AV} {v : Value}
    (hM : ∀ g t, a.mark = some t → G.tg g = t → g < w.heap.size → ¬ G.obj g → G.own g = true → M g → ¬ M' g) (hv : VR M G w a v) : VR M G' w' a v :=
  ⟨VR0.mono h a v hv.1, hv.2.keep h hM⟩
theorem FR.keep {M M' : Nat → Prop} {G G' : Gh} {w w' : World} (h : Ext M' G w G' w') {fr : List AV} {a : Act}
    (hM : ∀ (t : Nat) g k, (fr.getD t .undef).mark = some k → G.tg g = k → g < w.heap.size → ¬ G.obj g → G.own g = true → M g → ¬ M' g) (hf : FR M G w fr a) : FR M G' w' fr a :=
  ⟨hf.defers, hf.size, fun t => (hf.at_ t).keep h (hM t)⟩
end Go.Proofs.YtmacghaihlfcpaaGreat.Abs

namespace Go.Proofs.YtmacghaihlfcpaaGreat.Abs
open Go Go.ChangeShapes Go.WideShapes Go.ChangeAt Go.RowKit
set_option linter.unusedVariables false
set_option linter.unusedSimpArgs false

abbrev AQ := Exit → List AV → List Ob → Prop
def Rel (M : Nat → Prop) (G0 : Gh) (w0 : World) (fr : List AV) (s : List Ob) (a : Act) (w : World) : Prop := ∃ G, Ext M G0 w0 G w ∧ Sim M G s w ∧ FR M G w fr a
def QC (M : Nat → Prop) (G0 : Gh) (w0 : World) (Q : AQ) (e : Exit) (a : Act) (w : World) : Prop :=
  (match e with | .panic _ | .outgrown => False | _ => True) ∧ ∃ fr s, Q e fr s ∧ Rel M G0 w0 fr s a w
/-- is the program's first variable an int64? -/
def gInt (P : Program) : Bool := match P.globals[0]? with
  | some g => match P.underlying g.type with
    | some (.int .i64) => true
    | _ => false
  | none => false
/-- so it holds one, and nobody else has its block -/
def GI (P : Program) (G : Gh) (w : World) : Prop := gInt P = true → (∃ m, w.cell? ⟨0, 0, none⟩ = some (.int .i64 m)) ∧ 0 < w.heap.size ∧ ¬ G.obj 0 ∧ G.own 0 = false
theorem GI.ext {P : Program} {M : Nat → Prop} {G G' : Gh} {w w' : World} (h : GI P G w) (hE : Ext M G w G' w') : GI P G' w' := fun hg => by
  obtain ⟨⟨m, hm⟩, hz, ho, hw⟩ := h hg
  exact ⟨⟨m, (World.cell?_of_block (hE.cell 0 hz ho hw)).trans hm⟩, Nat.lt_of_lt_of_le hz hE.size, hE.nobj hz ho, (hE.own 0 hz).trans hw⟩
def Fresh (P : Program) (M : Nat → Prop) (G : Gh) (w : World) : Prop := (∀ b, w.heap.size ≤ b → M b) ∧ GI P G w
theorem Fresh.ext {P : Program} {M M' : Nat → Prop} {G G' : Gh} {w w' : World} (h : Fresh P M G w) (hE : Ext M' G w G' w') : Fresh P M G' w' := ⟨fun b hb => h.1 b (Nat.le_trans hE.size hb), h.2.ext hE⟩
def Pre (P : Program) (n0 : Nat) (M : Nat → Prop) (G0 : Gh) (w0 : World) : Prop := Fresh P M G0 w0 ∧ G0.n ≤ n0
def AW (n0 : Nat) (P : Program) (c : Code) (fr : List AV) (s : List Ob) (Q : AQ) : Prop :=
  ∀ M G0 w0, Pre P n0 M G0 w0 → ∀ a w, Rel M G0 w0 fr s a w → c.wp P (QC M G0 w0 Q) a w
def AL (n0 : Nat) (P : Program) (ops : Array Oper) (rest : List Oper) (fr : List AV) (s : List Ob) (Q : AQ) : Prop :=
  ∀ M G0 w0, Pre P n0 M G0 w0 → ∀ a w, Rel M G0 w0 fr s a w → wpList P ops (QC M G0 w0 Q) rest a w

section
variable {n0 : Nat} {P : Program} {fr : List AV} {s : List Ob} {Q : AQ}
theorem QC.ok {M : Nat → Prop} {G0 : Gh} {w0 : World} {e : Exit} {a : Act} {w : World} (he : match e with | .panic _ | .outgrown => False | _ => True) (h : Q e fr s) (hr : Rel M G0 w0 fr s a w) : QC M G0 w0 Q e a w := ⟨he, fr, s, h, hr⟩
theorem AW.mono {c : Code} {Q' : AQ} (h : AW n0 P c fr s Q) (hq : ∀ e fr s, Q e fr s → Q' e fr s) : AW n0 P c fr s Q' :=
  fun M G0 w0 hM a w hr => wp_mono (h M G0 w0 hM a w hr) fun e a w ⟨he, fr, s, hQ, hr⟩ => ⟨he, fr, s, hq _ _ _ hQ, hr⟩
theorem AW_skip (h : Q .normal fr s) : AW n0 P .skip fr s Q := fun _ _ _ _ _ _ hr => wp_skip ⟨trivial, fr, s, h, hr⟩
theorem AW_exit {id : Nat} (h : Q (.exit id) fr s) : AW n0 P (.exit id) fr s Q := fun _ _ _ _ _ _ hr => wp_exit ⟨trivial, fr, s, h, hr⟩
theorem AW_ret (h : Q .ret fr s) : AW n0 P .ret fr s Q := fun _ _ _ _ _ _ hr => wp_ret ⟨trivial, fr, s, h, hr⟩
def aThen (next : List AV → List Ob → Prop) (Q : AQ) : AQ := fun e fr s => match e with | .normal => next fr s | e => Q e fr s
theorem AW_seq {x y : Code} (h : AW n0 P x fr s (aThen (fun fr s => AW n0 P y fr s Q) Q)) : AW n0 P (.seq x y) fr s Q := by
  intro M G0 w0 hM a w hr
  refine wp_seq (wp_mono (h M G0 w0 hM a w hr) ?_)
  rintro e a w ⟨he, fr, s, hQ, hr⟩
  cases e <;> first
    | exact hQ M G0 w0 hM a w hr
    | exact ⟨he, fr, s, hQ, hr⟩
theorem AW_cond {c : Operand} {x y : Code} {t : Bool} (hc : aEval fr c = .bool t) (h : AW n0 P (if t then x else y) fr s Q) : AW n0 P (.cond c x y) fr s Q := by
  intro M G0 w0 hM a w hr
  obtain ⟨G, h1, h2, h3⟩ := hr
  have hv := (h3.eval c).1
  rw [hc] at hv
  simp only [VR0] at hv
  exact wp_cond hv (h M G0 w0 hM a w ⟨G, h1, h2, h3⟩)
def aBlock (id : Nat) (Q : AQ) : AQ := fun e fr s => match e with | .exit id' => if id' = id then Q .normal fr s else Q (.exit id') fr s | e => Q e fr s
theorem AW_block {id : Nat} {c : Code} (h : AW n0 P c fr s (aBlock id Q)) : AW n0 P (.block id c) fr s Q := by
  intro M G0 w0 hM a w hr
  refine wp_block (wp_mono (h M G0 w0 hM a w hr) ?_)
  rintro e a w ⟨he, fr, s, hQ, hr⟩
  cases e with
  | exit id' =>
    simp only [Exit.inBlock]
    simp only [aBlock] at hQ
    split
    · rename_i h1; rw [if_pos h1] at hQ; exact ⟨trivial, fr, s, hQ, hr⟩
    · rename_i h1; rw [if_neg h1] at hQ; exact ⟨trivial, fr, s, hQ, hr⟩
  | _ => exact ⟨he, fr, s, hQ, hr⟩
theorem AW_loop {c : Code} (I : List AV → List Ob → Prop) (μ : List AV → List Ob → Nat) (h0 : I fr s)
    (round : ∀ fr s, I fr s → AW n0 P c fr s (aThen (fun fr' s' => I fr' s' ∧ μ fr' s' < μ fr s) Q)) : AW n0 P (.loop c) fr s Q := by
  intro M G0 w0 hM a w hr b k cs
  have key : ∀ n fr s a w, μ fr s = n → I fr s → Rel M G0 w0 fr s a w →
      ∃ e a' w', QC M G0 w0 Q e a' w' ∧ Arrives P (lone (b.at a (.code c :: .inLoop c :: k)) cs w) b k cs e a' w' := by
    intro n
    induction n using Nat.strongRecOn with
    | _ n ih =>
      intro fr s a w hn hI hr
      obtain ⟨e, a₁, w₁, ⟨he, fr1, s1, hq, hr1⟩, harr⟩ := round fr s hI M G0 w0 hM a w hr b (.inLoop c :: k) cs
      cases e with
      | normal =>
        obtain ⟨hI₁, hlt⟩ := hq
        obtain ⟨e₂, a₂, w₂, hq₂, harr₂⟩ := ih (μ fr1 s1) (hn ▸ hlt) fr1 s1 a₁ w₁ rfl hI₁ hr1
        exact ⟨e₂, a₂, w₂, hq₂, .of_steps (Steps.trans harr (.one step_inLoop)) harr₂⟩
      | exit id => exact ⟨_, a₁, w₁, ⟨he, fr1, s1, hq, hr1⟩, .pass (x := .inLoop c) rfl (fun _ _ => .inl (by simp)) harr⟩
      | goto l => exact ⟨_, a₁, w₁, ⟨he, fr1, s1, hq, hr1⟩, .pass (x := .inLoop c) rfl (fun _ _ => .inl (by simp)) harr⟩
      | ret => exact ⟨_, a₁, w₁, ⟨he, fr1, s1, hq, hr1⟩, .pass (x := .inLoop c) rfl (fun _ _ => .inl (by simp)) harr⟩
      | panic ch => exact he.elim
      | outgrown => exact he.elim
  obtain ⟨e, a', w', hq, harr⟩ := key _ fr s a w rfl h0 hr
  exact ⟨e, a', w', hq, .of_steps (.one step_loop) harr⟩
/-- some slots forgotten -/
def aForget (keep : List Nat) (fr : List AV) : List AV := (List.range fr.length).map fun i => if keep.contains i then fr.getD i .undef else .undef
theorem FR.forget {M : Nat → Prop} {G : Gh} {w : World} {a : Act} (keep : List Nat) (h : FR M G w fr a) : FR M G w (aForget keep fr) a := by
  refine ⟨h.defers, by simp [aForget, h.size], fun t => ?_⟩
  unfold aForget
  simp only [List.getD_eq_getElem?_getD, List.getElem?_map, List.getElem?_range]
  by_cases ht : t < fr.length
  · rw [List.getElem?_range ht]
    simp only [Option.map_some, Option.getD_some]
    split
    · have := h.at_ t
      rwa [List.getD_eq_getElem?_getD] at this
    · exact ⟨by simp only [VR0], OwnC.of_plain rfl⟩
  · rw [List.getElem?_eq_none (by simpa using ht)]
    exact ⟨by simp only [Option.map_none, Option.getD_none, VR0], OwnC.of_plain rfl⟩
theorem AW_forget {c : Code} (keep : List Nat) (h : AW n0 P c (aForget keep fr) s Q) : AW n0 P c fr s Q :=
  fun M G0 w0 hM a w ⟨G, h1, h2, h3⟩ => h M G0 w0 hM a w ⟨G, h1, h2, h3.forget keep⟩
theorem AW_region {id : Nat} {l : List Oper} (h : AL n0 P l.toArray l fr s Q) : AW n0 P (.region id l.toArray false) fr s Q :=
  fun M G0 w0 hM a w hr => wp_region_lit (h M G0 w0 hM a w hr)
theorem AL_nil {ops : Array Oper} (h : Q .normal fr s) : AL n0 P ops [] fr s Q := fun _ _ _ _ _ _ hr => ⟨trivial, fr, s, h, hr⟩

/-- an operation does this: the frame and the store behind it, and what it tells -/
def Step (P : Program) (o : Oper) (fr : List AV) (s : List Ob) (fr' : List AV) (v : AV) (s' : List Ob) : Prop :=
  ∀ M G w a, Fresh P M G w → Sim M G s w → FR M G w fr a → ∀ (K : Act → World → Prop) (Q : Exit → Act → World → Prop),
    (∀ cv G' w', Ext M G w G' w' → Sim M G' s' w' → FR M G' w' fr' a → VR M G' w' v cv → K (a.put o.dst cv) w') → o.wp P a w K Q
/-- is it asked for? -/
def aWanted (ops : Array Oper) (fr : List AV) (o : Oper) : Option Bool :=
  match o.guard with
  | none => some true
  | some (g, want) =>
    match (ops[g]?).bind (·.dst) with
    | none => none
    | some d => match fr.getD d .undef with
      | .bool b => some (b == want)
      | .tuple [] => some false
      | _ => none
theorem aWanted_spec {ops : Array Oper} {o : Oper} {b : Bool} (h : aWanted ops fr o = some b) {M : Nat → Prop} {G : Gh} {w : World} {a : Act} (hf : FR M G w fr a) : Region.wanted o (yielded ops a.tmps) = b := by
  unfold aWanted at h
  unfold Region.wanted
  split at h
  · rename_i hg; rw [hg]; simpa using h
  · rename_i g want hg
    rw [hg]
    unfold yielded
    split at h
    · cases h
    · rename_i d hd
      dsimp only
      rw [hd]
      have hv := (hf.at_ d).1
      have hs := hf.size
      have hin : ∀ v, a.tmps.getD d undef = v → d < a.tmps.size → a.tmps[d]? = some v := by
        intro v hv hlt
        rw [Array.getElem?_eq_getElem hlt]
        rw [Array.getD_eq_getD_getElem?, Array.getElem?_eq_getElem hlt] at hv
        simpa using hv
      have hout : ∀ x, fr.getD d .undef = x → x ≠ .undef → d < a.tmps.size := by
        intro x hx hne
        rcases Nat.lt_or_ge d fr.length with h1 | h1
        · rw [hs]; exact h1
        · rw [List.getD_eq_getElem?_getD, List.getElem?_eq_none h1] at hx
          exact absurd hx.symm hne
      split at h
      · rename_i t ht
        rw [ht] at hv
        simp only [VR0] at hv
        simp only [Option.bind_some]
        rw [hin _ hv (hout _ ht (by simp))]
        simp at h ⊢
        subst h
        cases t <;> cases want <;> rfl
      · rename_i ht
        rw [ht] at hv
        simp only [VR0, VRs0] at hv
        obtain ⟨vs, hv, rfl⟩ := hv
        simp only [Option.bind_some]
        rw [hin _ hv (hout _ ht (by simp))]
        simp at h ⊢
        exact h
      · cases h
theorem AL_step {ops : Array Oper} {o : Oper} {rest : List Oper} {fr' : List AV} {v : AV} {s' : List Ob} (hw : aWanted ops fr o = some true) (hs : Step P o fr s fr' v s') (h : AL n0 P ops rest (aPut fr' o.dst v) s' Q) : AL n0 P ops (o :: rest) fr s Q := by
  intro M G0 w0 hM a w ⟨G, h1, h2, h3⟩
  refine wpList_step fun K hK => ?_
  rw [if_pos (aWanted_spec hw h3)]
  exact hs M G w a (hM.1.ext h1) h2 h3 K _ fun cv G' w' k1 k2 k3 k4 => hK _ _ (h M G0 w0 hM _ _ ⟨G', h1.trans k1 (fun _ _ h => h), k2, k3.put _ k4⟩)
theorem AL_skip {ops : Array Oper} {o : Oper} {rest : List Oper} (hw : aWanted ops fr o = some false) (h : AL n0 P ops rest (aPut fr o.dst (.tuple [])) s Q) : AL n0 P ops (o :: rest) fr s Q := by
  intro M G0 w0 hM a w ⟨G, h1, h2, h3⟩
  refine wpList_step fun K hK => ?_
  rw [if_neg (by rw [aWanted_spec hw h3]; simp)]
  exact hK _ _ (h M G0 w0 hM _ _ ⟨G, h1, h2, h3.put _ ⟨by simp only [VR0]; exact ⟨[], rfl, by simp only [VRs0]⟩, OwnC.of_plain rfl⟩⟩)
end
end Go.Proofs.YtmacghaihlfcpaaGreat.Abs

namespace Go.Proofs.YtmacghaihlfcpaaGreat.Abs
open Go Go.ChangeShapes Go.WideShapes Go.ChangeAt Go.RowKit
set_option linter.unusedVariables false
set_option linter.unusedSimpArgs false

/-- the rows that a callee may write: those that the store holds as its own, and new ones -/
def storeMarks (s : List Ob) : List Nat := s.flatMap fun o => o.cs.filterMap AV.mark
def MofS (M : Nat → Prop) (G : Gh) (s : List Ob) (w : World) (b : Nat) : Prop :=
  w.heap.size ≤ b ∨ (M b ∧ ∃ t, G.tg b = t ∧ t ∈ storeMarks s)
/-- called with these the function tells that, and the store is this -/
def Ok (P : Program) (f : FuncId) (args : List AV) (s : List Ob) (r : AV) (s' : List Ob) : Prop :=
  ∀ M G w (cargs : List Value), Sim M G s w → GI P G w → VRs0 G w args cargs →
    Calls P f cargs.toArray w fun e w' => ∃ v G', e = .returned v ∧ VR (MofS M G s w) G' w' r v ∧ Sim (MofS M G s w) G' s' w' ∧ Ext (MofS M G s w) G w G' w'
def clearMark (ts : List Nat) (a : AV) : AV := match a.mark with
  | some t => if ts.contains t then a.plain else a
  | none => a
def clearMarks (ts : List Nat) (fr : List AV) : List AV := fr.map (clearMark ts)

theorem clearMark_VR0 {G : Gh} {w : World} {a : AV} {v : Value} (ts : List Nat) (h : VR0 G w a v) : VR0 G w (clearMark ts a) v := by
  unfold clearMark
  split
  · split
    · exact h.plain
    · exact h
  · exact h
theorem clearMark_OwnC {M : Nat → Prop} {G : Gh} {w : World} {a : AV} {v : Value} (ts : List Nat) (h : OwnC M G w a v) : OwnC M G w (clearMark ts a) v := by
  unfold clearMark
  split
  · split
    · exact OwnC.of_plain a.mark_plain
    · exact h
  · exact h
theorem clearMark_mark {ts : List Nat} {a : AV} {t : Nat} (h : (clearMark ts a).mark = some t) : ts.contains t = false := by
  unfold clearMark at h
  split at h
  · rename_i t' ht
    split at h
    · rw [a.mark_plain] at h; cases h
    · rename_i h2
      rw [ht] at h
      cases h
      simpa using h2
  · rename_i ht
    rw [ht] at h
    cases h
theorem FR.clear {M : Nat → Prop} {G : Gh} {w : World} {fr : List AV} {a : Act} (ts : List Nat) (h : FR M G w fr a) : FR M G w (clearMarks ts fr) a := by
  refine ⟨h.defers, by simp [clearMarks, h.size], fun t => ?_⟩
  have := h.at_ t
  unfold clearMarks
  rw [List.getD_eq_getElem?_getD, List.getElem?_map]
  rw [List.getD_eq_getElem?_getD] at this
  cases hh : fr[t]? with
  | none =>
    rw [hh] at this
    exact this
  | some x =>
    rw [hh] at this
    exact ⟨clearMark_VR0 ts this.1, clearMark_OwnC ts this.2⟩

theorem cell_of_vs {w : World} {b : Nat} {vs : List Value} {t : TypeId} (h : w.heap[b]? = some (.cells vs.toArray t (0, 0))) (k : Nat) : w.cell? ⟨b, k, none⟩ = vs[k]? := by
  simp [World.cell?, h]
theorem Sim.cellVR {M : Nat → Prop} {G : Gh} {s : List Ob} {w : World} (h : Sim M G s w) {i k : Nat} {o : Ob} {a : AV} (hi : s[i]? = some o) (hl : o.live = true) (hm : o.t ≠ mapT) (hk : o.cs[k]? = some a) : ∃ v, w.cell? ⟨G.mu i, k, none⟩ = some v ∧ VR M G w a v := by
  obtain ⟨vs, h1, h2, h3⟩ := h.at_ i o hi hl
  rw [Ob.obj_cells hm] at h1
  have hlt : k < vs.length := by
    rw [h2]
    rcases Nat.lt_or_ge k o.cs.length with h4 | h4
    · exact h4
    · rw [List.getElem?_eq_none h4] at hk; cases hk
  exact ⟨vs[k], by rw [cell_of_vs h1, List.getElem?_eq_getElem hlt], h3 k a _ hk (List.getElem?_eq_getElem hlt)⟩
/-- what the store's own rows are known to be, whoever looks -/
theorem Sim.own_M {M : Nat → Prop} {G : Gh} {s : List Ob} {w : World} (h : Sim M G s w) {b : Nat} (hb : MofS M G s w b) : w.heap.size ≤ b ∨ (M b ∧ ∃ t, G.tg b = t ∧ t ∈ storeMarks s) := hb
theorem OwnC.monoM {M M' : Nat → Prop} {G : Gh} {w : World} {a : AV} {v : Value} (h : OwnC M G w a v) (hM : ∀ b, (∃ t, a.mark = some t ∧ G.tg b = t) → M b → M' b) : OwnC M' G w a v := by
  unfold OwnC at *
  split
  · rcases h with h | ⟨g, cap, cur, rfl, h2, h3, h4, h5, h6, h7⟩
    · exact .inl h
    · exact .inr ⟨g, cap, cur, rfl, hM g ⟨_, rfl, h6⟩ h2, h3, h4, h5, h6, h7⟩
  · trivial
theorem Sim.monoM {M M' : Nat → Prop} {G : Gh} {s : List Ob} {w : World} (h : Sim M G s w) (hM : ∀ b, M b → M' b) : Sim M' G s w :=
  ⟨h.n, h.inj, h.own, h.live, h.lt, fun i o hi hl => by
    obtain ⟨vs, h1, h2, h3⟩ := h.at_ i o hi hl
    exact ⟨vs, h1, h2, fun k a v hk hv => ⟨(h3 k a v hk hv).1, (h3 k a v hk hv).2.monoM fun b _ => hM b⟩⟩⟩
theorem Sim.toS {M : Nat → Prop} {G : Gh} {s : List Ob} {w : World} (h : Sim M G s w) : Sim (MofS M G s w) G s w :=
  ⟨h.n, h.inj, h.own, h.live, h.lt, fun i o hi hl => by
    obtain ⟨vs, h1, h2, h3⟩ := h.at_ i o hi hl
    refine ⟨vs, h1, h2, fun k a v hk hv => ⟨(h3 k a v hk hv).1, (h3 k a v hk hv).2.monoM fun b hb hm => .inr ⟨hm, ?_⟩⟩⟩
    obtain ⟨t, ht, hbt⟩ := hb
    exact ⟨t, hbt, List.mem_flatMap.2 ⟨o, List.mem_of_getElem? hi, List.mem_filterMap.2 ⟨a, List.mem_of_getElem? hk, ht⟩⟩⟩⟩

/-- as an argument: nothing is known of what is behind it -/
def AV.soft : AV → AV
  | .list cs n (.own _ _ _) => .list cs n .unk
  | a => a
theorem VR0.soft {G : Gh} {w : World} {a : AV} {v : Value} (h : VR0 G w a v) : VR0 G w a.soft v := by
  unfold AV.soft
  split
  · simp only [VR0] at h ⊢
    obtain ⟨A, cap, h1, h2, _, h4⟩ := h
    exact ⟨A, cap, h1, h2, (fun h => by cases h), h4⟩
  · exact h
def enters (P : Program) (f : FuncId) : Bool := match P.funcs[f]? with
  | some fn => !(fn.name == "runtime.NumGoroutine") && fn.body.isSome
  | none => false
theorem run_enter {P : Program} {f : FuncId} (h : enters P f = true) (args : Array Value) (w : World) : (callFunc f args).run P w = .ok (.enter f args) w := by
  unfold enters at h
  split at h
  · rename_i fn hf
    simp at h
    have h2 : ¬ fn.body = none := by intro hb; simp [hb] at h
    simp [callFunc, program, hf, h.1, h2, Sem.run]
  · cases h
/-- a call, where the callee and the arguments are known -/
theorem Call_wp {P : Program} {o : Oper} {fr : List AV} {s s' : List Ob} {r : AV} {c : Call} {x : Operand} {f : FuncId} {fcs : List AV} {M : Nat → Prop} {G : Gh} {w : World} {a : Act} (ho : o.op = .call c) (hc : c.callee = .value x) (hx : aEval fr x = .func (.func f) fcs)
    (hbody : enters P f = true)
    (hok : Ok P f ((c.args.toList.map fun y => (aEval fr y).soft) ++ fcs) s r s') (hS : Sim M G s w) (hG : GI P G w) (hf : FR M G w fr a) (K : Act → World → Prop) (Q : Exit → Act → World → Prop)
    (hK : ∀ v G' w', VR (MofS M G s w) G' w' r v → Sim (MofS M G s w) G' s' w' → Ext (MofS M G s w) G w G' w' → K (a.put o.dst v) w') : o.wp P a w K Q := by
  have hv := (hf.eval x).1
  rw [hx] at hv
  simp only [VR0] at hv
  obtain ⟨cvs, hv, hcv⟩ := hv
  have hargs : ∀ l : List Operand, VRs0 G w (l.map fun y => (aEval fr y).soft) (l.map a.eval) := by
    intro l
    induction l with
    | nil => simp only [List.map_nil, VRs0]
    | cons y l ih =>
      simp only [List.map_cons, VRs0]
      exact ⟨_, _, rfl, (hf.eval y).1.soft, ih⟩
  have happ : ∀ (l m : List AV) (x y : List Value), VRs0 G w l x → VRs0 G w m y → VRs0 G w (l ++ m) (x ++ y) := by
    intro l
    induction l with
    | nil => intro m x y h1 h2; simp only [VRs0] at h1; subst h1; exact h2
    | cons a l ih =>
      intro m x y h1 h2
      simp only [VRs0] at h1
      obtain ⟨v, vs', rfl, h3, h4⟩ := h1
      simp only [List.cons_append, VRs0]
      exact ⟨v, _, rfl, h3, ih m vs' y h4 h2⟩
  have hcall := hok M G w _ hS hG (happ _ _ _ _ (hargs c.args.toList) hcv)
  have hrun : (execOp a.eval o).run P w = .ok (.enter f ((c.args.toList.map a.eval) ++ cvs).toArray) w := by
    have e1 : c.args.map a.eval ++ cvs.toArray = ((c.args.toList.map a.eval) ++ cvs).toArray := by
      apply Array.ext'
      simp
    simp [execOp, ho, resolve, hc, hv, Deferred.ofValue, invoke, run_enter hbody, e1]
  unfold Oper.wp
  rw [hrun, Oper.upon_enter]
  refine hcall.mono ?_
  rintro e w' ⟨v, G', rfl, h1, h2, h3⟩
  exact hK v G' w' h1 h2 h3
theorem Step_call {P : Program} {o : Oper} {fr : List AV} {s s' : List Ob} {r : AV} {c : Call} {x : Operand} {f : FuncId} {fcs : List AV} (ho : o.op = .call c) (hc : c.callee = .value x) (hx : aEval fr x = .func (.func f) fcs)
    (hbody : enters P f = true)
    (hok : Ok P f ((c.args.toList.map fun y => (aEval fr y).soft) ++ fcs) s r s') : Step P o fr s (clearMarks (storeMarks s) fr) r s' := by
  intro M G w a hF hS hf K Q hK
  have hsub : ∀ b, MofS M G s w b → M b := fun b hb => by
    rcases hS.own_M hb with h | h
    · exact hF.1 b h
    · exact h.1
  refine Call_wp ho hc hx hbody hok hS hF.2 hf K Q ?_
  intro v G' w' h1 h2 h3
  have hE : Ext M G w G' w' := h3.mono fun b _ => hsub b
  refine hK v G' w' hE (h2.monoM hsub) ?_ ⟨h1.1, h1.2.monoM fun b _ => hsub b⟩
  refine FR.keep h3 ?_ (hf.clear _)
  intro t g k hk hg hlt _ _ _ hM'
  have hk' : (storeMarks s).contains k = false := by
    unfold clearMarks at hk
    rw [List.getD_eq_getElem?_getD, List.getElem?_map] at hk
    cases hh : fr[t]? with
    | none => rw [hh] at hk; cases hk
    | some x => rw [hh] at hk; exact clearMark_mark hk
  rcases hS.own_M hM' with h | ⟨_, t', ht', hmem⟩
  · omega
  · rw [hg] at ht'
    subst ht'
    rw [List.contains_eq_mem] at hk'
    simp at hk'
    exact hk' hmem

/-! the end of a function -/
mutual
/-- its pointers are to objects below n -/
def AV.refs (n : Nat) : AV → Bool
  | .ref i _ => decide (i < n)
  | .arr i _ => decide (i < n)
  | .eptr cs _ => belows n cs
  | .list cs _ _ => belows n cs
  | .func _ cs => belows n cs
  | .agg cs => belows n cs
  | .tuple cs => belows n cs
  | .undef | .int .. | .bool _ | .str _ | .nilp | .nilf | .mapn => true
  | .mapr i => decide (i < n)
def belows (n : Nat) : List AV → Bool
  | [] => true
  | a :: as => a.refs n && belows n as
end
def Gh.cut (G : Gh) (n : Nat) : Gh := { G with n := n }
theorem Seen.cut {G : Gh} {w : World} {b o len n : Nat} (hn : n ≤ G.n) (h : Seen G w b o len) : Seen (G.cut n) w b o len :=
  ⟨h.1, fun ⟨i, hi, hl, he⟩ => h.2.1 ⟨i, Nat.lt_of_lt_of_le hi hn, hl, he⟩, h.2.2⟩
mutual
theorem VR0.cut {G : Gh} {w : World} {n : Nat} (hn : n ≤ G.n) : ∀ (a : AV) (v : Value), a.refs n = true → VR0 G w a v → VR0 (G.cut n) w a v
  | .undef, _, _, _ => by simp only [VR0]
  | .int .., _, _, hv => by simp only [VR0] at hv ⊢; exact hv
  | .bool .., _, _, hv => by simp only [VR0] at hv ⊢; exact hv
  | .str .., _, _, hv => by simp only [VR0] at hv ⊢; exact hv
  | .nilp, _, _, hv => by simp only [VR0] at hv ⊢; exact hv
  | .ref i o, _, hb, hv => by
    simp only [VR0, AV.refs, decide_eq_true_eq] at hv hb ⊢
    exact ⟨hv.1, hb⟩
  | .arr i o, _, hb, hv => by
    simp only [VR0, AV.refs, decide_eq_true_eq] at hv hb ⊢
    exact ⟨hv.1, hb⟩
  | .eptr cs o, _, hb, hv => by
    simp only [VR0, AV.refs] at hv hb ⊢
    obtain ⟨b, ob, vs, h1, h2, h3, h4⟩ := hv
    exact ⟨b, ob, vs, h1, h2.cut hn, h3, VRs0.cut hn cs vs hb h4⟩
  | .list cs n g, _, hb, hv => by
    simp only [VR0, AV.refs] at hv hb ⊢
    obtain ⟨A, cap, h1, h2, h3, h4⟩ := hv
    refine ⟨A, cap, h1, h2, h3, h4.imp id ?_⟩
    rintro ⟨b, o, vs, h5, h6, h7, h8⟩
    exact ⟨b, o, vs, h5, h6.cut hn, h7, VRs0.cut hn cs vs hb h8⟩
  | .nilf, _, _, hv => by simp only [VR0] at hv ⊢; exact hv
  | .mapn, _, _, hv => by simp only [VR0] at hv ⊢; exact hv
  | .mapr i, _, hb, hv => by
    simp only [VR0, AV.refs, decide_eq_true_eq] at hv hb ⊢
    exact ⟨hv.1, hb⟩
  | .func fn cs, _, hb, hv => by
    simp only [VR0, AV.refs] at hv hb ⊢
    obtain ⟨vs, h1, h2⟩ := hv
    exact ⟨vs, h1, VRs0.cut hn cs vs hb h2⟩
  | .agg cs, _, hb, hv => by
    simp only [VR0, AV.refs] at hv hb ⊢
    obtain ⟨vs, h1, h2⟩ := hv
    exact ⟨vs, h1, VRs0.cut hn cs vs hb h2⟩
  | .tuple cs, _, hb, hv => by
    simp only [VR0, AV.refs] at hv hb ⊢
    obtain ⟨vs, h1, h2⟩ := hv
    exact ⟨vs, h1, VRs0.cut hn cs vs hb h2⟩
theorem VRs0.cut {G : Gh} {w : World} {n : Nat} (hn : n ≤ G.n) : ∀ (as : List AV) (vs : List Value), belows n as = true → VRs0 G w as vs → VRs0 (G.cut n) w as vs
  | [], _, _, hv => by simp only [VRs0] at hv ⊢; exact hv
  | a :: as, _, hb, hv => by
    simp only [VRs0, belows, Bool.and_eq_true] at hv hb ⊢
    obtain ⟨v, vs', h1, h2, h3⟩ := hv
    exact ⟨v, vs', h1, VR0.cut hn a v hb.1 h2, VRs0.cut hn as vs' hb.2 h3⟩
end
theorem belows_get {n : Nat} : ∀ {cs : List AV} {k : Nat} {a : AV}, belows n cs = true → cs[k]? = some a → a.refs n = true
  | [], k, _, _, h => by simp at h
  | b :: cs, 0, a, hb, h => by simp at h; subst h; simp only [belows, Bool.and_eq_true] at hb; exact hb.1
  | b :: cs, k + 1, a, hb, h => by simp only [belows, Bool.and_eq_true] at hb; exact belows_get hb.2 (by simpa using h)
/-- the store when a function has returned: its own objects are gone -/
def cutStore (n : Nat) (s : List Ob) : Option (List Ob) := if (s.take n).all (fun o => !o.live || belows n o.cs) then some (s.take n) else none
theorem Sim.cut {M : Nat → Prop} {G : Gh} {s s' : List Ob} {w : World} {n : Nat} (h : Sim M G s w) (hn : n ≤ G.n) (hc : cutStore n s = some s') : Sim M (G.cut n) s' w := by
  unfold cutStore at hc
  split at hc
  · rename_i hall
    cases hc
    have hlen : n ≤ s.length := h.n ▸ hn
    refine ⟨by simp [Gh.cut, Nat.min_eq_left hlen], fun i j hi hj => h.inj i j (Nat.lt_of_lt_of_le hi hn) (Nat.lt_of_lt_of_le hj hn), fun i hi => h.own i (Nat.lt_of_lt_of_le hi hn), ?_, fun {i} hi hl => h.lt (Nat.lt_of_lt_of_le hi hn) hl, ?_⟩
    · intro i o hi
      rw [List.getElem?_take] at hi
      split at hi
      · exact h.live i o hi
      · cases hi
    intro i o hi hl
    have hmem : o ∈ s.take n := List.mem_of_getElem? hi
    have hb := List.all_eq_true.1 hall o hmem
    rw [hl] at hb
    simp only [Bool.not_true, Bool.false_or] at hb
    rw [List.getElem?_take] at hi
    split at hi
    · obtain ⟨vs, h1, h2, h3⟩ := h.at_ i o hi hl
      refine ⟨vs, h1, h2, fun k a v hk hv => ?_⟩
      obtain ⟨k1, k2⟩ := h3 k a v hk hv
      refine ⟨k1.cut hn a v (belows_get hb hk), ?_⟩
      unfold OwnC at *
      split
      · rcases k2 with k2 | ⟨g, cap, cur, e1, e2, e3, e4, e5⟩
        · exact .inl k2
        · exact .inr ⟨g, cap, cur, e1, e2, e3, fun ⟨j, hj, hl, he⟩ => e4 ⟨j, Nat.lt_of_lt_of_le hj hn, hl, he⟩, e5⟩
      · trivial
    · cases hi
  · cases hc
theorem Ext.cut {M : Nat → Prop} {G G' : Gh} {w w' : World} (h : Ext M G w G' w') : Ext M G w (G'.cut G.n) w' :=
  { h with n := Nat.le_refl _, newobj := fun i h1 h2 => by simp only [Gh.cut] at h2; omega, mu := fun i hi => h.mu i hi, live := fun i hi => h.live i hi, own := h.own, phi := h.phi, keep := h.keep }

/-- of a type: none: a value of one cell; some n: one of n cells -/
def aggSize (P : Program) (t : TypeId) : Option (Option Nat) :=
  match P.underlying t with
  | some (.struct _) => (P.info? t).map fun i => some i.size
  | some (.array _ _) => (P.info? t).map fun i => some i.size
  | some _ => some none
  | none => none
theorem run_sizeOf {P : Program} {t : TypeId} {i : TypeInfo} (h : P.info? t = some i) (w : World) : (Go.sizeOf t).run P w = .ok i.size w := by simp [Go.sizeOf, typeInfo, h]
theorem aggSize_some {P : Program} {t : TypeId} {n : Nat} (h : aggSize P t = some (some n)) (w : World) : (isAgg t).run P w = .ok true w ∧ (Go.sizeOf t).run P w = .ok n w := by
  unfold aggSize at h
  split at h
  · rename_i f h1
    cases hi : P.info? t with
    | none => rw [hi] at h; cases h
    | some i =>
      rw [hi] at h
      simp at h
      exact ⟨by simp [isAgg, run_underlying h1], by rw [run_sizeOf hi, h]⟩
  · rename_i f h1
    cases hi : P.info? t with
    | none => rw [hi] at h; cases h
    | some i =>
      rw [hi] at h
      simp at h
      exact ⟨by simp [isAgg, run_underlying h1], by rw [run_sizeOf hi, h]⟩
  · cases h
  · cases h
theorem aggSize_none {P : Program} {t : TypeId} (h : aggSize P t = some none) (w : World) : (isAgg t).run P w = .ok false w := by
  unfold aggSize at h
  split at h
  · rename_i f h1
    cases hi : P.info? t <;> rw [hi] at h <;> simp at h
  · rename_i f h1
    cases hi : P.info? t <;> rw [hi] at h <;> simp at h
  · rename_i d n1 n2 h1
    simp only [isAgg, Sem.run_bind, run_underlying h1, Result.andThen_ok]
    rfl
  · cases h
/-- a variable of a type in a row of cells -/
def aLoad (P : Program) (t : TypeId) (cs : List AV) (o : Nat) : Option AV :=
  match aggSize P t with
  | some (some n) => if o + n ≤ cs.length then some (.agg (((cs.drop o).take n).map AV.plain)) else none
  | some none => cs[o]?
  | none => none
theorem Addr_add (b o k : Nat) : Addr.add ⟨b, o, none⟩ k = ⟨b, o + k, none⟩ := by
  unfold Addr.add
  split
  · rename_i h; subst h; rfl
  · rfl
theorem VRs0.drop {G : Gh} {w : World} : ∀ {cs : List AV} {vs : List Value} (k : Nat), VRs0 G w cs vs → VRs0 G w (cs.drop k) (vs.drop k)
  | _, _, 0, h => by simpa using h
  | [], _, k + 1, h => by simp only [VRs0] at h; subst h; simp only [List.drop_nil, VRs0]
  | a :: as, vs, k + 1, h => by
    simp only [VRs0] at h
    obtain ⟨v, vs', rfl, _, h2⟩ := h
    simpa using h2.drop k
theorem VRs0.take {G : Gh} {w : World} : ∀ {cs : List AV} {vs : List Value} (k : Nat), VRs0 G w cs vs → VRs0 G w (cs.take k) (vs.take k)
  | _, _, 0, h => by simp only [List.take_zero, VRs0]
  | [], _, k + 1, h => by simp only [VRs0] at h; subst h; simp only [List.take_nil, VRs0]
  | a :: as, vs, k + 1, h => by
    simp only [VRs0] at h
    obtain ⟨v, vs', rfl, h1, h2⟩ := h
    simp only [List.take_succ_cons, VRs0]
    exact ⟨v, _, rfl, h1, h2.take k⟩
theorem VRs0.plain {G : Gh} {w : World} : ∀ {cs : List AV} {vs : List Value}, VRs0 G w cs vs → VRs0 G w (cs.map AV.plain) vs
  | [], _, h => by simpa only [List.map_nil, VRs0] using h
  | a :: as, vs, h => by
    simp only [VRs0] at h
    obtain ⟨v, vs', rfl, h1, h2⟩ := h
    simp only [List.map_cons, VRs0]
    exact ⟨v, vs', rfl, h1.plain, h2.plain⟩
theorem run_loadVar {P : Program} {w : World} {G : Gh} {t : TypeId} {b o base : Nat} {cs : List AV} {vs : List Value} {av : AV} (h : aLoad P t cs o = some av) (hc : CellsAt w b base vs) (hv : VRs0 G w cs vs) :
    ∃ v, (loadVar t ⟨b, base + o, none⟩).run P w = .ok v w ∧ VR0 G w av v ∧ (aggSize P t = some none → cs[o]? = some av ∧ vs[o]? = some v) ∧ (aggSize P t ≠ some none → av.mark = none) := by
  unfold aLoad at h
  split at h
  · rename_i n hn
    split at h
    · rename_i hle
      cases h
      have hlen : vs.length = cs.length := hv.length
      have hl : ((vs.drop o).take n).length = n := by simp; omega
      have hrun := run_loadCells_list (P := P) w ⟨b, base + o, none⟩ ((vs.drop o).take n) (by
        intro j v hj
        rw [List.getElem?_take] at hj
        split at hj
        · rw [List.getElem?_drop] at hj
          have := hc (o + j) v hj
          rw [Addr_add]
          rw [← Nat.add_assoc] at this
          exact this
        · cases hj)
      rw [hl] at hrun
      refine ⟨.agg ((vs.drop o).take n).toArray, ?_, ?_, fun hh => by rw [hn] at hh; simp at hh, fun _ => rfl⟩
      · simp [loadVar, aggSize_some hn, hrun]
      · simp only [VR0]
        exact ⟨_, rfl, ((hv.drop o).take n).plain⟩
    · cases h
  · rename_i hn
    obtain ⟨v, hv1, hv2⟩ := hv.get o av h
    refine ⟨v, ?_, hv2, fun _ => ⟨h, hv1⟩, fun hh => absurd hn hh⟩
    have hcell := hc o v hv1
    simp [loadVar, aggSize_none hn, load, Sem.run, hcell]
  · cases h
/-- what the frame and the store tell as a function's results -/
def aResult (fr : List AV) (s : List Ob) (P : Program) : ResultVar → Option AV
  | .tmp t => some (fr.getD t .undef)
  | .cell a t =>
    match fr.getD a .undef with
    | .ref i o => match s[i]? with
      | some ob => if ob.live = true ∧ ob.t ≠ mapT then aLoad P t ob.cs o else none
      | _ => none
    | _ => none
def aResults (fr : List AV) (s : List Ob) (P : Program) (rs : List ResultVar) : Option AV :=
  match rs.mapM (aResult fr s P) with
  | some [a] => some a.plain
  | some l => some (.tuple (l.map AV.plain))
  | none => none
def cResult (tmps : Array Value) : ResultVar → Sem Value
  | .tmp t => pure (tmps.getD t undef)
  | .cell a t => do loadVar t (← asAddr (tmps.getD a undef))
theorem aResult_spec {P : Program} {M : Nat → Prop} {G : Gh} {w : World} {fr : List AV} {s : List Ob} {a : Act} {r : ResultVar} {av : AV} (hS : Sim M G s w) (hf : FR M G w fr a) (h : aResult fr s P r = some av) :
    ∃ v, (cResult a.tmps r).run P w = .ok v w ∧ VR0 G w av v := by
  cases r with
  | tmp t =>
    simp only [aResult, Option.some.injEq] at h
    subst h
    exact ⟨_, rfl, (hf.at_ t).1⟩
  | cell b t =>
    simp only [aResult] at h
    split at h
    · rename_i i o hb
      have hv := (hf.at_ b).1
      rw [hb] at hv
      simp only [VR0] at hv
      split at h
      · rename_i ob hi
        split at h
        case isFalse => cases h
        rename_i hl
        obtain ⟨hl, hm⟩ := hl
        obtain ⟨vs, h1, h2, h3⟩ := hS.at_ i ob hi hl
        rw [Ob.obj_cells hm] at h1
        have hvs : VRs0 G w ob.cs vs := VRs0.mk h2 fun k x v hx hvv => (h3 k x v hx hvv).1
        obtain ⟨v, k1, k2, _⟩ := run_loadVar (w := w) (b := G.mu i) (base := 0) h (fun k v hk => by rw [Nat.zero_add, cell_of_vs h1]; exact hk) hvs
        refine ⟨v, ?_, k2⟩
        rw [Nat.zero_add] at k1
        simp [cResult, hv.1, asAddr, k1]
      · cases h
    · cases h
theorem mapM_results {P : Program} {M : Nat → Prop} {G : Gh} {w : World} {fr : List AV} {s : List Ob} {a : Act} (hS : Sim M G s w) (hf : FR M G w fr a) : ∀ (rs : List ResultVar) (avs : List AV), rs.mapM (aResult fr s P) = some avs →
    ∃ vs : List Value, (rs.mapM (cResult a.tmps)).run P w = .ok vs w ∧ VRs0 G w avs vs
  | [], avs, h => by
    simp at h
    subst h
    exact ⟨[], by simp, by simp only [VRs0]⟩
  | r :: rs, avs, h => by
    simp only [List.mapM_cons] at h
    cases h1 : aResult fr s P r with
    | none => rw [h1] at h; cases h
    | some av =>
      rw [h1] at h
      cases h2 : rs.mapM (aResult fr s P) with
      | none => rw [h2] at h; cases h
      | some avs' =>
        rw [h2] at h
        simp at h
        subst h
        obtain ⟨v, k1, k2⟩ := aResult_spec hS hf h1
        obtain ⟨vs, k3, k4⟩ := mapM_results hS hf rs avs' h2
        refine ⟨v :: vs, ?_, by simp only [VRs0]; exact ⟨v, vs, rfl, k2, k4⟩⟩
        simp only [List.mapM_cons, Sem.run_bind, k1, Result.andThen_ok, k3, Sem.run_pure]
end Go.Proofs.YtmacghaihlfcpaaGreat.Abs

namespace Go.Proofs.YtmacghaihlfcpaaGreat.Abs
open Go Go.ChangeShapes Go.WideShapes Go.ChangeAt Go.RowKit
set_option linter.unusedVariables false
set_option linter.unusedSimpArgs false

section
variable {P : Program} {o : Oper} {fr : List AV} {s : List Ob}
/-- it tells this and turns nothing -/
def Still (P : Program) (o : Oper) (fr : List AV) (s : List Ob) (v : AV) : Prop := ∀ M G w a, Sim M G s w → FR M G w fr a → ∃ cv, (execOp a.eval o).run P w = .ok (.value cv) w ∧ VR M G w v cv
theorem Step_still {v : AV} (h : Still P o fr s v) : Step P o fr s fr v s := by
  intro M G w a hF hS hf K Q hK
  obtain ⟨cv, h1, h2⟩ := h M G w a hS hf
  unfold Oper.wp
  rw [h1, Oper.upon_value]
  exact hK cv G w (Ext.refl _ _ _) hS hf h2
theorem Step_move {x : Operand} (ho : o.op = .move x) : Still P o fr s (aEval fr x) := fun M G w a hS hf => ⟨a.eval x, by simp [execOp, ho], hf.eval x⟩
theorem Step_assign {x : Operand} (ho : o.op = .assign x) : Still P o fr s (aEval fr x) := fun M G w a hS hf => ⟨a.eval x, by simp [execOp, ho], hf.eval x⟩
theorem Step_pick {c x y : Operand} {b : Bool} (ho : o.op = .pick c x y) (hc : aEval fr c = .bool b) : Still P o fr s (if b then aEval fr x else aEval fr y) := fun M G w a hS hf => by
    have hv := (hf.eval c).1
    rw [hc] at hv
    simp only [VR0] at hv
    refine ⟨if b then a.eval x else a.eval y, by simp [execOp, ho, hv, asBool], ?_⟩
    cases b
    · exact hf.eval y
    · exact hf.eval x

/-! operations on values of one cell alone: the model's own text, run without a world -/
def pureRun (P : Program) {α : Type} : Sem α → Option α
  | .pure a => some a
  | .program k => pureRun P (k P)
  | .mark _ k => pureRun P k
  | _ => none
theorem pureRun_run {P : Program} {α : Type} : ∀ {x : Sem α} {a : α}, pureRun P x = some a → ∀ w, x.run P w = .ok a w
  | .pure b, a, h, w => by simp only [pureRun, Option.some.injEq] at h; subst h; rfl
  | .program k, a, h, w => by simp only [pureRun] at h; exact pureRun_run h w
  | .mark m k, a, h, w => by simp only [pureRun] at h; exact pureRun_run h w
  | .load .., _, h, _ => by simp [pureRun] at h
  | .store .., _, h, _ => by simp [pureRun] at h
  | .new .., _, h, _ => by simp [pureRun] at h
  | .shape .., _, h, _ => by simp [pureRun] at h
  | .freeze .., _, h, _ => by simp [pureRun] at h
  | .frozen .., _, h, _ => by simp [pureRun] at h
  | .getObj .., _, h, _ => by simp [pureRun] at h
  | .setObj .., _, h, _ => by simp [pureRun] at h
  | .choose .., _, h, _ => by simp [pureRun] at h
  | .sys .., _, h, _ => by simp [pureRun] at h
  | .halt .., _, h, _ => by simp [pureRun] at h
def concS : AV → Option Value
  | .int k n => some (.int k n)
  | .bool b => some (.bool b)
  | .str s => some (.string ⟨s.toArray⟩)
  | .nilp => some (.pointer none)
  | .nilf => some .nilFunc
  | .mapn => some (.map none)
  | _ => none
def conc : AV → Option Value
  | .agg cs => (cs.mapM concS).map fun l => .agg l.toArray
  | a => concS a
theorem concS_eq {G : Gh} {w : World} {a : AV} {v v' : Value} (h : concS a = some v') (hv : VR0 G w a v) : v = v' := by
  cases a <;> simp only [concS, Option.some.injEq, VR0] at h hv <;> first
    | (subst h; exact hv)
    | cases h
theorem concSs_eq {G : Gh} {w : World} : ∀ {as : List AV} {vs vs' : List Value}, as.mapM concS = some vs' → VRs0 G w as vs → vs = vs'
  | [], vs, vs', h, hv => by simp at h; simp only [VRs0] at hv; rw [hv, ← h]
  | a :: as, vs, vs', h, hv => by
    simp only [VRs0] at hv
    obtain ⟨v, vs1, rfl, h1, h2⟩ := hv
    simp only [List.mapM_cons] at h
    cases k1 : concS a with
    | none => rw [k1] at h; cases h
    | some v' =>
      rw [k1] at h
      cases k2 : as.mapM concS with
      | none => rw [k2] at h; cases h
      | some l =>
        rw [k2] at h
        simp at h
        subst h
        rw [concS_eq k1 h1, concSs_eq k2 h2]
theorem conc_eq {G : Gh} {w : World} {a : AV} {v v' : Value} (h : conc a = some v') (hv : VR0 G w a v) : v = v' := by
  cases a
  case agg cs =>
    simp only [conc, VR0] at h hv
    obtain ⟨vs, rfl, h2⟩ := hv
    cases k : cs.mapM concS with
    | none => rw [k] at h; cases h
    | some l =>
      rw [k] at h
      simp at h
      subst h
      rw [concSs_eq k h2]
  all_goals (simp only [conc] at h; exact concS_eq h hv)
def cEval (fr : List AV) (x : Operand) : Value := (conc (aEval fr x)).getD undef
def isSelect : Op → Bool | .select .. => true | _ => false
/-- what an operation tells whose operands are plain -/
def aScalar (P : Program) (fr : List AV) (o : Oper) : Option AV :=
  if (o.op.operands.toList.all fun x => (conc (aEval fr x)).isSome) && !isSelect o.op then
    match pureRun P (execOp (cEval fr) o) with
    | some (.value v) => some (absV v)
    | _ => none
  else none
theorem Step_scalar {v : AV} (h : aScalar P fr o = some v) : Still P o fr s v := fun M G w a hS hf => by
    unfold aScalar at h
    split at h
    · rename_i hc
      simp only [Bool.and_eq_true] at hc
      have he : execOp a.eval o = execOp (cEval fr) o := execOp_congr o (fun cs b h0 => by rw [h0] at hc; simp [isSelect] at hc) fun x hx => by
        have h1 := List.all_eq_true.1 hc.1 x (by simpa using hx)
        unfold cEval
        cases k : conc (aEval fr x) with
        | none => rw [k] at h1; cases h1
        | some v' => exact conc_eq k (hf.eval x).1
      split at h
      · rename_i cv hcv
        cases h
        exact ⟨cv, by rw [he]; exact pureRun_run hcv w, absV_VR0 G w cv, OwnC.of_plain (absV_mark cv)⟩
      · cases h
    · cases h

/-! reads of memory -/
theorem Step_load_ref {t : TypeId} {x : Operand} {i k : Nat} {ob : Ob} {v : AV} (ho : o.op = .load t x) (hx : aEval fr x = .ref i k) (hi : s[i]? = some ob) (hlv : ob.live = true) (hm : ob.t ≠ mapT) (hl : aLoad P t ob.cs k = some v) : Still P o fr s v := fun M G w a hS hf => by
    have hv := (hf.eval x).1
    rw [hx] at hv
    simp only [VR0] at hv
    obtain ⟨vs, h1, h2, h3⟩ := hS.at_ i ob hi hlv
    rw [Ob.obj_cells hm] at h1
    have hvs : VRs0 G w ob.cs vs := VRs0.mk h2 fun k x v hx hvv => (h3 k x v hx hvv).1
    obtain ⟨cv, k1, k2, k3, k4⟩ := run_loadVar (w := w) (b := G.mu i) (base := 0) hl (fun k v hk => by rw [Nat.zero_add, cell_of_vs h1]; exact hk) hvs
    rw [Nat.zero_add] at k1
    refine ⟨cv, by simp [execOp, ho, Instr.loadAt, hv.1, Instr.sureAddr, k1], k2, ?_⟩
    by_cases hag : aggSize P t = some none
    · obtain ⟨e1, e2⟩ := k3 hag
      exact (h3 k v cv e1 e2).2
    · exact OwnC.of_plain (k4 hag)
theorem Step_load_eptr {t : TypeId} {x : Operand} {cs : List AV} {k : Nat} {v : AV} (ho : o.op = .load t x) (hx : aEval fr x = .eptr cs k) (hl : aLoad P t cs k = some v) : Still P o fr s v.plain := fun M G w a hS hf => by
    have hv := (hf.eval x).1
    rw [hx] at hv
    simp only [VR0] at hv
    obtain ⟨b, ob, vs, h1, h2, h3, h4⟩ := hv
    obtain ⟨cv, k1, k2, k3, k4⟩ := run_loadVar (w := w) hl h3 h4
    exact ⟨cv, by simp [execOp, ho, Instr.loadAt, h1, Instr.sureAddr, k1], k2.plain, OwnC.of_plain v.mark_plain⟩
/-- where a field lies -/
def aField (P : Program) (t : TypeId) (f : Nat) : Option (Nat × TypeId) :=
  match P.underlying t with
  | some (.struct fs) => match fs[f]? with
    | some fd => match P.info? fd.type with
      | some i => if i.size = 0 then none else some (fd.offset, fd.type)
      | none => none
    | none => none
  | _ => none
theorem run_fieldAt {t : TypeId} {f off : Nat} {ft : TypeId} (h : aField P t f = some (off, ft)) (w : World) (b k : Nat) : (Instr.fieldAt t (.pointer (some ⟨b, k, none⟩)) f).run P w = .ok (.pointer (some ⟨b, k + off, none⟩)) w := by
  unfold aField at h
  split at h
  · rename_i fs h1
    split at h
    · rename_i fd h2
      split at h
      · rename_i i h3
        split at h
        · cases h
        · rename_i h4
          simp only [Option.some.injEq, Prod.mk.injEq] at h
          obtain ⟨h5, h6⟩ := h
          subst h5
          have h2' : fs[f]? = some fd := h2
          simp [Instr.fieldAt, run_underlying h1, h2', Instr.sureAddr, fieldPlace, run_sizeOf h3, h4, Addr_add]
      · cases h
    · cases h
  · cases h
theorem Step_fieldAddr_ref {t : TypeId} {x : Operand} {f i k off : Nat} {ft : TypeId} (ho : o.op = .fieldAddr t x f) (hx : aEval fr x = .ref i k) (hf0 : aField P t f = some (off, ft)) : Still P o fr s (.ref i (k + off)) := fun M G w a hS hf => by
    have hv := (hf.eval x).1
    rw [hx] at hv
    simp only [VR0] at hv
    exact ⟨_, by simp [execOp, ho, hv.1, run_fieldAt hf0]; rfl, by simp only [VR0]; exact ⟨trivial, hv.2⟩, OwnC.of_plain rfl⟩
theorem Step_fieldAddr_eptr {t : TypeId} {x : Operand} {f k off : Nat} {ft : TypeId} {cs : List AV} (ho : o.op = .fieldAddr t x f) (hx : aEval fr x = .eptr cs k) (hf0 : aField P t f = some (off, ft)) : Still P o fr s (.eptr cs (k + off)) := fun M G w a hS hf => by
    have hv := (hf.eval x).1
    rw [hx] at hv
    simp only [VR0] at hv
    obtain ⟨b, ob, vs, h1, h2, h3, h4⟩ := hv
    exact ⟨_, by simp [execOp, ho, h1, run_fieldAt hf0]; rfl, by simp only [VR0]; exact ⟨b, ob, vs, by rw [Nat.add_assoc], h2, h3, h4⟩, OwnC.of_plain rfl⟩
/-- a slice's element type and how many cells one has -/
def aElem (P : Program) (t : TypeId) : Option (TypeId × Nat) :=
  match P.underlying t with
  | some (.slice e) => match P.info? e with
    | some i => if i.size = 0 then none else some (e, i.size)
    | none => none
  | _ => none
theorem aElem_spec {t e : TypeId} {size : Nat} (h : aElem P t = some (e, size)) : P.underlying t = some (.slice e) ∧ ∃ i, P.info? e = some i ∧ i.size = size ∧ 0 < size := by
  unfold aElem at h
  split at h
  · rename_i e' h1
    split at h
    · rename_i i h2
      split at h
      · cases h
      · rename_i h3
        simp only [Option.some.injEq, Prod.mk.injEq] at h
        obtain ⟨rfl, rfl⟩ := h
        exact ⟨h1, i, h2, rfl, Nat.pos_of_ne_zero h3⟩
    · cases h
  · cases h
theorem Step_indexAddr {t e : TypeId} {x y : Operand} {cs : List AV} {n size : Nat} {g : Tag} {kd : IntKind} {ix : Int} (ho : o.op = .indexAddr t x y) (he : aElem P t = some (e, size)) (hx : aEval fr x = .list cs n g) (hy : aEval fr y = .int kd ix)
    (h0 : 0 ≤ ix) (h1 : ix < n) (hcs : cs ≠ []) : Still P o fr s (.eptr cs (ix.toNat * size)) := fun M G w a hS hf => by
    have hv := (hf.eval x).1
    have hu := (hf.eval y).1
    rw [hx] at hv
    rw [hy] at hu
    simp only [VR0] at hv hu
    obtain ⟨A, cap, e1, e2, e3, e4⟩ := hv
    rcases e4 with e4 | ⟨b, ob, vs, rfl, e5, e6, e7⟩
    · exact absurd e4 hcs
    · obtain ⟨h2, i, h3, h4, h5⟩ := aElem_spec he
      refine ⟨.pointer (some ⟨b, ob + ix.toNat * size, none⟩), ?_, by simp only [VR0]; exact ⟨b, ob, vs, rfl, e5, e6, e7⟩, OwnC.of_plain rfl⟩
      simp [execOp, ho, e1, hu, Instr.indexAt, asIntOf, run_underlying h2, h0, h1, run_sizeOf h3, h4, Addr_add]
theorem Step_len {c : Call} {x : Operand} {t : TypeId} {e : TypeId} {cs : List AV} {n : Nat} {g : Tag} (ho : o.op = .call c) (hc : c.callee = .builtin .len) (ha : c.args = #[x]) (ht : c.argTypes[0]? = some t) (hu : P.underlying t = some (.slice e)) (hx : aEval fr x = .list cs n g) : Still P o fr s (.int .i64 n) := fun M G w a hS hf => by
    have hv := (hf.eval x).1
    rw [hx] at hv
    simp only [VR0] at hv
    obtain ⟨A, cap, e1, e2, e3, e4⟩ := hv
    refine ⟨.int .i64 n, ?_, by simp only [VR0], OwnC.of_plain rfl⟩
    simp [execOp, ho, resolve, hc, ha, invoke, builtin, Builtin.len_, ht, run_underlying hu, e1, goInt]
theorem Step_extract {x : Operand} {k : Nat} {vs : List AV} {v : AV} (ho : o.op = .extract x k) (hx : aEval fr x = .tuple vs) (hv : vs[k]? = some v) : Still P o fr s v.plain := fun M G w a hS hf => by
    have hv' := (hf.eval x).1
    rw [hx] at hv'
    simp only [VR0] at hv'
    obtain ⟨us, h1, h2⟩ := hv'
    obtain ⟨u, h3, h4⟩ := h2.get k v hv
    exact ⟨u, by simp [execOp, ho, h1, Instr.extract, h3], h4.plain, OwnC.of_plain v.mark_plain⟩
theorem Step_nilCheck {x : Operand} (ho : o.op = .nilCheck x) (hx : match aEval fr x with | .ref .. | .eptr .. => True | _ => False) : Still P o fr s (aEval fr x) := fun M G w a hS hf => by
    have hv := hf.eval x
    refine ⟨a.eval x, ?_, hv⟩
    have hv0 := hv.1
    cases hh : aEval fr x with
    | ref i k => rw [hh] at hv0; simp only [VR0] at hv0; simp [execOp, ho, hv0.1]
    | eptr cs k =>
      rw [hh] at hv0
      simp only [VR0] at hv0
      obtain ⟨b, ob, vs, h1, _⟩ := hv0
      simp [execOp, ho, h1]
    | _ => rw [hh] at hx; exact hx.elim
theorem Step_makeFunc {fn : Fn} {captured : Array Operand} (ho : o.op = .makeFunc fn #[] captured) : Still P o fr s (.func fn (captured.toList.map fun x => (aEval fr x).plain)) := fun M G w a hS hf => by
    refine ⟨.func fn #[] (captured.map a.eval), by simp [execOp, ho, Instr.makeFunc], ?_, OwnC.of_plain rfl⟩
    simp only [VR0]
    refine ⟨(captured.map a.eval).toList, rfl, ?_⟩
    rw [Array.toList_map]
    have : ∀ l : List Operand, VRs0 G w (l.map fun x => (aEval fr x).plain) (l.map a.eval) := by
      intro l
      induction l with
      | nil => simp only [List.map_nil, VRs0]
      | cons y l ih => simp only [List.map_cons, VRs0]; exact ⟨_, _, rfl, (hf.eval y).1.plain, ih⟩
    exact this _
end
end Go.Proofs.YtmacghaihlfcpaaGreat.Abs

namespace Go.Proofs.YtmacghaihlfcpaaGreat.Abs
open Go Go.ChangeShapes Go.WideShapes Go.ChangeAt Go.RowKit
set_option linter.unusedVariables false
set_option linter.unusedSimpArgs false

/-- new ghosts: the old blocks, the old objects as they were -/
structure More (G : Gh) (w : World) (G' : Gh) : Prop where
  n : G.n ≤ G'.n
  mu : ∀ i, i < G.n → G'.mu i = G.mu i
  live : ∀ i, i < G.n → G'.live i = G.live i
  newobj : ∀ i, G.n ≤ i → i < G'.n → w.heap.size ≤ G'.mu i
  own : ∀ b, b < w.heap.size → G'.own b = G.own b
  phi : ∀ b, b < w.heap.size → G'.phi b = G.phi b
  tg : ∀ b, b < w.heap.size → G'.tg b = G.tg b
theorem Ext.grow {G G' : Gh} {w w' : World} (hg : w.grownBy w' none) (hm : More G w G') : Ext (fun _ => False) G w G' w' where
  size := hg.size
  os := hg.os
  tape := hg.tape
  output := hg.output
  n := hm.n
  mu := hm.mu
  live i hi h := (hm.live i hi).symm.trans h
  newobj := hm.newobj
  own := hm.own
  phi b hb _ := Nat.le_of_eq (hm.phi b hb).symm
  cell b hb _ _ := hg.block b hb (by simp)
  row b hb _ _ o _ := World.cell?_of_block (w := w) (hg.block b hb (by simp))
  keep b hb _ _ _ := ⟨hg.block b hb (by simp), hm.phi b hb, hm.tg b hb⟩
theorem VR.grow {M : Nat → Prop} {G G' : Gh} {w w' : World} (h : Ext (fun _ => False) G w G' w') {a : AV} {v : Value} (hv : VR M G w a v) : VR M G' w' a v := hv.keep h fun _ _ _ _ _ _ _ _ => id
theorem FR.grow {M : Nat → Prop} {G G' : Gh} {w w' : World} (h : Ext (fun _ => False) G w G' w') {fr : List AV} {a : Act} (hf : FR M G w fr a) : FR M G' w' fr a := hf.keep h fun _ _ _ _ _ _ _ _ _ => id
/-- the same objects, more blocks -/
theorem Sim.grow {M : Nat → Prop} {G G' : Gh} {s : List Ob} {w w' : World} (h : Sim M G s w) (hg : w.grownBy w' none) (hm : More G w G') (hn : G'.n = G.n) : Sim M G' s w' := by
  have hE := Ext.grow hg hm
  have hlt : ∀ i, i < G.n → G.live i = true → G.mu i < w.heap.size := fun i hi hl => h.lt hi hl
  refine ⟨hn.trans h.n, ?_, ?_, ?_, fun {i} hi hl => by
    rw [hn] at hi
    rw [hm.live i hi] at hl
    rw [hm.mu i hi]
    exact Nat.lt_of_lt_of_le (h.lt hi hl) hg.size, ?_⟩
  · intro i j hi hj h1 h2
    rw [hn] at hi hj
    rw [hm.mu i hi, hm.mu j hj]
    rw [hm.live i hi] at h1
    rw [hm.live j hj] at h2
    exact h.inj i j hi hj h1 h2
  · intro i hi hl
    rw [hn] at hi
    rw [hm.live i hi] at hl
    rw [hm.mu i hi, hm.own _ (hlt i hi hl)]
    exact h.own i hi hl
  · intro i o hi hol
    have hi' : i < G.n := by
      rw [h.n]
      rcases Nat.lt_or_ge i s.length with h4 | h4
      · exact h4
      · rw [List.getElem?_eq_none h4] at hi; cases hi
    rw [hm.live i hi']
    exact h.live i o hi hol
  · intro i o hi hl
    have hi' : i < G.n := by
      rw [h.n]
      rcases Nat.lt_or_ge i s.length with h4 | h4
      · exact h4
      · rw [List.getElem?_eq_none h4] at hi; cases hi
    obtain ⟨vs, h1, h2, h3⟩ := h.at_ i o hi hl
    refine ⟨vs, ?_, h2, fun k a v hk hv => (h3 k a v hk hv).grow hE⟩
    rw [hm.mu i hi', hg.block _ (hlt i hi' (h.live i o hi hl)) (by simp)]
    exact h1
theorem lt_of_some {α : Type} {l : List α} {i : Nat} {a : α} (h : l[i]? = some a) : i < l.length := by
  rcases Nat.lt_or_ge i l.length with h4 | h4
  · exact h4
  · rw [List.getElem?_eq_none h4] at h; cases h
def Gh.addObj (G : Gh) (b : Nat) : Gh :=
  { G with n := G.n + 1, live := fun i => if i = G.n then true else G.live i, mu := fun i => if i = G.n then b else G.mu i, own := fun x => if x = b then false else G.own x }
def Gh.addForeign (G : Gh) (b : Nat) : Gh := { G with own := fun x => if x = b then false else G.own x }
def Gh.addRow (G : Gh) (b t len : Nat) : Gh :=
  { G with own := fun x => if x = b then true else G.own x, phi := fun x => if x = b then len else G.phi x, tg := fun x => if x = b then t else G.tg x }
theorem More.addObj (G : Gh) (w : World) : More G w (G.addObj w.heap.size) := by
  refine ⟨by simp [Gh.addObj], ?_, ?_, ?_, ?_, fun _ _ => rfl, fun _ _ => rfl⟩
  · intro i hi
    simp only [Gh.addObj]
    rw [if_neg (by omega)]
  · intro i hi
    simp only [Gh.addObj]
    rw [if_neg (by omega)]
  · intro i h1 h2
    simp only [Gh.addObj] at h2 ⊢
    rw [if_pos (by omega)]
    exact Nat.le_refl _
  · intro b hb
    simp only [Gh.addObj]
    rw [if_neg (by omega)]
theorem More.addForeign (G : Gh) (w : World) : More G w (G.addForeign w.heap.size) := by
  refine ⟨by simp [Gh.addForeign], fun _ _ => rfl, fun _ _ => rfl, ?_, ?_, fun _ _ => rfl, fun _ _ => rfl⟩
  · intro i h1 h2
    simp only [Gh.addForeign] at h2
    omega
  · intro b hb
    simp only [Gh.addForeign]
    rw [if_neg (by omega)]
theorem More.addRow (G : Gh) (w : World) (t len : Nat) : More G w (G.addRow w.heap.size t len) := by
  refine ⟨by simp [Gh.addRow], fun _ _ => rfl, fun _ _ => rfl, ?_, ?_, ?_, ?_⟩
  · intro i h1 h2
    simp only [Gh.addRow] at h2
    omega
  all_goals
    intro b hb
    simp only [Gh.addRow]
    rw [if_neg (by omega)]
theorem grown_alloc (w : World) (o : Obj) : w.grownBy (w.alloc o) none := ⟨rfl, rfl, rfl, by simp, fun k hk _ => Below.heap_alloc w o k hk⟩
theorem grown_drew_alloc (w : World) (o : Obj) : w.grownBy (w.drew.alloc o) none := ⟨rfl, rfl, rfl, by simp, fun k hk _ => Below.heap_alloc w.drew o k hk⟩

/-- a new object -/
theorem Sim.addOb {M : Nat → Prop} {G : Gh} {s : List Ob} {w : World} (h : Sim M G s w) {cs : List AV} {vs : List Value} {t : TypeId} (hl : vs.length = cs.length) (hv : ∀ (k : Nat) (a : AV) (v : Value), cs[k]? = some a → vs[k]? = some v → VR M G w a v) :
    Ext (fun _ => False) G w (G.addObj w.heap.size) (w.alloc (Ob.obj ⟨cs, t, true⟩ vs)) ∧ Sim M (G.addObj w.heap.size) (s ++ [⟨cs, t, true⟩]) (w.alloc (Ob.obj ⟨cs, t, true⟩ vs)) := by
  have hg := grown_alloc w (Ob.obj ⟨cs, t, true⟩ vs)
  have hm := More.addObj G w
  have hE := Ext.grow hg hm
  refine ⟨hE, by simp [Gh.addObj, h.n], ?_, ?_, ?_, fun {i} hi hl' => by
    simp only [Gh.addObj] at hi hl' ⊢
    have hsz : (w.alloc (Ob.obj ⟨cs, t, true⟩ vs)).heap.size = w.heap.size + 1 := by simp
    rw [hsz]
    split
    · omega
    · rename_i h3
      rw [if_neg h3] at hl'
      have := h.lt (by omega) hl'
      omega, ?_⟩
  · intro i j hi hj h1 h2 heq
    simp only [Gh.addObj] at hi hj h1 h2 heq
    split at heq <;> split at heq
    · omega
    · rename_i h3 h4
      rw [if_neg h4] at h2
      have := h.lt (by omega) h2
      omega
    · rename_i h3 h4
      rw [if_neg h3] at h1
      have := h.lt (by omega) h1
      omega
    · rename_i h3 h4
      rw [if_neg h3] at h1
      rw [if_neg h4] at h2
      exact h.inj i j (by omega) (by omega) h1 h2 heq
  · intro i hi hl'
    simp only [Gh.addObj] at hi hl' ⊢
    split
    · simp
    · rename_i h3
      rw [if_neg h3] at hl'
      have := h.lt (by omega) hl'
      rw [if_neg (by omega)]
      exact h.own i (by omega) hl'
  · intro i o hi hol
    rw [List.getElem?_append] at hi
    split at hi
    · rename_i h3
      simp only [Gh.addObj]
      rw [if_neg (by rw [h.n]; omega)]
      exact h.live i o hi hol
    · rename_i h3
      have h4 : i - s.length = 0 := by
        have := lt_of_some hi
        simpa using this
      rw [h4] at hi
      simp at hi
      subst hi
      simp only [Gh.addObj]
      rw [if_pos (by rw [h.n]; omega)]
  · intro i o hi hlv
    rw [List.getElem?_append] at hi
    split at hi
    · rename_i h3
      obtain ⟨us, h4, h5, h6⟩ := h.at_ i o hi hlv
      refine ⟨us, ?_, h5, fun k a v hk hv => (h6 k a v hk hv).grow hE⟩
      have h7 : i < G.n := by rw [h.n]; exact h3
      rw [hm.mu i h7, hg.block _ (h.lt h7 (h.live i o hi hlv)) (by simp)]
      exact h4
    · rename_i h3
      have h4 : i - s.length = 0 := by
        have := lt_of_some hi
        simpa using this
      rw [h4] at hi
      simp at hi
      subst hi
      refine ⟨vs, ?_, hl, fun k a v hk hv' => (hv k a v hk hv').grow hE⟩
      simp only [Gh.addObj]
      rw [if_pos (by rw [h.n]; omega)]
      exact heap_alloc_new w _

theorem Sim.addObj {M : Nat → Prop} {G : Gh} {s : List Ob} {w : World} (h : Sim M G s w) {cs : List AV} {vs : List Value} {t : TypeId} (ht : t ≠ mapT) (hl : vs.length = cs.length) (hv : ∀ (k : Nat) (a : AV) (v : Value), cs[k]? = some a → vs[k]? = some v → VR M G w a v) :
    Ext (fun _ => False) G w (G.addObj w.heap.size) (w.alloc (.cells vs.toArray t)) ∧ Sim M (G.addObj w.heap.size) (s ++ [⟨cs, t, true⟩]) (w.alloc (.cells vs.toArray t)) := by
  have := h.addOb (t := t) hl hv
  rwa [Ob.obj_cells (o := ⟨cs, t, true⟩) ht] at this
/-- the cells of a value -/
def aCells : AV → Option (List AV)
  | .agg cs => some (cs.map AV.plain)
  | .undef | .tuple _ => none
  | a => some [a]
theorem aCells_spec {M : Nat → Prop} {G : Gh} {w : World} {a : AV} {v : Value} {cs : List AV} (h : aCells a = some cs) (hv : VR M G w a v) : v.cells.toList.length = cs.length ∧ ∀ (k : Nat) (x : AV) (u : Value), cs[k]? = some x → v.cells.toList[k]? = some u → VR M G w x u := by
  have one : ∀ (x : AV) (u : Value), VR M G w x u → u.cells = #[u] → u.cells.toList.length = [x].length ∧ ∀ (k : Nat) (y : AV) (z : Value), [x][k]? = some y → u.cells.toList[k]? = some z → VR M G w y z := by
    intro x u hx hu
    rw [hu]
    refine ⟨rfl, fun k y z h1 h2 => ?_⟩
    match k, h1, h2 with
    | 0, h1, h2 =>
      simp at h1 h2
      subst h1; subst h2
      exact hx
  have hv0 := hv.1
  cases a <;> simp only [aCells, Option.some.injEq] at h <;> simp only [VR0] at hv0
  case undef => cases h
  case tuple => cases h
  case agg as =>
    subst h
    obtain ⟨vs, rfl, h2⟩ := hv0
    refine ⟨by simp [Value.cells, h2.length], fun k x u h3 h4 => ?_⟩
    obtain ⟨u', h5, h6⟩ := h2.plain.get k x h3
    simp only [Value.cells] at h4
    rw [h5] at h4
    cases h4
    rw [List.getElem?_map] at h3
    cases h7 : as[k]? with
    | none => rw [h7] at h3; cases h3
    | some y => rw [h7] at h3; simp at h3; subst h3; exact ⟨h6, OwnC.of_plain y.mark_plain⟩
  all_goals
    subst h
    apply one _ _ hv
  case int => rw [hv0]; rfl
  case bool => rw [hv0]; rfl
  case str => rw [hv0]; rfl
  case nilp => rw [hv0]; rfl
  case ref => rw [hv0.1]; rfl
  case eptr => obtain ⟨b, ob, vs, h1, _⟩ := hv0; rw [h1]; rfl
  case list => obtain ⟨A, cap, h1, _⟩ := hv0; rw [h1]; rfl
  case arr => obtain ⟨⟨cap, h1, _⟩, _⟩ := hv0; rw [h1]; rfl
  case nilf => rw [hv0]; rfl
  case mapn => rw [hv0]; rfl
  case mapr => rw [hv0.1]; rfl
  case func => obtain ⟨vs, h1, _⟩ := hv0; rw [h1]; rfl

section
variable {P : Program} {o : Oper} {fr : List AV} {s : List Ob}
theorem Step_new {t : TypeId} {cs : List AV} (ht : t ≠ mapT) (h : ∀ M G w a, Sim M G s w → FR M G w fr a → ∃ vs : List Value, vs.length = cs.length ∧ (∀ (k : Nat) (x : AV) (u : Value), cs[k]? = some x → vs[k]? = some u → VR M G w x u) ∧
    (execOp a.eval o).run P w = .ok (.value (.pointer (some ⟨w.heap.size, 0, none⟩))) (w.alloc (.cells vs.toArray t))) : Step P o fr s fr (.ref s.length 0) (s ++ [⟨cs, t, true⟩]) := by
  intro M G w a hF hS hf K Q hK
  obtain ⟨vs, h1, h2, h3⟩ := h M G w a hS hf
  obtain ⟨hE, hS'⟩ := hS.addObj (t := t) ht h1 h2
  unfold Oper.wp
  rw [h3, Oper.upon_value]
  refine hK _ _ _ (hE.mono fun _ _ => False.elim) hS' (hf.grow hE) ⟨?_, OwnC.of_plain rfl⟩
  simp only [VR0, Gh.addObj]
  rw [if_pos hS.n.symm]
  exact ⟨rfl, by rw [hS.n]; omega⟩
theorem Step_box {t : TypeId} {x : Operand} {cs : List AV} (ht : t ≠ mapT) (ho : o.op = .box t x) (hx : aCells (aEval fr x) = some cs) : Step P o fr s fr (.ref s.length 0) (s ++ [⟨cs, t, true⟩]) :=
  Step_new ht fun M G w a hS hf => by
    obtain ⟨h1, h2⟩ := aCells_spec hx (hf.eval x)
    exact ⟨_, h1, h2, by simp [execOp, ho, Instr.box, newVar, newRow]⟩
def zeroCells (P : Program) (t : TypeId) : Option (List AV) := if t = mapT then none else match P.info? t with
  | some i => i.zero.map fun z => z.cells.toList.map absS
  | none => none
theorem Step_alloc {t : TypeId} {cs : List AV} (ht : t ≠ mapT) (ho : o.op = .alloc t) (hz : zeroCells P t = some cs) : Step P o fr s fr (.ref s.length 0) (s ++ [⟨cs, t, true⟩]) :=
  Step_new ht fun M G w a hS hf => by
    unfold zeroCells at hz
    rw [if_neg ht] at hz
    split at hz
    · rename_i i hi
      cases hzz : i.zero with
      | none => rw [hzz] at hz; cases hz
      | some z =>
        rw [hzz] at hz
        simp at hz
        subst hz
        refine ⟨z.cells.toList, by simp, fun k x u h1 h2 => ?_, by simp [execOp, ho, Instr.alloc, zeroValue, typeInfo, hi, hzz, newVar, newRow]⟩
        rw [List.getElem?_map, h2] at h1
        simp at h1
        subst h1
        exact ⟨absS_VR0 G w u, OwnC.of_plain (absS_mark u)⟩
    · cases hz
end
end Go.Proofs.YtmacghaihlfcpaaGreat.Abs

namespace Go.Proofs.YtmacghaihlfcpaaGreat.Abs
open Go Go.ChangeShapes Go.WideShapes Go.ChangeAt Go.RowKit
set_option linter.unusedVariables false
set_option linter.unusedSimpArgs false

def AV.one : AV → Bool
  | .undef | .agg _ | .tuple _ => false
  | _ => true
theorem one_cell {G : Gh} {w : World} {a : AV} {v : Value} (h : a.one = true) (hv : VR0 G w a v) : v.oneCell' = true := by
  cases a <;> simp only [AV.one] at h <;> simp only [VR0] at hv
  case undef => cases h
  case tuple => cases h
  case agg => cases h
  case int => rw [hv]; rfl
  case bool => rw [hv]; rfl
  case str => rw [hv]; rfl
  case nilp => rw [hv]; rfl
  case ref => rw [hv.1]; rfl
  case eptr => obtain ⟨b, ob, vs, h1, _⟩ := hv; rw [h1]; rfl
  case list => obtain ⟨A, cap, h1, _⟩ := hv; rw [h1]; rfl
  case arr => obtain ⟨⟨cap, h1, _⟩, _⟩ := hv; rw [h1]; rfl
  case nilf => rw [hv]; rfl
  case mapn => rw [hv]; rfl
  case mapr => rw [hv.1]; rfl
  case func => obtain ⟨vs, h1, _⟩ := hv; rw [h1]; rfl
def splice (cs : List AV) (k : Nat) (new : List AV) : List AV := cs.take k ++ new ++ cs.drop (k + new.length)
def spliceV (cs : List Value) (k : Nat) (new : List Value) : List Value := cs.take k ++ new ++ cs.drop (k + new.length)
theorem splice_VR {R : AV → Value → Prop} {cs new : List AV} {vs nv : List Value} {k : Nat} (hl : vs.length = cs.length) (hn : nv.length = new.length) (hk : k + new.length ≤ cs.length)
    (h1 : ∀ (i : Nat) (a : AV) (v : Value), cs[i]? = some a → vs[i]? = some v → R a v) (h2 : ∀ (i : Nat) (a : AV) (v : Value), new[i]? = some a → nv[i]? = some v → R a v) :
    (spliceV vs k nv).length = (splice cs k new).length ∧ ∀ (i : Nat) (a : AV) (v : Value), (splice cs k new)[i]? = some a → (spliceV vs k nv)[i]? = some v → R a v := by
  refine ⟨by simp [splice, spliceV]; omega, fun i a v ha hv => ?_⟩
  unfold splice at ha
  unfold spliceV at hv
  rw [List.append_assoc, List.getElem?_append] at ha hv
  simp only [List.length_take] at ha hv
  have e1 : min k cs.length = k := by omega
  have e2 : min k vs.length = k := by omega
  rw [e1] at ha
  rw [e2] at hv
  by_cases c1 : i < k
  · rw [if_pos c1, List.getElem?_take, if_pos c1] at ha hv
    exact h1 i a v ha hv
  · rw [if_neg c1, List.getElem?_append] at ha hv
    rw [hn] at hv
    by_cases c2 : i - k < new.length
    · rw [if_pos c2] at ha hv
      exact h2 _ a v ha hv
    · rw [if_neg c2, List.getElem?_drop] at ha hv
      exact h1 _ a v ha hv
def aStore (P : Program) (t : TypeId) (cs : List AV) (k : Nat) (new : List AV) : Option (List AV) :=
  match P.info? t with
  | some i => if i.size = new.length ∧ k + new.length ≤ cs.length ∧ new.all AV.one = true then some (splice cs k new) else none
  | none => none
section
variable {P : Program} {o : Oper} {fr : List AV} {s : List Ob}
theorem Store_core {t : TypeId} {x y : Operand} {i k : Nat} {ob : Ob} {new cs' : List AV} (ho : o.op = .store t x y) (hx : aEval fr x = .ref i k) (hi : s[i]? = some ob) (hl : ob.live = true) (hmt : ob.t ≠ mapT)
    (hy : aCells (aEval fr y) = some new) (hst : aStore P t ob.cs k new = some cs') : ∀ M G w a, Sim M G s w → FR M G w fr a → ∃ w', (execOp a.eval o).run P w = .ok .skip w' ∧ Ext (fun _ => False) G w G w' ∧ (∀ b, b ≠ G.mu i → w'.heap[b]? = w.heap[b]?) ∧ i < G.n ∧ G.live i = true ∧ Sim M G (s.set i { ob with cs := cs' }) w' := by
  intro M G w a hS hf
  have hv := (hf.eval x).1
  rw [hx] at hv
  simp only [VR0] at hv
  obtain ⟨e1, e2⟩ := aCells_spec hy (hf.eval y)
  unfold aStore at hst
  split at hst
  case h_2 => cases hst
  rename_i inf hinf
  split at hst
  case isFalse => cases hst
  rename_i hc
  obtain ⟨c1, c2, c3⟩ := hc
  cases hst
  obtain ⟨vs, h1, h2, h3⟩ := hS.at_ i ob hi hl
  rw [Ob.obj_cells hmt] at h1
  have hin : i < G.n := hv.2
  have hrun := run_storeCells_at (P := P) (G.mu i) k ob.t (a.eval y).cells.toList 0 vs.toArray w h1 (by simp at e1 ⊢; omega) (fun v hv' => by
    obtain ⟨j, hj⟩ := List.getElem?_of_mem hv'
    have hj' : j < new.length := by have := lt_of_some hj; omega
    exact one_cell (List.all_eq_true.1 c3 _ (List.getElem_mem hj')) (e2 j _ v (List.getElem?_eq_getElem hj') hj).1)
  have hG : w.heap[G.mu i]? = some (.cells vs.toArray ob.t (0, 0)) := h1
  obtain ⟨w', hw'⟩ : ∃ w', w.setRow (G.mu i) (spliceV vs k (a.eval y).cells.toList).toArray = w' := ⟨_, rfl⟩
  have hrun' : (storeCells ⟨G.mu i, k, none⟩ (a.eval y).cells.toList).run P w = .ok () w' := by
    rw [← hw', hrun]
    simp [spliceV]
  have hblk : w'.heap[G.mu i]? = some (.cells (spliceV vs k (a.eval y).cells.toList).toArray ob.t (0, 0)) := by rw [← hw']; exact setRow_heap w _ _ _ _ _ h1
  have hoth : ∀ b, b ≠ G.mu i → w'.heap[b]? = w.heap[b]? := fun b hb => by rw [← hw']; exact setRow_other w _ b _ hb
  have hE : Ext (fun _ => False) G w G w' := by
    have hsz : w'.heap.size = w.heap.size := by rw [← hw']; simp
    have hne : ∀ b, ¬ G.obj b → b ≠ G.mu i := fun b hb e => hb ⟨i, hin, hS.live i ob hi hl, e.symm⟩
    exact ⟨by omega, by rw [← hw']; rfl, by rw [← hw']; rfl, by rw [← hw']; rfl, Nat.le_refl _, fun _ _ h => h, fun _ _ => rfl, fun j h4 h5 => by omega, fun _ _ => rfl, fun _ _ _ => Nat.le_refl _,
      fun b hb ho' _ => hoth b (hne b ho'), fun b hb ho' _ o' _ => World.cell?_of_block (w := w) (hoth b (hne b ho')), fun b hb ho' _ _ => ⟨hoth b (hne b ho'), rfl, rfl⟩⟩
  have hlen : vs.length = ob.cs.length := h2
  obtain ⟨f1, f2⟩ := splice_VR (R := VR M G w) (k := k) hlen e1 c2 h3 e2
  have hS' : Sim M G (s.set i { ob with cs := splice ob.cs k new }) w' := by
    refine ⟨by simp [hS.n], hS.inj, hS.own, ?_, fun {j} hj hl => Nat.lt_of_lt_of_le (hS.lt hj hl) hE.size, ?_⟩
    · intro j o' hj hol
      rw [List.getElem?_set] at hj
      split at hj
      · rename_i hij
        subst hij
        split at hj
        · simp at hj; subst hj; exact hS.live i ob hi hl
        · cases hj
      · exact hS.live j o' hj hol
    · intro j o' hj hlv
      rw [List.getElem?_set] at hj
      split at hj
      · rename_i hij
        subst hij
        split at hj
        · simp at hj
          subst hj
          exact ⟨_, by rw [Ob.obj_cells (o := { ob with cs := splice ob.cs k new }) hmt]; exact hblk, f1, fun k' a' v' hk hv' => (f2 k' a' v' hk hv').grow hE⟩
        · cases hj
      · rename_i hij
        obtain ⟨us, g1, g2, g3⟩ := hS.at_ j o' hj hlv
        refine ⟨us, ?_, g2, fun k' a' v' hk hv' => (g3 k' a' v' hk hv').grow hE⟩
        rw [hoth]
        · exact g1
        · intro e
          have hj' : j < G.n := by rw [hS.n]; exact lt_of_some hj
          exact hij (hS.inj i j hin hj' (hS.live i ob hi hl) (hS.live j o' hj hlv) e.symm)
  have hexec : (execOp a.eval o).run P w = .ok .skip w' := by
    have hsz2 : (a.eval y).cells.size = inf.size := by
      rw [c1, ← e1]; simp
    simp [execOp, ho, Instr.storeAt, hv.1, Instr.sureAddr, storeVar, run_sizeOf hinf, hsz2, hrun']
  exact ⟨w', hexec, hE, hoth, hin, hS.live i ob hi hl, hS'⟩
theorem Step_store {t : TypeId} {x y : Operand} {i k : Nat} {ob : Ob} {new cs' : List AV} (ho : o.op = .store t x y) (hx : aEval fr x = .ref i k) (hi : s[i]? = some ob) (hl : ob.live = true) (hmt : ob.t ≠ mapT)
    (hy : aCells (aEval fr y) = some new) (hst : aStore P t ob.cs k new = some cs') : Step P o fr s fr (.tuple []) (s.set i { ob with cs := cs' }) := by
  intro M G w a hF hS hf K Q hK
  obtain ⟨w', h1, hE, _, _, _, hS'⟩ := Store_core ho hx hi hl hmt hy hst M G w a hS hf
  unfold Oper.wp
  rw [h1, Oper.upon_skip]
  exact hK undef G w' (hE.mono fun _ _ => False.elim) hS' (hf.grow hE) ⟨by simp only [VR0]; exact ⟨[], rfl, by simp only [VRs0]⟩, OwnC.of_plain rfl⟩
end

/-! values that are put together -/
def aFill (place : Nat → Option (Nat × Nat)) (cells : List AV) : List (Nat × List AV) → Option (List AV)
  | [] => some cells
  | (i, vs) :: rest =>
    match place i with
    | none => none
    | some (off, size) => if vs.length ≠ size ∨ cells.length < off + vs.length then none else aFill place (splice cells off vs) rest
theorem fold_set (off : Nat) : ∀ (l : List Value) (j : Nat) (cs : Array Value), off + j + l.length ≤ cs.size →
    ((l.zipIdx j).foldl (fun (cs : Array Value) (p : Value × Nat) => cs.setIfInBounds (off + p.2) p.1) cs).toList = spliceV cs.toList (off + j) l
  | [], j, cs, h => by simp [spliceV]
  | v :: l, j, cs, h => by
    simp only [List.zipIdx_cons, List.foldl_cons]
    rw [fold_set off l (j + 1) _ (by simp at h ⊢; omega)]
    have e := list_seg_step cs.toList (off + j) v l (by simp at h ⊢; omega)
    simpa [spliceV, Array.toList_setIfInBounds, Nat.add_assoc] using e
theorem fill_spec {M : Nat → Prop} {G : Gh} {w : World} (place : Nat → Option (Nat × Nat)) : ∀ (parts : List (Nat × AV)) (vparts : List (Nat × Value)) (aparts : List (Nat × List AV)) (cs cs' : List AV) (vs : Array Value),
    vs.toList.length = cs.length → (∀ (k : Nat) (a : AV) (v : Value), cs[k]? = some a → vs.toList[k]? = some v → VR0 G w a v) →
    parts.mapM (fun p => (aCells p.2).map fun l => (p.1, l.map AV.plain)) = some aparts → vparts.length = parts.length →
    (∀ (k : Nat) p q, parts[k]? = some p → vparts[k]? = some q → p.1 = q.1 ∧ VR M G w p.2 q.2) → aFill place cs aparts = some cs' →
    ∃ vs' : Array Value, Instr.fill place vs vparts = some vs' ∧ vs'.toList.length = cs'.length ∧ ∀ (k : Nat) (a : AV) (v : Value), cs'[k]? = some a → vs'.toList[k]? = some v → VR0 G w a v
  | [], [], aparts, cs, cs', vs, h1, h2, h3, h4, h5, h6 => by
    simp at h3
    subst h3
    simp only [aFill, Option.some.injEq] at h6
    subst h6
    exact ⟨vs, rfl, h1, h2⟩
  | [], _ :: _, _, _, _, _, _, _, _, h4, _, _ => by simp at h4
  | _ :: _, [], _, _, _, _, _, _, _, h4, _, _ => by simp at h4
  | p :: parts, q :: vparts, aparts, cs, cs', vs, h1, h2, h3, h4, h5, h6 => by
    simp only [List.mapM_cons] at h3
    cases k1 : aCells p.2 with
    | none => rw [k1] at h3; cases h3
    | some l =>
      rw [k1] at h3
      cases k2 : parts.mapM (fun p => (aCells p.2).map fun l => (p.1, l.map AV.plain)) with
      | none => rw [k2] at h3; cases h3
      | some rest =>
        rw [k2] at h3
        simp at h3
        subst h3
        obtain ⟨e0, e1⟩ := h5 0 p q rfl rfl
        obtain ⟨f1, f2⟩ := aCells_spec k1 e1
        simp only [aFill] at h6
        split at h6
        · cases h6
        · rename_i off size hp
          split at h6
          · cases h6
          · rename_i hc
            simp only [not_or, Nat.not_lt, ne_eq, Decidable.not_not, List.length_map] at hc
            obtain ⟨c1, c2⟩ := hc
            have hq : q.2.cells.size = size := by rw [← c1, ← f1]; simp
            have hfold := fold_set off q.2.cells.toList 0 vs (by simp at f1 h1 ⊢; omega)
            have hns : ∀ (k : Nat) (a : AV) (v : Value), (l.map AV.plain)[k]? = some a → q.2.cells.toList[k]? = some v → VR0 G w a v := by
              intro k a v ha hv
              rw [List.getElem?_map] at ha
              cases hh : l[k]? with
              | none => rw [hh] at ha; cases ha
              | some x => rw [hh] at ha; simp at ha; subst ha; exact (f2 k x v hh hv).1.plain
            obtain ⟨g1, g2⟩ := splice_VR (R := VR0 G w) (k := off) h1 (by simpa using f1) (by simpa using c2) h2 hns
            obtain ⟨vs', r1, r2, r3⟩ := fill_spec place parts vparts rest (splice cs off (l.map AV.plain)) cs' (spliceV vs.toList off q.2.cells.toList).toArray (by simpa using g1) (by simpa using g2) k2 (by simpa using h4)
              (fun k p' q' hp' hq' => h5 (k + 1) p' q' (by simpa using hp') (by simpa using hq')) h6
            refine ⟨vs', ?_, r2, r3⟩
            obtain ⟨qi, qv⟩ := q
            simp only at e0 hq hfold r1 f1
            subst e0
            simp only [Instr.fill, hp]
            rw [if_neg (by simp at f1 h1; simp [hq]; omega)]
            rw [← r1]
            congr 1
            apply Array.ext'
            simp only [Nat.add_zero] at hfold
            rw [← hfold]
            rw [← Array.foldl_toList]
            simp
end Go.Proofs.YtmacghaihlfcpaaGreat.Abs

namespace Go.Proofs.YtmacghaihlfcpaaGreat.Abs
open Go Go.ChangeShapes Go.WideShapes Go.ChangeAt Go.RowKit
set_option linter.unusedVariables false
set_option linter.unusedSimpArgs false

def aParts (fr : List AV) (parts : Array (Nat × Operand)) : List (Nat × AV) := parts.toList.map fun p => (p.1, aEval fr p.2)
def aPlaces (P : Program) (fs : Array Field) : Option (List (Nat × Nat)) := fs.toList.mapM fun f => (P.info? f.type).map fun i => (f.offset, i.size)
theorem run_places {P : Program} {w : World} : ∀ (fs : List Field) (l : List (Nat × Nat)), (fs.mapM fun f => (P.info? f.type).map fun i => (f.offset, i.size)) = some l →
    (fs.mapM fun f => (do pure (f.offset, ← Go.sizeOf f.type) : Sem (Nat × Nat))).run P w = .ok l w
  | [], l, h => by simp at h; subst h; simp
  | f :: fs, l, h => by
    simp only [List.mapM_cons] at h
    cases h1 : P.info? f.type with
    | none => rw [h1] at h; cases h
    | some i =>
      rw [h1] at h
      cases h2 : (fs.mapM fun f => (P.info? f.type).map fun i => (f.offset, i.size)) with
      | none => rw [h2] at h; cases h
      | some l' =>
        rw [h2] at h
        simp at h
        subst h
        have ih := run_places (w := w) fs l' h2
        simp only [List.mapM_cons, Sem.run_bind, run_sizeOf h1, Result.andThen_ok, Sem.run_pure]
        rw [ih]
        rfl
def zeroOf (P : Program) (t : TypeId) : Option Value := (P.info? t).bind (·.zero)
theorem run_zeroOf {P : Program} {t : TypeId} {z : Value} (h : zeroOf P t = some z) (w : World) : (zeroValue t).run P w = .ok z w := by
  unfold zeroOf at h
  cases h1 : P.info? t with
  | none => rw [h1] at h; cases h
  | some i =>
    rw [h1] at h
    simp at h
    simp [zeroValue, typeInfo, h1, h]
def partsOf (l : List (Nat × AV)) : Option (List (Nat × List AV)) := l.mapM fun p => (aCells p.2).map fun c => (p.1, c.map AV.plain)
/-- a struct -/
def aBuild (P : Program) (t : TypeId) (parts : List (Nat × AV)) : Option AV :=
  match P.underlying t, zeroOf P t with
  | some (.struct fs), some z =>
    match aPlaces P fs, partsOf parts with
    | some pl, some ps => (aFill (pl[·]?) (z.cells.toList.map absS) ps).map .agg
    | _, _ => none
  | some (.array _ e), some z =>
    match P.info? e, partsOf parts with
    | some i, some ps => (aFill (fun k => some (k * i.size, i.size)) (z.cells.toList.map absS) ps).map .agg
    | _, _ => none
  | _, _ => none
section
variable {P : Program} {o : Oper} {fr : List AV} {s : List Ob}
theorem zero_VR0 (G : Gh) (w : World) (z : List Value) : ∀ (k : Nat) (a : AV) (v : Value), (z.map absS)[k]? = some a → z[k]? = some v → VR0 G w a v := by
  intro k a v ha hv
  rw [List.getElem?_map, hv] at ha
  simp at ha
  subst ha
  exact absS_VR0 G w v
theorem parts_VR {M : Nat → Prop} {G : Gh} {w : World} {a : Act} (hf : FR M G w fr a) (parts : Array (Nat × Operand)) :
    (parts.toList.map fun p => (p.1, a.eval p.2)).length = (aParts fr parts).length ∧ ∀ (k : Nat) p q, (aParts fr parts)[k]? = some p → (parts.toList.map fun p => (p.1, a.eval p.2))[k]? = some q → p.1 = q.1 ∧ VR M G w p.2 q.2 := by
  refine ⟨by simp [aParts], fun k p q hp hq => ?_⟩
  unfold aParts at hp
  rw [List.getElem?_map] at hp hq
  cases h : parts.toList[k]? with
  | none => rw [h] at hp; cases hp
  | some x =>
    rw [h] at hp hq
    simp at hp hq
    subst hp; subst hq
    exact ⟨rfl, hf.eval x.2⟩
theorem Step_build {t : TypeId} {parts : Array (Nat × Operand)} {v : AV} (ho : o.op = .build t parts) (h : aBuild P t (aParts fr parts) = some v) : Still P o fr s v := fun M G w a hS hf => by
    unfold aBuild at h
    split at h
    case h_3 => cases h
    case h_1 =>
      rename_i fs z hu hz
      split at h
      case h_2 => cases h
      rename_i pl ps hpl hps
      cases hff : aFill (pl[·]?) (z.cells.toList.map absS) ps with
      | none => rw [hff] at h; cases h
      | some cs' =>
        rw [hff] at h
        simp at h
        subst h
        obtain ⟨p1, p2⟩ := parts_VR hf parts
        obtain ⟨vs', r1, r2, r3⟩ := fill_spec (M := M) (G := G) (w := w) (pl[·]?) (aParts fr parts) (parts.toList.map fun p => (p.1, a.eval p.2)) ps _ cs' z.cells (by simp) (zero_VR0 G w z.cells.toList) hps p1 p2 hff
        refine ⟨.agg vs', ?_, by simp only [VR0]; exact ⟨vs'.toList, by simp, VRs0.mk r2 r3⟩, OwnC.of_plain rfl⟩
        have hplaces : (fs.mapM fun f => (do pure (f.offset, ← Go.sizeOf f.type) : Sem (Nat × Nat))).run P w = .ok pl.toArray w := by
          rw [show fs = fs.toList.toArray by simp, List.mapM_toArray]
          simp only [Sem.run_map]
          rw [run_places (w := w) fs.toList pl hpl]
          rfl
        have hfill : Instr.fill (pl.toArray[·]?) z.cells (parts.map fun x => (x.1, a.eval x.2)).toList = some vs' := by
          rw [Array.toList_map]
          simpa using r1
        simp only [execOp, ho, Sem.run_bind, Instr.build, run_zeroOf hz, Result.andThen_ok, run_underlying hu]
        rw [hplaces]
        simp only [Result.andThen_ok]
        rw [hfill]
        rfl
    case h_2 =>
      rename_i n e z hu hz
      split at h
      case h_2 => cases h
      rename_i inf ps hi hps
      cases hff : aFill (fun k => some (k * inf.size, inf.size)) (z.cells.toList.map absS) ps with
      | none => rw [hff] at h; cases h
      | some cs' =>
        rw [hff] at h
        simp at h
        subst h
        obtain ⟨p1, p2⟩ := parts_VR hf parts
        obtain ⟨vs', r1, r2, r3⟩ := fill_spec (M := M) (G := G) (w := w) (fun k => some (k * inf.size, inf.size)) (aParts fr parts) (parts.toList.map fun p => (p.1, a.eval p.2)) ps _ cs' z.cells (by simp) (zero_VR0 G w z.cells.toList) hps p1 p2 hff
        refine ⟨.agg vs', ?_, by simp only [VR0]; exact ⟨vs'.toList, by simp, VRs0.mk r2 r3⟩, OwnC.of_plain rfl⟩
        have hfill : Instr.fill (fun k => some (k * inf.size, inf.size)) z.cells (parts.map fun x => (x.1, a.eval x.2)).toList = some vs' := by
          rw [Array.toList_map]
          simpa using r1
        simp only [execOp, ho, Sem.run_bind, Instr.build, run_zeroOf hz, Result.andThen_ok, run_underlying hu, run_sizeOf hi]
        rw [hfill]
        rfl

/-! slices -/
def zerosArr (z : Value) (n : Nat) : Array Value := (Array.range n).map fun k => (if n = 0 then #[] else z.cells)[k % (if n = 0 then #[] else z.cells).size]!
def aBuildSlice (P : Program) (t : TypeId) (len : Nat) (parts : List (Nat × AV)) : Option AV :=
  match aElem P t with
  | some (e, size) =>
    match zeroOf P e, partsOf parts with
    | some z, some ps =>
      if len * size ≤ 16777216 ∧ 0 < z.cells.size then
        (aFill (fun i => some (i * size, size)) ((zerosArr z (len * size)).toList.map absS) ps).map fun cs => .list cs len .full
      else none
    | _, _ => none
  | none => none
/-- it tells this and makes a block -/
def Foreign (P : Program) (o : Oper) (fr : List AV) (s : List Ob) (v : AV) : Prop := ∀ M G w a, Sim M G s w → FR M G w fr a → ∃ cv ob, (execOp a.eval o).run P w = .ok (.value cv) (w.alloc ob) ∧ VR M (G.addForeign w.heap.size) (w.alloc ob) v cv
theorem Step_foreign {v : AV} (h : Foreign P o fr s v) : Step P o fr s fr v s := by
  intro M G w a hF hS hf K Q hK
  obtain ⟨cv, ob, h1, h2⟩ := h M G w a hS hf
  have hg := grown_alloc w ob
  have hm := More.addForeign G w
  have hE := Ext.grow hg hm
  unfold Oper.wp
  rw [h1, Oper.upon_value]
  exact hK _ _ _ (hE.mono fun _ _ => False.elim) (hS.grow hg hm rfl) (hf.grow hE) h2
theorem foreign_list {M : Nat → Prop} {G : Gh} {s : List Ob} {w : World} (hS : Sim M G s w) {cs : List AV} {vs : Array Value} {e : TypeId} {len : Nat} (hl : vs.toList.length = cs.length) (hv : ∀ (k : Nat) (a : AV) (v : Value), cs[k]? = some a → vs.toList[k]? = some v → VR0 G w a v) :
    VR M (G.addForeign w.heap.size) (w.alloc (.cells vs e)) (.list cs len .full) (.slice (some ⟨w.heap.size, 0, none⟩) len len) := by
  have hE := Ext.grow (grown_alloc w (.cells vs e)) (More.addForeign G w)
  refine ⟨?_, OwnC.of_plain rfl⟩
  simp only [VR0]
  refine ⟨_, len, rfl, Nat.le_refl _, fun _ => rfl, .inr ⟨w.heap.size, 0, vs.toList, rfl, ⟨by simp, ?_, ?_⟩, ?_, VRs0.mk hl fun k a v ha hv' => VR0.mono hE a v (hv k a v ha hv')⟩⟩
  · rintro ⟨i, hi, h1, h2⟩
    have := hS.lt (i := i) hi h1
    simp only [Gh.addForeign] at h2
    omega
  · simp [Gh.addForeign]
  · intro i v hi
    rw [Nat.zero_add]
    have : (w.alloc (.cells vs e)).heap[w.heap.size]? = some (.cells vs.toList.toArray e (0, 0)) := by simpa using heap_alloc_new w (.cells vs e)
    rw [cell_of_vs this]
    exact hi
theorem Step_buildSlice {t : TypeId} {len : Nat} {parts : Array (Nat × Operand)} {v : AV} (ho : o.op = .buildSlice t len parts) (h : aBuildSlice P t len (aParts fr parts) = some v) : Foreign P o fr s v := fun M G w a hS hf => by
    unfold aBuildSlice at h
    split at h
    case h_2 => cases h
    rename_i e size he
    obtain ⟨h2, i, h3, h4, h5⟩ := aElem_spec he
    split at h
    case h_2 => cases h
    rename_i z ps hz hps
    split at h
    case isFalse => cases h
    rename_i hc
    obtain ⟨hc1, hc2⟩ := hc
    generalize hzz : zerosArr z (len * size) = zs at h
    unfold zerosArr at hzz
    cases hff : aFill (fun i => some (i * size, size)) (zs.toList.map absS) ps with
    | none => rw [hff] at h; cases h
    | some cs' =>
      rw [hff] at h
      simp at h
      subst h
      obtain ⟨p1, p2⟩ := parts_VR hf parts
      obtain ⟨vs', r1, r2, r3⟩ := fill_spec (M := M) (G := G) (w := w) (fun i => some (i * size, size)) (aParts fr parts) (parts.toList.map fun p => (p.1, a.eval p.2)) ps _ cs' zs (by simp) (zero_VR0 G w zs.toList) hps p1 p2 hff
      refine ⟨.slice (some ⟨w.heap.size, 0, none⟩) len len, .cells vs' e, ?_, foreign_list hS r2 r3⟩
      have hfill : Instr.fill (fun i => some (i * size, size)) zs (parts.map fun x => (x.1, a.eval x.2)).toList = some vs' := by
        rw [Array.toList_map]
        exact r1
      have hn : ¬ (len * size > 2 ^ 24) := by omega
      by_cases h0 : len * size = 0
      · rw [if_pos h0] at hzz
        simp only [execOp, ho, Sem.run_bind, Instr.buildSlice, Result.andThen_ok, run_underlying h2, run_sizeOf h3, h4, if_neg hn, if_pos h0, Sem.run_pure]
        rw [hzz, hfill]
        rfl
      · rw [if_neg h0] at hzz
        simp only [execOp, ho, Sem.run_bind, Instr.buildSlice, Result.andThen_ok, run_underlying h2, run_sizeOf h3, h4, if_neg hn, if_neg h0, Sem.run_pure, run_zeroOf hz]
        rw [hzz, hfill]
        rfl
/-- part of a slice -/
def aBound (fr : List AV) (d : Nat) : Option Operand → Option Nat
  | none => some d
  | some x => match aEval fr x with
    | .int _ n => if 0 ≤ n then some n.toNat else none
    | _ => none
theorem Step_slice {t e : TypeId} {x : Operand} {lo hi : Option Operand} {cs : List AV} {n size l h : Nat} {g : Tag} (ho : o.op = .slice t x lo hi none) (he : aElem P t = some (e, size)) (hx : aEval fr x = .list cs n g)
    (hlo : aBound fr 0 lo = some l) (hhi : aBound fr n hi = some h) (h1 : l ≤ h) (h2 : h ≤ n) : Still P o fr s (.list ((cs.take (h * size)).drop (l * size)) (h - l) (if g = .full ∧ h = n then .full else .unk)) := fun M G w a hS hf => by
    have hv := (hf.eval x).1
    rw [hx] at hv
    simp only [VR0] at hv
    obtain ⟨A, cap, e1, e2, e3, e4⟩ := hv
    obtain ⟨g2, i, g3, g4, g5⟩ := aElem_spec he
    have bnd : ∀ (b : Option Operand) (d r : Nat), aBound fr d b = some r → (b = none ∧ r = d) ∨ ∃ x k n, b = some x ∧ a.eval x = .int k n ∧ 0 ≤ n ∧ r = n.toNat := by
      intro b d r hb
      cases b with
      | none => simp only [aBound, Option.some.injEq] at hb; exact .inl ⟨rfl, hb.symm⟩
      | some y =>
        simp only [aBound] at hb
        split at hb
        · rename_i k m hy
          split at hb
          · rename_i h0
            cases hb
            have := (hf.eval y).1
            rw [hy] at this
            simp only [VR0] at this
            exact .inr ⟨y, k, m, rfl, this, h0, rfl⟩
          · cases hb
        · cases hb
    have hrun : (execOp a.eval o).run P w = .ok (.value (.slice (if cap = l then A else A.map (·.add (l * size))) (h - l) (cap - l))) w := by
      have q1 : (Instr.sliceBounds true n cap (lo.map a.eval) (hi.map a.eval) none).run P w = .ok (l, h, cap) w := by
        rcases bnd lo 0 l hlo with ⟨rfl, rfl⟩ | ⟨xl, kl, nl, rfl, r1, r2, rfl⟩ <;> rcases bnd hi n h hhi with ⟨rfl, rfl⟩ | ⟨xh, kh, nh, rfl, r3, r4, rfl⟩
        · simp [Instr.sliceBounds]
        · have : nh ≤ cap := by omega
          simp [Instr.sliceBounds, Instr.sliceBound, r3, asIntOf, r4, this]
        · have : nl ≤ (h : Int) := by omega
          simp [Instr.sliceBounds, Instr.sliceBound, r1, asIntOf, r2, this]
        · have : nh ≤ cap := by omega
          have : nl ≤ max nh 0 := by omega
          simp [Instr.sliceBounds, Instr.sliceBound, r1, r3, asIntOf, r2, r4, *]
      have q2 := run_underlying g2 w
      have q3 := run_sizeOf g3 w
      simp only [execOp, ho, Sem.run_bind, Instr.sliceAt, q2, Result.andThen_ok, Option.map_none, e1, Instr.slice, q1, q3, g4]
      rfl
    refine ⟨_, hrun, ?_, OwnC.of_plain ?_⟩
    · simp only [VR0]
      refine ⟨_, cap - l, rfl, by omega, ?_, ?_⟩
      · intro hh
        split at hh
        · rename_i hg
          have := e3 hg.1
          omega
        · cases hh
      · by_cases hnil : (cs.take (h * size)).drop (l * size) = []
        · exact .inl hnil
        · rcases e4 with e4 | ⟨b, ob, vs, rfl, e5, e6, e7⟩
          · subst e4; simp at hnil
          · right
            have hlen : ((cs.take (h * size)).drop (l * size)).length = min (h * size) cs.length - l * size := by simp
            have hpos : 0 < ((cs.take (h * size)).drop (l * size)).length := List.length_pos_iff.2 hnil
            have hne : ¬ cap = l ∨ l = 0 ∨ True := .inr (.inr trivial)
            by_cases hcl : cap = l
            · have : h = l := by omega
              subst this
              rw [hlen] at hpos
              omega
            · rw [if_neg hcl]
              refine ⟨b, ob + l * size, (vs.take (h * size)).drop (l * size), by simp [Addr_add], ⟨e5.1, e5.2.1, fun ho' => ?_⟩, ?_, (e7.take _).drop _⟩
              · have := e5.2.2 ho'
                rw [hlen] at hpos ⊢
                omega
              · intro j v hj
                rw [List.getElem?_drop, List.getElem?_take] at hj
                split at hj
                · have := e6 _ v hj
                  rw [← Nat.add_assoc] at this
                  exact this
                · cases hj
    · split <;> rfl
end
end Go.Proofs.YtmacghaihlfcpaaGreat.Abs

namespace Go.Proofs.YtmacghaihlfcpaaGreat.Abs
open Go Go.ChangeShapes Go.WideShapes Go.ChangeAt Go.RowKit
set_option linter.unusedVariables false
set_option linter.unusedSimpArgs false

def clearStore (ts : List Nat) (s : List Ob) : List Ob := s.map fun o => { o with cs := o.cs.map (clearMark ts) }
theorem clearStore_get {ts : List Nat} {s : List Ob} {i : Nat} {o : Ob} (h : (clearStore ts s)[i]? = some o) : ∃ o', s[i]? = some o' ∧ o = { o' with cs := o'.cs.map (clearMark ts) } := by
  unfold clearStore at h
  rw [List.getElem?_map] at h
  cases hh : s[i]? with
  | none => rw [hh] at h; cases h
  | some o' => rw [hh] at h; simp at h; exact ⟨o', rfl, h.symm⟩
/-- the store behind a step that writes one of its own rows beyond what is seen of it -/
theorem Sim.clear {M : Nat → Prop} {G : Gh} {s : List Ob} {w : World} (ts : List Nat) (h : Sim M G s w) : Sim M G (clearStore ts s) w := by
  refine ⟨by simp [clearStore, h.n], h.inj, h.own, ?_, h.lt, ?_⟩
  · intro i o hi hol
    obtain ⟨o', h1, rfl⟩ := clearStore_get hi
    exact h.live i o' h1 hol
  · intro i o hi hl
    obtain ⟨o', h1, rfl⟩ := clearStore_get hi
    obtain ⟨vs, h2, h3, h4⟩ := h.at_ i o' h1 hl
    refine ⟨vs, h2, by simpa using h3, fun k a v hk hv => ?_⟩
    rw [List.getElem?_map] at hk
    cases hh : o'.cs[k]? with
    | none => rw [hh] at hk; cases hk
    | some x =>
      rw [hh] at hk
      simp at hk
      subst hk
      obtain ⟨k1, k2⟩ := h4 k x v hh hv
      exact ⟨clearMark_VR0 ts k1, clearMark_OwnC ts k2⟩
theorem Sim.keepRow {M : Nat → Prop} {G G' : Gh} {s : List Ob} {w w' : World} {g t0 : Nat} (h : Sim M G s w) (hE : Ext (fun b => b = g) G w G' w') (hn : G'.n = G.n) (hmu : G'.mu = G.mu) (hlive : G'.live = G.live) (hown : ∀ i, i < G.n → G.live i = true → G'.own (G.mu i) = false)
    (hb : ∀ i, i < G.n → G.live i = true → w'.heap[G.mu i]? = w.heap[G.mu i]?) (htg : G.tg g = t0) : Sim M G' (clearStore [t0] s) w' := by
  have hc := h.clear [t0]
  refine ⟨hn.trans hc.n, ?_, ?_, ?_, fun {i} hi hl => by
    rw [hn] at hi
    rw [hlive] at hl
    rw [hmu]
    exact Nat.lt_of_lt_of_le (h.lt hi hl) hE.size, ?_⟩
  · rw [hn, hmu, hlive]; exact hc.inj
  · intro i hi hl
    rw [hn] at hi
    rw [hlive] at hl
    rw [hmu]
    exact hown i hi hl
  · intro i o hi hol
    rw [hlive]
    exact hc.live i o hi hol
  · intro i o hi hl
    obtain ⟨vs, h2, h3, h4⟩ := hc.at_ i o hi hl
    have hi' : i < G.n := by rw [hc.n]; exact lt_of_some hi
    refine ⟨vs, ?_, h3, fun k a v hk hv => ?_⟩
    · rw [hmu, hb i hi' (hc.live i o hi hl)]
      exact h2
    · refine (h4 k a v hk hv).keep hE ?_
      intro b t hm ht _ _ _ _ hbg
      obtain ⟨o', e1, rfl⟩ := clearStore_get hi
      rw [List.getElem?_map] at hk
      cases hh : o'.cs[k]? with
      | none => rw [hh] at hk; cases hk
      | some x =>
        rw [hh] at hk
        simp at hk
        subst hk
        have := clearMark_mark hm
        subst hbg
        rw [← ht, htg] at this
        simp at this
theorem FR.keepRow {M : Nat → Prop} {G G' : Gh} {w w' : World} {fr : List AV} {a : Act} {g t0 : Nat} (hf : FR M G w fr a) (hE : Ext (fun b => b = g) G w G' w') (htg : G.tg g = t0) : FR M G' w' (clearMarks [t0] fr) a := by
  refine (hf.clear [t0]).keep hE ?_
  intro t b k hk hb _ _ _ _ hbg
  unfold clearMarks at hk
  rw [List.getD_eq_getElem?_getD, List.getElem?_map] at hk
  cases hh : fr[t]? with
  | none => rw [hh] at hk; cases hk
  | some x =>
    rw [hh] at hk
    have := clearMark_mark hk
    subst hbg
    rw [← hb, htg] at this
    simp at this

theorem own_list {M : Nat → Prop} {G' : Gh} {w' : World} {cs : List AV} {vs : List Value} {cur : Array Value} {e : TypeId} {size n cap g d : Nat} (hM : M g) (how : G'.own g = true) (hob : ¬ G'.obj g) (hphi : G'.phi g = cs.length) (htg : G'.tg g = d)
    (hh : w'.heap[g]? = some (.cells cur e (0, 0))) (hn : n ≤ cap) (hcap : cap ≤ maxLen) (hcur : cur.size = cap * size) (hcs : cs.length = n * size) (htake : cur.toList.take (n * size) = vs) (hv : VRs0 G' w' cs vs) :
    VR M G' w' (.list cs n (.own d e size)) (.slice (some ⟨g, 0, none⟩) n cap) := by
  have hlt : g < w'.heap.size := by
    rcases Nat.lt_or_ge g w'.heap.size with h1 | h1
    · exact h1
    · rw [Array.getElem?_eq_none h1] at hh; cases hh
  refine ⟨?_, .inr ⟨g, cap, cur, rfl, hM, how, hob, hphi, htg, hh, hn, hcap, hcur, hcs⟩⟩
  simp only [VR0]
  refine ⟨_, cap, rfl, hn, (fun h => by cases h), .inr ⟨g, 0, vs, rfl, ⟨hlt, hob, fun _ => by omega⟩, ?_, hv⟩⟩
  intro i v hi
  rw [Nat.zero_add]
  have : w'.heap[g]? = some (.cells cur.toList.toArray e (0, 0)) := by simpa using hh
  rw [cell_of_vs this, ← hi, ← htake, List.getElem?_take]
  split
  · rfl
  · rename_i hge
    rw [← htake, List.getElem?_take, if_neg hge] at hi
    cases hi
/-- may as many elements of a type be in memory? -/
def fitsB (P : Program) (e : TypeId) (size n : Nat) : Bool :=
  match P.info? e with
  | some i => decide (n * i.bytes ≤ 140737488355328) && decide (n ≤ 140737488355328) && (match i.zero with | some z => z.cells.size == size | none => false)
  | none => false
theorem fitsB_spec {P : Program} {e : TypeId} {size n : Nat} (h : fitsB P e size n = true) : ∃ i z, P.info? e = some i ∧ i.zero = some z ∧ z.cells.size = size ∧ n * i.bytes ≤ 140737488355328 ∧ n ≤ 140737488355328 := by
  unfold fitsB at h
  split at h
  · rename_i i hi
    cases hz : i.zero with
    | none => rw [hz] at h; simp at h
    | some z =>
      rw [hz] at h
      simp at h
      exact ⟨i, z, hi, hz, h.2, h.1.1, h.1.2⟩
  · cases h
section
variable {P : Program} {o : Oper} {fr : List AV} {s : List Ob}
theorem news_of {G : Gh} {w : World} {cs : List AV} {m size : Nat} {g : Tag} {v : Value} (hv : VR0 G w (.list cs m g) v) (hl : cs.length = m * size) (h0 : 0 < m) (hs : 0 < size) (hone : cs.all AV.one = true) :
    ∃ (ad : Addr) (cap : Nat) (news : List Value), v = .slice (some ad) m cap ∧ news.length = m * size ∧ (∀ j u, news[j]? = some u → w.cell? (ad.add j) = some u) ∧ (∀ u ∈ news, u.oneCell' = true) ∧ VRs0 G w cs news := by
  simp only [VR0] at hv
  obtain ⟨A, cap, e1, e2, e3, e4⟩ := hv
  have hne : cs ≠ [] := by
    intro h
    subst h
    have := Nat.mul_pos h0 hs
    simp at hl
    omega
  rcases e4 with e4 | ⟨b, ob, vs, rfl, e5, e6, e7⟩
  · exact absurd e4 hne
  · refine ⟨⟨b, ob, none⟩, cap, vs, e1, e7.length.trans hl, fun j u hj => by rw [Addr_add]; exact e6 j u hj, ?_, e7⟩
    intro u hu
    obtain ⟨j, hj⟩ := List.getElem?_of_mem hu
    have hj' : j < cs.length := by have := lt_of_some hj; have := e7.length; omega
    obtain ⟨u', k1, k2⟩ := e7.get j cs[j] (List.getElem?_eq_getElem hj')
    rw [hj] at k1
    cases k1
    exact one_cell (List.all_eq_true.1 hone _ (List.getElem_mem hj')) k2
theorem VRs0.app {G : Gh} {w : World} : ∀ {l m : List AV} {x y : List Value}, VRs0 G w l x → VRs0 G w m y → VRs0 G w (l ++ m) (x ++ y)
  | [], _, _, _, h1, h2 => by simp only [VRs0] at h1; subst h1; exact h2
  | a :: l, m, x, y, h1, h2 => by
    simp only [VRs0] at h1
    obtain ⟨v, vs', rfl, h3, h4⟩ := h1
    simp only [List.cons_append, VRs0]
    exact ⟨v, _, rfl, h3, h4.app h2⟩
/-- a new row of the call's own -/
theorem new_row {M : Nat → Prop} {G : Gh} {w : World} {a : Act} {cs : List AV} {vs : List Value} {arr : Array Value} {e : TypeId} {size n cap d : Nat} (hF : Fresh P M G w) (hS : Sim M G s w) (hf : FR M G w fr a)
    (hv : VRs0 G w cs vs) (hn : n ≤ cap) (hcap : cap ≤ maxLen) (hcur : arr.size = cap * size) (hcs : cs.length = n * size) (htake : arr.toList.take (n * size) = vs) :
    ∃ G', Ext (fun _ => False) G w G' (w.drew.alloc (.cells arr e)) ∧ Sim M G' s (w.drew.alloc (.cells arr e)) ∧ FR M G' (w.drew.alloc (.cells arr e)) fr a ∧ VR M G' (w.drew.alloc (.cells arr e)) (.list cs n (.own d e size)) (.slice (some ⟨w.heap.size, 0, none⟩) n cap) := by
  have hg := grown_drew_alloc w (.cells arr e)
  have hm := More.addRow G w d cs.length
  have hE := Ext.grow hg hm
  refine ⟨_, hE, hS.grow hg hm rfl, hf.grow hE, own_list (hF.1 _ (Nat.le_refl _)) (by simp [Gh.addRow]) ?_ (by simp [Gh.addRow]) (by simp [Gh.addRow]) (heap_alloc_new w.drew _) hn hcap hcur hcs htake (VRs0.mono hE cs vs hv)⟩
  rintro ⟨i, hi, h1, h2⟩
  have := hS.lt (i := i) hi h1
  simp only [Gh.addRow] at h2
  omega
/-- a step that leaves every old row as it was -/
def StepF (P : Program) (o : Oper) (fr : List AV) (s : List Ob) (fr' : List AV) (v : AV) (s' : List Ob) : Prop :=
  ∀ M G w a, Fresh P M G w → Sim M G s w → FR M G w fr a → ∀ (K : Act → World → Prop) (Q : Exit → Act → World → Prop),
    (∀ cv G' w', Ext (fun _ => False) G w G' w' → Sim M G' s' w' → FR M G' w' fr' a → VR M G' w' v cv → K (a.put o.dst cv) w') → o.wp P a w K Q
theorem StepF.step {fr' : List AV} {v : AV} {s' : List Ob} (h : StepF P o fr s fr' v s') : Step P o fr s fr' v s' :=
  fun M G w a hF hS hf K Q hK => h M G w a hF hS hf K Q fun cv G' w' hE => hK cv G' w' (hE.mono fun _ _ => False.elim)
theorem Step_append_fullF {c : Call} {x y : Operand} {t e : TypeId} {cs cs2 : List AV} {n m size : Nat} {g2 : Tag} (d : Nat) (ho : o.op = .call c) (hc : c.callee = .builtin .append) (ha : c.args = #[x, y]) (ht : c.argTypes = #[t, t]) (he : aElem P t = some (e, size))
    (hx : aEval fr x = .list cs n .full) (hy : aEval fr y = .list cs2 m g2) (h0 : 0 < m) (hl1 : cs.length = n * size) (hl2 : cs2.length = m * size) (hone : cs2.all AV.one = true) (hfit : fitsB P e size (n + m) = true) :
    StepF P o fr s fr (.list (cs ++ cs2) (n + m) (.own d e size)) s := by
  intro M G w a hF hS hf K Q hK
  have hv := (hf.eval x).1
  rw [hx] at hv
  simp only [VR0] at hv
  obtain ⟨A, cap, e1, e2, e3, e4⟩ := hv
  have hu := (hf.eval y).1
  rw [hy] at hu
  obtain ⟨k2, i', k3, k4, k5⟩ := aElem_spec he
  obtain ⟨i, z, f1, f2, f3, f4, f5⟩ := fitsB_spec hfit
  rw [k3] at f1
  cases f1
  obtain ⟨ad, capy, news, r1, r2, r3, r4, r5⟩ := news_of hu hl2 h0 k5 hone
  have hcap : cap = n := e3 trivial
  subst hcap
  -- the old cells
  have hold : ∃ vs : List Value, VRs0 G w cs vs ∧ vs.length = cap * size ∧ (∀ b, A = some b → ∀ j v, vs[j]? = some v → w.cell? (b.add j) = some v) ∧ (A = none → cap = 0) := by
    rcases e4 with e4 | ⟨b, ob, vs, rfl, e5, e6, e7⟩
    · subst e4
      refine ⟨[], by simp only [VRs0], by simpa using hl1, fun b _ j v hj => by simp at hj, fun _ => ?_⟩
      have : cap * size = 0 := by simpa using hl1.symm
      rcases Nat.mul_eq_zero.1 this with h | h
      · exact h
      · omega
    · refine ⟨vs, e7, e7.length.trans hl1, fun b' hb j v hj => ?_, fun h => by cases h⟩
      cases hb
      rw [Addr_add]
      exact e6 j v hj
  obtain ⟨vs, q1, q2, q3, q4⟩ := hold
  have hlen : (vs ++ news).length = (cap + m) * size := by rw [List.length_append, q2, r2, Nat.add_mul]
  have hge := grownCap_ge w (cap + m) cap e
  have hcm : grownCap w (cap + m) cap e ≤ maxLen := grownCap_le_maxLen w (cap + m) cap e (by unfold maxLen; omega)
  have hrun : (Builtin.append_ #[t, t] o.type #[a.eval x, a.eval y]).run P w = .ok (.slice (some ⟨w.heap.size, 0, none⟩) (cap + m) (grownCap w (cap + m) cap e))
      (w.drew.alloc (.cells (vs.toArray ++ news.toArray ++ Builtin.zeroCells z.cells (grownCap w (cap + m) cap e - (cap + m))) e)) := by
    rw [e1, r1]
    cases A with
    | none =>
      have := q4 rfl
      subst this
      have hvs : vs = [] := List.eq_nil_of_length_eq_zero (by simpa using q2)
      subst hvs
      have := run_append_nil (P := P) w t o.type e i' z k2 k3 f2 ad m capy news (by rw [r2, k4]) r3 h0 (by omega) (by have := f4; simp only [Nat.zero_add] at this; omega)
      simpa using this
    | some b =>
      exact run_append_grow (P := P) w t o.type e i' z k2 k3 f2 b cap cap vs (by rw [q2, k4]) (q3 b rfl) ad m capy news (by rw [r2, k4]) r3 (by omega) (by omega) (growslice_fits (by omega) f4)
  have hsz : (vs.toArray ++ news.toArray ++ Builtin.zeroCells z.cells (grownCap w (cap + m) cap e - (cap + m))).size = grownCap w (cap + m) cap e * size := by
    simp only [Array.size_append, List.size_toArray, size_zeroCells, f3, q2, r2, ← Nat.add_mul]
    congr 1
    omega
  have htk : (vs.toArray ++ news.toArray ++ Builtin.zeroCells z.cells (grownCap w (cap + m) cap e - (cap + m))).toList.take ((cap + m) * size) = vs ++ news := by
    simp only [Array.toList_append, List.append_assoc]
    rw [← List.append_assoc, ← hlen]
    exact List.take_left
  obtain ⟨G', p1, p2, p3, p4⟩ := new_row (d := d) (e := e) hF hS hf (q1.app r5) hge hcm hsz (by rw [List.length_append, hl1, hl2, Nat.add_mul]) htk
  unfold Oper.wp
  have hexec : (execOp a.eval o).run P w = .ok (.value (.slice (some ⟨w.heap.size, 0, none⟩) (cap + m) (grownCap w (cap + m) cap e))) (w.drew.alloc (.cells (vs.toArray ++ news.toArray ++ Builtin.zeroCells z.cells (grownCap w (cap + m) cap e - (cap + m))) e)) := by
    simp only [execOp, ho, Sem.run_bind, resolve, hc, ha, ht, invoke, builtin, Sem.run_pure, Result.andThen_ok, List.map_toArray, List.map_cons, List.map_nil]
    rw [hrun]
    rfl
  rw [hexec, Oper.upon_value]
  exact hK _ G' _ p1 p2 p3 p4
theorem Step_append_full {c : Call} {x y : Operand} {t e : TypeId} {cs cs2 : List AV} {n m size : Nat} {g2 : Tag} (d : Nat) (ho : o.op = .call c) (hc : c.callee = .builtin .append) (ha : c.args = #[x, y]) (ht : c.argTypes = #[t, t]) (he : aElem P t = some (e, size))
    (hx : aEval fr x = .list cs n .full) (hy : aEval fr y = .list cs2 m g2) (h0 : 0 < m) (hl1 : cs.length = n * size) (hl2 : cs2.length = m * size) (hone : cs2.all AV.one = true) (hfit : fitsB P e size (n + m) = true) :
    Step P o fr s fr (.list (cs ++ cs2) (n + m) (.own d e size)) s :=
  (Step_append_fullF d ho hc ha ht he hx hy h0 hl1 hl2 hone hfit).step
/-- a step that writes rows of these marks alone -/
def StepM (P : Program) (o : Oper) (ts : List Nat) (fr : List AV) (s : List Ob) (fr' : List AV) (v : AV) (s' : List Ob) : Prop :=
  ∀ M G w a, Fresh P M G w → Sim M G s w → FR M G w fr a → ∀ (K : Act → World → Prop) (Q : Exit → Act → World → Prop),
    (∀ cv G' w', Ext (fun b => M b ∧ G.tg b ∈ ts) G w G' w' → Sim M G' s' w' → FR M G' w' fr' a → VR M G' w' v cv → K (a.put o.dst cv) w') → o.wp P a w K Q
theorem StepM.step {ts : List Nat} {fr' : List AV} {v : AV} {s' : List Ob} (h : StepM P o ts fr s fr' v s') : Step P o fr s fr' v s' :=
  fun M G w a hF hS hf K Q hK => h M G w a hF hS hf K Q fun cv G' w' hE => hK cv G' w' (hE.mono fun _ _ h => h.1)
theorem Step_append_ownM {c : Call} {x y : Operand} {t e : TypeId} {cs cs2 : List AV} {n m size t0 : Nat} {g2 : Tag} (d : Nat) (ho : o.op = .call c) (hc : c.callee = .builtin .append) (ha : c.args = #[x, y]) (ht : c.argTypes = #[t, t]) (he : aElem P t = some (e, size))
    (hx : aEval fr x = .list cs n (.own t0 e size)) (hy : aEval fr y = .list cs2 m g2) (h0 : 0 < m) (hl2 : cs2.length = m * size) (hone : cs2.all AV.one = true) (hfit : fitsB P e size (n + m) = true) :
    StepM P o [t0] fr s (clearMarks [t0] fr) (.list (cs ++ cs2) (n + m) (.own d e size)) (clearStore [t0] s) := by
  intro M G w a hF hS hf K Q hK
  have hvr := hf.eval x
  rw [hx] at hvr
  obtain ⟨hv, hown⟩ := hvr
  simp only [VR0] at hv
  obtain ⟨A, cap0, e1, e2, e3, e4⟩ := hv
  have hu := (hf.eval y).1
  rw [hy] at hu
  obtain ⟨k2, i', k3, k4, k5⟩ := aElem_spec he
  obtain ⟨i, z, f1, f2, f3, f4, f5⟩ := fitsB_spec hfit
  rw [k3] at f1
  cases f1
  obtain ⟨ad, capy, news, r1, r2, r3, r4, r5⟩ := news_of hu hl2 h0 k5 hone
  have hexec : ∀ v' w', (Builtin.append_ #[t, t] o.type #[a.eval x, a.eval y]).run P w = .ok v' w' → (execOp a.eval o).run P w = .ok (.value v') w' := by
    intro v' w' hrun
    simp only [execOp, ho, Sem.run_bind, resolve, hc, ha, ht, invoke, builtin, Sem.run_pure, Result.andThen_ok, List.map_toArray, List.map_cons, List.map_nil]
    rw [hrun]
    rfl
  have grow : ∀ (old : Nat) (vs : List Value), old < n + m → VRs0 G w cs vs → vs.length = n * size → cs.length = n * size →
      (Builtin.append_ #[t, t] o.type #[a.eval x, a.eval y]).run P w = .ok (.slice (some ⟨w.heap.size, 0, none⟩) (n + m) (grownCap w (n + m) old e)) (w.drew.alloc (.cells (vs.toArray ++ news.toArray ++ Builtin.zeroCells z.cells (grownCap w (n + m) old e - (n + m))) e)) → o.wp P a w K Q := by
    intro old vs hold hvs hvl hcl hrun
    have hge := grownCap_ge w (n + m) old e
    have hcm : grownCap w (n + m) old e ≤ maxLen := grownCap_le_maxLen w (n + m) old e (by unfold maxLen; omega)
    have hlen : (vs ++ news).length = (n + m) * size := by rw [List.length_append, hvl, r2, Nat.add_mul]
    have hsz : (vs.toArray ++ news.toArray ++ Builtin.zeroCells z.cells (grownCap w (n + m) old e - (n + m))).size = grownCap w (n + m) old e * size := by
      simp only [Array.size_append, List.size_toArray, size_zeroCells, f3, hvl, r2, ← Nat.add_mul]
      congr 1
      omega
    have htk : (vs.toArray ++ news.toArray ++ Builtin.zeroCells z.cells (grownCap w (n + m) old e - (n + m))).toList.take ((n + m) * size) = vs ++ news := by
      simp only [Array.toList_append, List.append_assoc]
      rw [← List.append_assoc, ← hlen]
      exact List.take_left
    obtain ⟨G', p1, p2, p3, p4⟩ := new_row (d := d) (e := e) hF hS hf (hvs.app r5) hge hcm hsz (by rw [List.length_append, hcl, hl2, Nat.add_mul]) htk
    unfold Oper.wp
    rw [hexec _ _ hrun, Oper.upon_value]
    exact hK _ G' _ (p1.mono fun _ _ => False.elim) (p2.clear _) (p3.clear _) p4
  rcases hown with ⟨A', hfull, hl1⟩ | ⟨g, cap, cur, hv', hMg, hog, hobj, hphi, htg, hh, hncap, hcapm, hcur, hcl⟩
  · rw [e1] at hfull
    cases hfull
    have hold : ∃ vs : List Value, VRs0 G w cs vs ∧ vs.length = n * size ∧ (∀ b, A = some b → ∀ j v, vs[j]? = some v → w.cell? (b.add j) = some v) ∧ (A = none → n = 0) := by
      rcases e4 with e4 | ⟨b, ob, vs, rfl, e5, e6, e7⟩
      · subst e4
        refine ⟨[], by simp only [VRs0], by simpa using hl1, fun b _ j v hj => by simp at hj, fun _ => ?_⟩
        have : n * size = 0 := by simpa using hl1.symm
        rcases Nat.mul_eq_zero.1 this with h | h
        · exact h
        · omega
      · refine ⟨vs, e7, e7.length.trans hl1, fun b' hb j v hj => ?_, fun h => by cases h⟩
        cases hb
        rw [Addr_add]
        exact e6 j v hj
    obtain ⟨vs, q1, q2, q3, q4⟩ := hold
    refine grow n vs (by omega) q1 q2 hl1 ?_
    rw [e1, r1]
    cases A with
    | none =>
      have := q4 rfl
      subst this
      have hvs : vs = [] := List.eq_nil_of_length_eq_zero (by simpa using q2)
      subst hvs
      have := run_append_nil (P := P) w t o.type e i' z k2 k3 f2 ad m capy news (by rw [r2, k4]) r3 h0 (by omega) (by have := f4; simp only [Nat.zero_add] at this; omega)
      simpa using this
    | some b =>
      exact run_append_grow (P := P) w t o.type e i' z k2 k3 f2 b n n vs (by rw [q2, k4]) (q3 b rfl) ad m capy news (by rw [r2, k4]) r3 (by omega) (by omega) (growslice_fits (by omega) f4)
  · rw [e1] at hv'
    cases hv'
    have hvs : ∃ vs : List Value, VRs0 G w cs vs ∧ vs.length = n * size ∧ cur.toList.take (n * size) = vs := by
      have hlc : n * size ≤ cur.toList.length := by
        have := Nat.mul_le_mul_right size hncap
        simp; omega
      rcases e4 with e4 | ⟨b, ob, vs, e5', e5, e6, e7⟩
      · subst e4
        have h1 : n * size = 0 := by simpa using hcl.symm
        exact ⟨[], by simp only [VRs0], by simpa using h1.symm, by rw [h1]; simp⟩
      · cases e5'
        have hl := e7.length
        refine ⟨vs, e7, hl.trans hcl, List.ext_getElem? fun j => ?_⟩
        rw [List.getElem?_take]
        have hh' : w.heap[g]? = some (.cells cur.toList.toArray e (0, 0)) := by simpa using hh
        split
        · rename_i hj
          have hj' : j < vs.length := by omega
          have := e6 j vs[j] (List.getElem?_eq_getElem hj')
          rw [Nat.zero_add, cell_of_vs hh'] at this
          rw [this, List.getElem?_eq_getElem hj']
        · rename_i hj
          rw [List.getElem?_eq_none (by omega)]
    obtain ⟨vs, q1, q2, q3⟩ := hvs
    have hrow : w.ownsRow 0 e size (.slice (some ⟨g, 0, none⟩) n cap0) n vs := ⟨q2, .inr ⟨g, cap0, cur, rfl, Nat.zero_le _, hh, hncap, hcapm, hcur, q3⟩⟩
    by_cases hroom : n + m ≤ cap0
    · obtain ⟨w', g1, g2', g3⟩ := run_append_fits (P := P) w 0 t o.type e i' size k2 k3 k4 g n cap0 vs hrow ad m capy news r2 r3 r4 hroom
      have hglt : g < w.heap.size := by
        rcases Nat.lt_or_ge g w.heap.size with h1 | h1
        · exact h1
        · rw [Array.getElem?_eq_none h1] at hh; cases hh
      rcases g2'.2 with ⟨hbad, _⟩ | ⟨g', cap', cur', hv2, _, hh2, hn2, hcap2, hcur2, htake2⟩
      · cases hbad
      · cases hv2
        obtain ⟨G', hG'⟩ : ∃ G' : Gh, G' = { G with phi := fun b => if b = g then (cs ++ cs2).length else G.phi b, tg := fun b => if b = g then d else G.tg b } := ⟨_, rfl⟩
        have hE : Ext (fun b => b = g) G w G' w' := by
          subst hG'
          refine ⟨g3.size, g3.os, g3.tape, g3.output, Nat.le_refl _, fun _ _ h => h, fun _ _ => rfl, fun j h4 h5 => by simp only at h5; omega, fun _ _ => rfl, ?_, ?_, ?_, ?_⟩
          · intro b hb ho'
            simp only
            split
            · rename_i hbg; subst hbg; rw [hphi]; simp
            · exact Nat.le_refl _
          · intro b hb ho' hw
            refine g3.block b hb ?_
            intro e
            cases e
            rw [hog] at hw
            cases hw
          · intro b hb ho' hw k hk
            by_cases hbg : b = g
            · subst hbg
              have hh' : w.heap[b]? = some (.cells cur.toList.toArray e (0, 0)) := by simpa using hh
              have hh2' : w'.heap[b]? = some (.cells cur'.toList.toArray e (0, 0)) := by simpa using hh2
              rw [cell_of_vs hh', cell_of_vs hh2']
              rw [hphi, hcl] at hk
              have a1 : (cur.toList.take (n * size))[k]? = cur.toList[k]? := by rw [List.getElem?_take, if_pos hk]
              have a2 : (cur'.toList.take ((n + m) * size))[k]? = cur'.toList[k]? := by rw [List.getElem?_take, if_pos (by rw [Nat.add_mul]; omega)]
              rw [← a1, ← a2, q3, htake2, List.getElem?_append_left (by omega)]
            · exact World.cell?_of_block (w := w) (g3.block b hb (fun e => hbg (by cases e; rfl)))
          · intro b hb ho' hw hbg
            exact ⟨g3.block b hb (fun e => hbg (by cases e; rfl)), by simp only; rw [if_neg hbg], by simp only; rw [if_neg hbg]⟩
        have hobne : ∀ i, i < G.n → G.live i = true → G.mu i ≠ g := fun i hi hl e => hobj ⟨i, hi, hl, e⟩
        have hS' : Sim M G' (clearStore [t0] s) w' := by
          refine hS.keepRow hE (by rw [hG']) (by rw [hG']) (by rw [hG']) (fun i hi hl => by rw [hG']; exact hS.own i hi hl) (fun i hi hl => g3.block _ (hS.lt hi hl) (fun e => hobne i hi hl (by cases e; rfl))) htg
        have hf' := hf.keepRow hE htg
        unfold Oper.wp
        rw [hexec _ _ (by rw [e1, r1]; exact g1), Oper.upon_value]
        refine hK _ G' w' (hE.mono fun b _ hb => by subst hb; exact ⟨hMg, by rw [htg]; simp⟩) hS' hf' ?_
        refine own_list hMg (by rw [hG']; exact hog) ?_ (by rw [hG']; simp) (by rw [hG']; simp) hh2 hn2 hcap2 hcur2 (by rw [List.length_append, hcl, hl2, Nat.add_mul]) htake2 (VRs0.mono hE _ _ (q1.app r5))
        rw [hG']
        exact hobj
    · refine grow cap0 vs (by omega) q1 q2 hcl ?_
      rw [e1, r1]
      exact run_append_grow (P := P) w t o.type e i' z k2 k3 f2 ⟨g, 0, none⟩ n cap0 vs (by rw [q2, k4]) (hrow.cells (g := g) rfl) ad m capy news (by rw [r2, k4]) r3 (by omega) (by omega) (growslice_fits (by omega) f4)
theorem Step_append_own {c : Call} {x y : Operand} {t e : TypeId} {cs cs2 : List AV} {n m size t0 : Nat} {g2 : Tag} (d : Nat) (ho : o.op = .call c) (hc : c.callee = .builtin .append) (ha : c.args = #[x, y]) (ht : c.argTypes = #[t, t]) (he : aElem P t = some (e, size))
    (hx : aEval fr x = .list cs n (.own t0 e size)) (hy : aEval fr y = .list cs2 m g2) (h0 : 0 < m) (hl2 : cs2.length = m * size) (hone : cs2.all AV.one = true) (hfit : fitsB P e size (n + m) = true) :
    Step P o fr s (clearMarks [t0] fr) (.list (cs ++ cs2) (n + m) (.own d e size)) (clearStore [t0] s) :=
  (Step_append_ownM d ho hc ha ht he hx hy h0 hl2 hone hfit).step
theorem Step_append_none {c : Call} {x y : Operand} {t e : TypeId} {cs : List AV} {n size : Nat} {g g2 : Tag} (ho : o.op = .call c) (hc : c.callee = .builtin .append) (ha : c.args = #[x, y]) (ht : c.argTypes = #[t, t]) (he : aElem P t = some (e, size))
    (hx : aEval fr x = .list cs n g) (hy : aEval fr y = .list [] 0 g2) : Still P o fr s (aEval fr x) := fun M G w a hS hf => by
    refine ⟨a.eval x, ?_, hf.eval x⟩
    have hv := (hf.eval x).1
    rw [hx] at hv
    simp only [VR0] at hv
    obtain ⟨A, cap, e1, e2, e3, e4⟩ := hv
    have hu := (hf.eval y).1
    rw [hy] at hu
    simp only [VR0] at hu
    obtain ⟨A2, cap2, u1, u2, u3, u4⟩ := hu
    obtain ⟨k2, i', k3, k4, k5⟩ := aElem_spec he
    have hrun : (Builtin.append_ #[t, t] o.type #[a.eval x, a.eval y]).run P w = .ok (a.eval x) w := by
      rw [e1, u1]
      cases A <;> cases A2 <;> simp [Builtin.append_, run_underlying k2, run_sizeOf k3, Builtin.lenOf, Builtin.firstCells, e2, loadCells, loadCellsFrom, storeCells]
    simp only [execOp, ho, Sem.run_bind, resolve, hc, ha, ht, invoke, builtin, Sem.run_pure, Result.andThen_ok, List.map_toArray, List.map_cons, List.map_nil]
    rw [hrun]
    rfl
end
end Go.Proofs.YtmacghaihlfcpaaGreat.Abs
