/- Typed values: codes of types, what they hold, their cells; the evaluator's values. -/
import Derived.Test.YtgicljncknbgcaaAR
namespace Go.Proofs.Ytgicljncknbgcaa.Abs
open Go Go.ChangeShapes Go.WideShapes Go.ChangeAt Go.RowKit
set_option linter.unusedVariables false
set_option linter.unusedSimpArgs false

inductive Ty where
  | int (k : IntKind)
  | bool
  | str
  | list (e : Ty)
  | st (fs : List Ty)
mutual
def El : Ty → Type
  | .int _ => Int
  | .bool => Bool
  | .str => List UInt8
  | .list e => List (El e)
  | .st fs => Els fs
def Els : List Ty → Type
  | [] => Unit
  | t :: ts => El t × Els ts
end
mutual
def dflt : (t : Ty) → El t
  | .int _ => (0 : Int)
  | .bool => false
  | .str => ([] : List UInt8)
  | .list e => ([] : List (El e))
  | .st fs => dflts fs
def dflts : (ts : List Ty) → Els ts
  | [] => ()
  | t :: ts => (dflt t, dflts ts)
end
mutual
def Ty.size : Ty → Nat
  | .int _ => 1
  | .bool => 1
  | .str => 1
  | .list _ => 1
  | .st fs => sizes fs
def sizes : List Ty → Nat
  | [] => 0
  | t :: ts => t.size + sizes ts
end

mutual
def cellsOf : (t : Ty) → El t → List AV
  | .int k, n => [.int k n]
  | .bool, b => [.bool b]
  | .str, s => [.str s]
  | .list e, xs => [.list (List.flatMap (cellsOf e) xs) (List.length xs) .unk]
  | .st fs, x => cellsOfs fs x
def cellsOfs : (ts : List Ty) → Els ts → List AV
  | [], _ => []
  | t :: ts, x => cellsOf t x.1 ++ cellsOfs ts x.2
end
mutual
theorem cellsOf_len : ∀ (t : Ty) (x : El t), (cellsOf t x).length = t.size
  | .int _, _ => rfl
  | .bool, _ => rfl
  | .str, _ => rfl
  | .list _, _ => rfl
  | .st fs, x => by simp only [cellsOf, Ty.size]; exact cellsOfs_len fs x
theorem cellsOfs_len : ∀ (ts : List Ty) (x : Els ts), (cellsOfs ts x).length = sizes ts
  | [], _ => rfl
  | t :: ts, x => by simp only [cellsOfs, sizes, List.length_append, cellsOf_len t x.1, cellsOfs_len ts x.2]
end
theorem flat_len {t : Ty} (xs : List (El t)) : (xs.flatMap (cellsOf t)).length = xs.length * t.size := by
  induction xs with
  | nil => simp
  | cons x xs ih => simp only [List.flatMap_cons, List.length_append, cellsOf_len, ih, List.length_cons]; rw [Nat.add_mul]; omega

/-! equality of codes -/
mutual
def tyEq : (a b : Ty) → Decidable (a = b)
  | .int k, .int k' => if h : k = k' then .isTrue (by rw [h]) else .isFalse (by intro e; cases e; exact h rfl)
  | .bool, .bool => .isTrue rfl
  | .str, .str => .isTrue rfl
  | .list a, .list b => match tyEq a b with
    | .isTrue h => .isTrue (by rw [h])
    | .isFalse h => .isFalse (by intro e; cases e; exact h rfl)
  | .st a, .st b => match tysEq a b with
    | .isTrue h => .isTrue (by rw [h])
    | .isFalse h => .isFalse (by intro e; cases e; exact h rfl)
  | .int _, .bool => .isFalse (by intro e; cases e)
  | .int _, .str => .isFalse (by intro e; cases e)
  | .int _, .list _ => .isFalse (by intro e; cases e)
  | .int _, .st _ => .isFalse (by intro e; cases e)
  | .bool, .int _ => .isFalse (by intro e; cases e)
  | .bool, .str => .isFalse (by intro e; cases e)
  | .bool, .list _ => .isFalse (by intro e; cases e)
  | .bool, .st _ => .isFalse (by intro e; cases e)
  | .str, .bool => .isFalse (by intro e; cases e)
  | .str, .int _ => .isFalse (by intro e; cases e)
  | .str, .list _ => .isFalse (by intro e; cases e)
  | .str, .st _ => .isFalse (by intro e; cases e)
  | .list _, .bool => .isFalse (by intro e; cases e)
  | .list _, .str => .isFalse (by intro e; cases e)
  | .list _, .int _ => .isFalse (by intro e; cases e)
  | .list _, .st _ => .isFalse (by intro e; cases e)
  | .st _, .bool => .isFalse (by intro e; cases e)
  | .st _, .str => .isFalse (by intro e; cases e)
  | .st _, .list _ => .isFalse (by intro e; cases e)
  | .st _, .int _ => .isFalse (by intro e; cases e)
def tysEq : (a b : List Ty) → Decidable (a = b)
  | [], [] => .isTrue rfl
  | [], _ :: _ => .isFalse (by intro e; cases e)
  | _ :: _, [] => .isFalse (by intro e; cases e)
  | a :: as, b :: bs => match tyEq a b, tysEq as bs with
    | .isTrue h, .isTrue k => .isTrue (by rw [h, k])
    | .isFalse h, _ => .isFalse (by intro e; cases e; exact h rfl)
    | _, .isFalse h => .isFalse (by intro e; cases e; exact h rfl)
end
/-- as a value of another code, if it is the same one -/
def castTo {a : Ty} (b : Ty) (x : List (El a)) : Option (List (El b)) := match tyEq a b with
  | .isTrue h => some (h ▸ x)
  | .isFalse _ => none

/-! the evaluator's values -/
inductive TV where
  | undef
  | int (k : IntKind) (n : Int)
  | bool (b : Bool)
  | tt
  | ff
  | str (s : List UInt8)
  | nilp
  | ref (i o : Nat)
  | tl (t : Ty) (xs : List (El t)) (g : Tag)
  | ll (cs : List TV) (n : Nat) (g : Tag)
  | ep (cs : List TV) (o : Nat)
  | arr (i n : Nat)
  | ap (i : Nat) (ix : Int) (sz o : Nat)
  | nilf
  | func (f : Fn) (cs : List TV)
  | agg (cs : List TV)
  | tup (vs : List TV)
instance : Inhabited TV := ⟨.undef⟩
mutual
def tcells : (t : Ty) → El t → List TV
  | .int k, n => [.int k n]
  | .bool, b => [.bool b]
  | .str, s => [.str s]
  | .list e, xs => [.tl e xs .unk]
  | .st fs, x => tcellss fs x
def tcellss : (ts : List Ty) → Els ts → List TV
  | [], _ => []
  | t :: ts, x => tcells t x.1 ++ tcellss ts x.2
end
mutual

def dn : TV → AV
  | .undef => .undef
  | .int k n => .int k n
  | .bool b => .bool b
  | .tt => .bool true
  | .ff => .bool false
  | .str s => .str s
  | .nilp => .nilp
  | .ref i o => .ref i o
  | .tl t xs g => .list (xs.flatMap (cellsOf t)) xs.length g
  | .ll cs n g => .list (dns cs) n g
  | .ep cs o => .eptr (dns cs) o
  | .arr i n => .arr i n
  | .ap i ix sz o => .ref i (ix.toNat * sz + o)
  | .nilf => .nilf
  | .func f cs => .func f (dns cs)
  | .agg cs => .agg (dns cs)
  | .tup vs => .tuple (dns vs)
def dns : List TV → List AV
  | [] => []
  | a :: as => dn a :: dns as
end
theorem dns_map : ∀ l : List TV, dns l = l.map dn
  | [] => rfl
  | a :: as => by simp only [dns, List.map_cons, dns_map as]
theorem dns_app (a b : List TV) : dns (a ++ b) = dns a ++ dns b := by simp [dns_map]
mutual
theorem dns_tcells : ∀ (t : Ty) (x : El t), dns (tcells t x) = cellsOf t x
  | .int _, _ => rfl
  | .bool, _ => rfl
  | .str, _ => rfl
  | .list _, _ => rfl
  | .st fs, x => by simp only [tcells, cellsOf]; exact dns_tcellss fs x
theorem dns_tcellss : ∀ (ts : List Ty) (x : Els ts), dns (tcellss ts x) = cellsOfs ts x
  | [], _ => rfl
  | t :: ts, x => by simp only [tcellss, cellsOfs, dns_app, dns_tcells t x.1, dns_tcellss ts x.2]
end

/-! what may be said in another's place -/
def Wk (a b : AV) : Prop := ∀ G w v, VR0 G w a v → VR0 G w b v
def WkM (a b : AV) : Prop := ∀ M G w v, VR M G w a v → VR M G w b v
theorem Wk.refl (a : AV) : Wk a a := fun _ _ _ h => h
theorem WkM.refl (a : AV) : WkM a a := fun _ _ _ _ h => h
theorem Wk.trans {a b c : AV} (h : Wk a b) (k : Wk b c) : Wk a c := fun G w v x => k G w v (h G w v x)
theorem WkM.trans {a b c : AV} (h : WkM a b) (k : WkM b c) : WkM a c := fun M G w v x => k M G w v (h M G w v x)
theorem WkM.of {a b : AV} (h : Wk a b) (hb : b.mark = none) : WkM a b := fun M G w v x => ⟨h G w v x.1, OwnC.of_plain hb⟩
theorem Wk.undef (a : AV) : Wk a .undef := fun _ _ _ _ => by simp only [VR0]
theorem WkM.undef (a : AV) : WkM a .undef := .of (.undef a) rfl
/-- cell by cell -/
inductive Wks : List AV → List AV → Prop
  | nil : Wks [] []
  | cons {a b as bs} : Wk a b → Wks as bs → Wks (a :: as) (b :: bs)
theorem Wks.refl : ∀ l, Wks l l
  | [] => .nil
  | a :: l => .cons (.refl a) (Wks.refl l)
theorem Wks.app {a b c d : List AV} (h : Wks a b) (k : Wks c d) : Wks (a ++ c) (b ++ d) := by
  induction h with
  | nil => exact k
  | cons h _ ih => exact .cons h ih
theorem Wks.len {a b : List AV} (h : Wks a b) : a.length = b.length := by
  induction h with
  | nil => rfl
  | cons _ _ ih => simp [ih]
theorem Wks.trans {a b c : List AV} (h : Wks a b) : Wks b c → Wks a c := by
  induction h generalizing c with
  | nil => exact id
  | cons h _ ih => intro k; cases k with | cons k1 k2 => exact .cons (h.trans k1) (ih k2)
theorem Wks.VRs0 {G : Gh} {w : World} {a b : List AV} (h : Wks a b) : ∀ {vs : List Value}, VRs0 G w a vs → VRs0 G w b vs := by
  induction h with
  | nil => exact id
  | cons h _ ih =>
    intro vs k
    simp only [Abs.VRs0] at k ⊢
    obtain ⟨v, vs', e, k1, k2⟩ := k
    exact ⟨v, vs', e, h G w v k1, ih k2⟩
theorem Wk.agg {a b : List AV} (h : Wks a b) : Wk (.agg a) (.agg b) := fun G w v k => by
  simp only [VR0] at k ⊢
  obtain ⟨vs, e, k⟩ := k
  exact ⟨vs, e, h.VRs0 k⟩
theorem Wk.tuple {a b : List AV} (h : Wks a b) : Wk (.tuple a) (.tuple b) := fun G w v k => by
  simp only [VR0] at k ⊢
  obtain ⟨vs, e, k⟩ := k
  exact ⟨vs, e, h.VRs0 k⟩
theorem Wk.func {f : Fn} {a b : List AV} (h : Wks a b) : Wk (.func f a) (.func f b) := fun G w v k => by
  simp only [VR0] at k ⊢
  obtain ⟨vs, e, k⟩ := k
  exact ⟨vs, e, h.VRs0 k⟩
theorem Wk.list {a b : List AV} {n : Nat} {g g' : Tag} (h : Wks a b) (hg : g' = .full → g = .full) : Wk (.list a n g) (.list b n g') := fun G w v k => by
  simp only [VR0] at k ⊢
  obtain ⟨A, cap, k1, k2, k3, k4⟩ := k
  refine ⟨A, cap, k1, k2, fun e => k3 (hg e), ?_⟩
  rcases k4 with rfl | ⟨bl, o, vs, k5, k6, k7, k8⟩
  · cases h; exact .inl rfl
  · exact .inr ⟨bl, o, vs, k5, by rw [← h.len]; exact k6, k7, h.VRs0 k8⟩
theorem Wk.unk {a b : List AV} {n : Nat} {g : Tag} (h : Wks a b) : Wk (.list a n g) (.list b n .unk) := .list h (by intro e; cases e)
theorem WkM.full {cs : List AV} {n t : Nat} {e : TypeId} {z : Nat} (h : cs.length = n * z) : WkM (.list cs n .full) (.list cs n (.own t e z)) := fun M G w v k => by
  obtain ⟨k, _⟩ := k
  refine ⟨Wk.list (Wks.refl _) (by intro e; cases e) G w v k, ?_⟩
  simp only [VR0] at k
  obtain ⟨A, cap, k1, k2, k3, k4⟩ := k
  have := k3 trivial
  subst this
  exact .inl ⟨A, k1, h⟩
theorem AV.plain_wk (a : AV) : Wk a a.plain := fun _ _ _ h => h.plain
theorem AV.soft_wk (a : AV) : Wk a a.soft := fun _ _ _ h => h.soft
theorem plains_wk : ∀ l : List AV, Wks l (l.map AV.plain)
  | [] => .nil
  | a :: l => .cons a.plain_wk (plains_wk l)

/-- a pointer into a row, told of a piece of it -/
theorem Wk.eptr {cs a c : List AV} {n : Nat} {o : Nat} (h : cs = a ++ c.take n ++ c.drop n) (hn : n ≤ c.length) : Wk (.eptr cs (a.length + o)) (.eptr (c.take n) o) := fun G w v k => by
  simp only [VR0] at k ⊢
  obtain ⟨b, ob, vs, k1, ⟨k2, k2', k2''⟩, k3, k4⟩ := k
  have hl : vs.length = cs.length := k4.length
  have hcl : cs.length = a.length + c.length := by rw [h, List.append_assoc, List.take_append_drop, List.length_append]
  refine ⟨b, ob + a.length, (vs.drop a.length).take n, by rw [k1, Nat.add_assoc], ⟨k2, k2', fun ho => ?_⟩, ?_, ?_⟩
  · have := k2'' ho
    simp only [List.length_take]
    omega
  · intro i v hi
    rw [List.getElem?_take] at hi
    split at hi
    · rw [List.getElem?_drop] at hi
      have := k3 _ _ hi
      rw [← Nat.add_assoc] at this
      exact this
    · cases hi
  · have h2 := (k4.drop a.length).take n
    rw [h] at h2
    rw [List.append_assoc, List.drop_left] at h2
    rw [List.take_append_of_le_length (by simp; omega)] at h2
    rw [List.take_take, Nat.min_self] at h2
    exact h2
end Go.Proofs.Ytgicljncknbgcaa.Abs
