/- Typed values: codes of types, what they hold, their cells; the evaluator's values. -/
import Derived.Test.YtmacghaihlfcpaaGreatL2
namespace Go.Proofs.YtmacghaihlfcpaaGreat.Abs
open Go Go.ChangeShapes Go.WideShapes Go.ChangeAt Go.RowKit
set_option linter.unusedVariables false
set_option linter.unusedSimpArgs false

inductive Ty where
  | int (k : IntKind)
  | bool
  | str
  | list (e : Ty)
  | st (fs : List Ty)
mutual
def El : Ty → Type
  | .int _ => Int
  | .bool => Bool
  | .str => List UInt8
  | .list e => List (El e)
  | .st fs => Els fs
def Els : List Ty → Type
  | [] => Unit
  | t :: ts => El t × Els ts
end
mutual
def dflt : (t : Ty) → El t
  | .int _ => (0 : Int)
  | .bool => false
  | .str => ([] : List UInt8)
  | .list e => ([] : List (El e))
  | .st fs => dflts fs
def dflts : (ts : List Ty) → Els ts
  | [] => ()
  | t :: ts => (dflt t, dflts ts)
end
mutual
def Ty.size : Ty → Nat
  | .int _ => 1
  | .bool => 1
  | .str => 1
  | .list _ => 1
  | .st fs => sizes fs
def sizes : List Ty → Nat
  | [] => 0
  | t :: ts => t.size + sizes ts
end

mutual
def cellsOf : (t : Ty) → El t → List AV
  | .int k, n => [.int k n]
  | .bool, b => [.bool b]
  | .str, s => [.str s]
  | .list e, xs => [.list (List.flatMap (cellsOf e) xs) (List.length xs) .unk]
  | .st fs, x => cellsOfs fs x
def cellsOfs : (ts : List Ty) → Els ts → List AV
  | [], _ => []
  | t :: ts, x => cellsOf t x.1 ++ cellsOfs ts x.2
end
mutual
theorem cellsOf_len : ∀ (t : Ty) (x : El t), (cellsOf t x).length = t.size
  | .int _, _ => rfl
  | .bool, _ => rfl
  | .str, _ => rfl
  | .list _, _ => rfl
  | .st fs, x => by simp only [cellsOf, Ty.size]; exact cellsOfs_len fs x
theorem cellsOfs_len : ∀ (ts : List Ty) (x : Els ts), (cellsOfs ts x).length = sizes ts
  | [], _ => rfl
  | t :: ts, x => by simp only [cellsOfs, sizes, List.length_append, cellsOf_len t x.1, cellsOfs_len ts x.2]
end
theorem flat_len {t : Ty} (xs : List (El t)) : (xs.flatMap (cellsOf t)).length = xs.length * t.size := by
  induction xs with
  | nil => simp
  | cons x xs ih => simp only [List.flatMap_cons, List.length_append, cellsOf_len, ih, List.length_cons]; rw [Nat.add_mul]; omega

/-! equality of codes -/
mutual
def tyEq : (a b : Ty) → Decidable (a = b)
  | .int k, .int k' => if h : k = k' then .isTrue (by rw [h]) else .isFalse (by intro e; cases e; exact h rfl)
  | .bool, .bool => .isTrue rfl
  | .str, .str => .isTrue rfl
  | .list a, .list b => match tyEq a b with
    | .isTrue h => .isTrue (by rw [h])
    | .isFalse h => .isFalse (by intro e; cases e; exact h rfl)
  | .st a, .st b => match tysEq a b with
    | .isTrue h => .isTrue (by rw [h])
    | .isFalse h => .isFalse (by intro e; cases e; exact h rfl)
  | .int _, .bool => .isFalse (by intro e; cases e)
  | .int _, .str => .isFalse (by intro e; cases e)
  | .int _, .list _ => .isFalse (by intro e; cases e)
  | .int _, .st _ => .isFalse (by intro e; cases e)
  | .bool, .int _ => .isFalse (by intro e; cases e)
  | .bool, .str => .isFalse (by intro e; cases e)
  | .bool, .list _ => .isFalse (by intro e; cases e)
  | .bool, .st _ => .isFalse (by intro e; cases e)
  | .str, .bool => .isFalse (by intro e; cases e)
  | .str, .int _ => .isFalse (by intro e; cases e)
  | .str, .list _ => .isFalse (by intro e; cases e)
  | .str, .st _ => .isFalse (by intro e; cases e)
  | .list _, .bool => .isFalse (by intro e; cases e)
  | .list _, .str => .isFalse (by intro e; cases e)
  | .list _, .int _ => .isFalse (by intro e; cases e)
  | .list _, .st _ => .isFalse (by intro e; cases e)
  | .st _, .bool => .isFalse (by intro e; cases e)
  | .st _, .str => .isFalse (by intro e; cases e)
  | .st _, .list _ => .isFalse (by intro e; cases e)
  | .st _, .int _ => .isFalse (by intro e; cases e)
def tysEq : (a b : List Ty) → Decidable (a = b)
  | [], [] => .isTrue rfl
  | [], _ :: _ => .isFalse (by intro e; cases e)
  | _ :: _, [] => .isFalse (by intro e; cases e)
  | a :: as, b :: bs => match tyEq a b, tysEq as bs with
    | .isTrue h, .isTrue k => .isTrue (by rw [h, k])
    | .isFalse h, _ => .isFalse (by intro e; cases e; exact h rfl)
    | _, .isFalse h => .isFalse (by intro e; cases e; exact h rfl)
end
/-- as a value of another code, if it is the same one -/
def castTo {a : Ty} (b : Ty) (x : List (El a)) : Option (List (El b)) := match tyEq a b with
  | .isTrue h => some (h ▸ x)
  | .isFalse _ => none

/-! the evaluator's values -/
inductive TV where
  | undef
  | int (k : IntKind) (n : Int)
  | bool (b : Bool)
  | tt
  | ff
  | str (s : List UInt8)
  | nilp
  | ref (i o : Nat)
  | tl (t : Ty) (xs : List (El t)) (g : Tag)
  | ll (cs : List TV) (n : Nat) (g : Tag)
  | ep (cs : List TV) (o : Nat)
  | arr (i n : Nat)
  | ap (i : Nat) (ix : Int) (sz o : Nat)
  | nilf
  | mapn
  | mapr (i : Nat)
  | func (f : Fn) (cs : List TV)
  | agg (cs : List TV)
  | tup (vs : List TV)
instance : Inhabited TV := ⟨.undef⟩
mutual
def tcells : (t : Ty) → El t → List TV
  | .int k, n => [.int k n]
  | .bool, b => [.bool b]
  | .str, s => [.str s]
  | .list e, xs => [.tl e xs .unk]
  | .st fs, x => tcellss fs x
def tcellss : (ts : List Ty) → Els ts → List TV
  | [], _ => []
  | t :: ts, x => tcells t x.1 ++ tcellss ts x.2
end
mutual

def dn : TV → AV
  | .undef => .undef
  | .int k n => .int k n
  | .bool b => .bool b
  | .tt => .bool true
  | .ff => .bool false
  | .str s => .str s
  | .nilp => .nilp
  | .ref i o => .ref i o
  | .tl t xs g => .list (xs.flatMap (cellsOf t)) xs.length g
  | .ll cs n g => .list (dns cs) n g
  | .ep cs o => .eptr (dns cs) o
  | .arr i n => .arr i n
  | .ap i ix sz o => .ref i (ix.toNat * sz + o)
  | .nilf => .nilf
  | .mapn => .mapn
  | .mapr i => .mapr i
  | .func f cs => .func f (dns cs)
  | .agg cs => .agg (dns cs)
  | .tup vs => .tuple (dns vs)
def dns : List TV → List AV
  | [] => []
  | a :: as => dn a :: dns as
end
theorem dns_map : ∀ l : List TV, dns l = l.map dn
  | [] => rfl
  | a :: as => by simp only [dns, List.map_cons, dns_map as]
theorem dns_app (a b : List TV) : dns (a ++ b) = dns a ++ dns b := by simp [dns_map]
mutual
theorem dns_tcells : ∀ (t : Ty) (x : El t), dns (tcells t x) = cellsOf t x
  | .int _, _ => rfl
  | .bool, _ => rfl
  | .str, _ => rfl
  | .list _, _ => rfl
  | .st fs, x => by simp only [tcells, cellsOf]; exact dns_tcellss fs x
theorem dns_tcellss : ∀ (ts : List Ty) (x : Els ts), dns (tcellss ts x) = cellsOfs ts x
  | [], _ => rfl
  | t :: ts, x => by simp only [tcellss, cellsOfs, dns_app, dns_tcells t x.1, dns_tcellss ts x.2]
end

/-! what may be said in another's place -/
def Wk (a b : AV) : Prop := ∀ G w v, VR0 G w a v → VR0 G w b v
def WkM (a b : AV) : Prop := ∀ M G w v, VR M G w a v → VR M G w b v
theorem Wk.refl (a : AV) : Wk a a := fun _ _ _ h => h
theorem WkM.refl (a : AV) : WkM a a := fun _ _ _ _ h => h
theorem Wk.trans {a b c : AV} (h : Wk a b) (k : Wk b c) : Wk a c := fun G w v x => k G w v (h G w v x)
theorem WkM.trans {a b c : AV} (h : WkM a b) (k : WkM b c) : WkM a c := fun M G w v x => k M G w v (h M G w v x)
theorem WkM.of {a b : AV} (h : Wk a b) (hb : b.mark = none) : WkM a b := fun M G w v x => ⟨h G w v x.1, OwnC.of_plain hb⟩
theorem Wk.undef (a : AV) : Wk a .undef := fun _ _ _ _ => by simp only [VR0]
theorem WkM.undef (a : AV) : WkM a .undef := .of (.undef a) rfl
/-- cell by cell -/
inductive Wks : List AV → List AV → Prop
  | nil : Wks [] []
  | cons {a b as bs} : Wk a b → Wks as bs → Wks (a :: as) (b :: bs)
theorem Wks.refl : ∀ l, Wks l l
  | [] => .nil
  | a :: l => .cons (.refl a) (Wks.refl l)
theorem Wks.app {a b c d : List AV} (h : Wks a b) (k : Wks c d) : Wks (a ++ c) (b ++ d) := by
  induction h with
  | nil => exact k
  | cons h _ ih => exact .cons h ih
theorem Wks.len {a b : List AV} (h : Wks a b) : a.length = b.length := by
  induction h with
  | nil => rfl
  | cons _ _ ih => simp [ih]
theorem Wks.trans {a b c : List AV} (h : Wks a b) : Wks b c → Wks a c := by
  induction h generalizing c with
  | nil => exact id
  | cons h _ ih => intro k; cases k with | cons k1 k2 => exact .cons (h.trans k1) (ih k2)
theorem Wks.VRs0 {G : Gh} {w : World} {a b : List AV} (h : Wks a b) : ∀ {vs : List Value}, VRs0 G w a vs → VRs0 G w b vs := by
  induction h with
  | nil => exact id
  | cons h _ ih =>
    intro vs k
    simp only [Abs.VRs0] at k ⊢
    obtain ⟨v, vs', e, k1, k2⟩ := k
    exact ⟨v, vs', e, h G w v k1, ih k2⟩
theorem Wk.agg {a b : List AV} (h : Wks a b) : Wk (.agg a) (.agg b) := fun G w v k => by
  simp only [VR0] at k ⊢
  obtain ⟨vs, e, k⟩ := k
  exact ⟨vs, e, h.VRs0 k⟩
theorem Wk.tuple {a b : List AV} (h : Wks a b) : Wk (.tuple a) (.tuple b) := fun G w v k => by
  simp only [VR0] at k ⊢
  obtain ⟨vs, e, k⟩ := k
  exact ⟨vs, e, h.VRs0 k⟩
theorem Wk.func {f : Fn} {a b : List AV} (h : Wks a b) : Wk (.func f a) (.func f b) := fun G w v k => by
  simp only [VR0] at k ⊢
  obtain ⟨vs, e, k⟩ := k
  exact ⟨vs, e, h.VRs0 k⟩
theorem Wk.list {a b : List AV} {n : Nat} {g g' : Tag} (h : Wks a b) (hg : g' = .full → g = .full) : Wk (.list a n g) (.list b n g') := fun G w v k => by
  simp only [VR0] at k ⊢
  obtain ⟨A, cap, k1, k2, k3, k4⟩ := k
  refine ⟨A, cap, k1, k2, fun e => k3 (hg e), ?_⟩
  rcases k4 with rfl | ⟨bl, o, vs, k5, k6, k7, k8⟩
  · cases h; exact .inl rfl
  · exact .inr ⟨bl, o, vs, k5, by rw [← h.len]; exact k6, k7, h.VRs0 k8⟩
theorem Wk.unk {a b : List AV} {n : Nat} {g : Tag} (h : Wks a b) : Wk (.list a n g) (.list b n .unk) := .list h (by intro e; cases e)
theorem WkM.full {cs : List AV} {n t : Nat} {e : TypeId} {z : Nat} (h : cs.length = n * z) : WkM (.list cs n .full) (.list cs n (.own t e z)) := fun M G w v k => by
  obtain ⟨k, _⟩ := k
  refine ⟨Wk.list (Wks.refl _) (by intro e; cases e) G w v k, ?_⟩
  simp only [VR0] at k
  obtain ⟨A, cap, k1, k2, k3, k4⟩ := k
  have := k3 trivial
  subst this
  exact .inl ⟨A, k1, h⟩
theorem AV.plain_wk (a : AV) : Wk a a.plain := fun _ _ _ h => h.plain
theorem AV.soft_wk (a : AV) : Wk a a.soft := fun _ _ _ h => h.soft
theorem plains_wk : ∀ l : List AV, Wks l (l.map AV.plain)
  | [] => .nil
  | a :: l => .cons a.plain_wk (plains_wk l)

/-- a pointer into a row, told of a piece of it -/
theorem Wk.eptr {cs a c : List AV} {n : Nat} {o : Nat} (h : cs = a ++ c.take n ++ c.drop n) (hn : n ≤ c.length) : Wk (.eptr cs (a.length + o)) (.eptr (c.take n) o) := fun G w v k => by
  simp only [VR0] at k ⊢
  obtain ⟨b, ob, vs, k1, ⟨k2, k2', k2''⟩, k3, k4⟩ := k
  have hl : vs.length = cs.length := k4.length
  have hcl : cs.length = a.length + c.length := by rw [h, List.append_assoc, List.take_append_drop, List.length_append]
  refine ⟨b, ob + a.length, (vs.drop a.length).take n, by rw [k1, Nat.add_assoc], ⟨k2, k2', fun ho => ?_⟩, ?_, ?_⟩
  · have := k2'' ho
    simp only [List.length_take]
    omega
  · intro i v hi
    rw [List.getElem?_take] at hi
    split at hi
    · rw [List.getElem?_drop] at hi
      have := k3 _ _ hi
      rw [← Nat.add_assoc] at this
      exact this
    · cases hi
  · have h2 := (k4.drop a.length).take n
    rw [h] at h2
    rw [List.append_assoc, List.drop_left] at h2
    rw [List.take_append_of_le_length (by simp; omega)] at h2
    rw [List.take_take, Nat.min_self] at h2
    exact h2
end Go.Proofs.YtmacghaihlfcpaaGreat.Abs

namespace Go.Proofs.YtmacghaihlfcpaaGreat.Abs
noncomputable section
open Go Go.ChangeShapes Go.WideShapes Go.ChangeAt Go.RowKit
set_option linter.unusedVariables false
set_option linter.unusedSimpArgs false

def decN {α : Type} (f : List TV → Option (α × List TV)) : Nat → List TV → Option (List α)
  | 0, [] => some []
  | 0, _ :: _ => none
  | n + 1, cs => match f cs with
    | some (x, r) => (decN f n r).map (x :: ·)
    | none => none
def hd {α : Type} (f : TV → Option α) : List TV → Option (α × List TV)
  | [] => none
  | c :: r => match f c with
    | some x => some (x, r)
    | none => none
def dInt (k : IntKind) : TV → Option Int
  | .int k' n => if k = k' then some n else none
  | _ => none
def dBool : TV → Option Bool
  | .bool b => some b
  | .tt => some true
  | .ff => some false
  | _ => none
def dStr : TV → Option (List UInt8)
  | .str s => some s
  | _ => none
def dLst (e : Ty) (f : List TV → Option (El e × List TV)) : TV → Option (List (El e))
  | .tl e' xs _ => castTo e xs
  | .ll cs n _ => decN f n cs
  | _ => none
mutual
def dec : (t : Ty) → List TV → Option (El t × List TV)
  | .int k => hd (dInt k)
  | .bool => hd dBool
  | .str => hd dStr
  | .list e => hd (dLst e (dec e))
  | .st fs => decs fs
def decs : (ts : List Ty) → List TV → Option (Els ts × List TV)
  | [] => fun cs => some ((), cs)
  | t :: ts => fun cs => match dec t cs with
    | some (x, r) => match decs ts r with
      | some (y, r2) => some ((x, y), r2)
      | none => none
    | none => none
end
theorem hd_some {α : Type} {f : TV → Option α} {cs : List TV} {x : α} {r : List TV} (h : hd f cs = some (x, r)) : ∃ c, cs = c :: r ∧ f c = some x := by
  cases cs with
  | nil => simp [hd] at h
  | cons c cs =>
    simp only [hd] at h
    split at h
    · rename_i y hy; cases h; exact ⟨c, rfl, hy⟩
    · cases h
theorem castTo_some {a b : Ty} {x : List (El a)} {y : List (El b)} (h : castTo b x = some y) : ∃ e : a = b, y = e ▸ x := by
  unfold castTo at h
  split at h
  · rename_i e _; cases h; exact ⟨e, rfl⟩
  · cases h
theorem map_some_eq {α β : Type} {x : Option α} {f : α → β} {y : β} (h : x.map f = some y) : ∃ a, x = some a ∧ f a = y := by
  cases x with
  | none => cases h
  | some a => exact ⟨a, rfl, by simpa using h⟩
theorem decN_spec {t : Ty} (f : List TV → Option (El t × List TV)) (hf : ∀ cs x r, f cs = some (x, r) → Wks (dns cs) (cellsOf t x ++ dns r)) : ∀ (n : Nat) (cs : List TV) (xs : List (El t)), decN f n cs = some xs → Wks (dns cs) (xs.flatMap (cellsOf t)) ∧ xs.length = n
  | 0, [], xs, h => by simp only [decN, Option.some.injEq] at h; subst h; exact ⟨.nil, rfl⟩
  | 0, _ :: _, xs, h => by simp [decN] at h
  | n + 1, cs, xs, h => by
    simp only [decN] at h
    split at h
    · rename_i x r hx
      obtain ⟨ys, h1, rfl⟩ := map_some_eq h
      obtain ⟨h2, h3⟩ := decN_spec f hf n r ys h1
      refine ⟨(hf _ _ _ hx).trans ?_, by simp [h3]⟩
      rw [List.flatMap_cons]
      exact .app (.refl _) h2
    · cases h
mutual
theorem dec_spec : ∀ (t : Ty) (cs : List TV) (x : El t) (r : List TV), dec t cs = some (x, r) → Wks (dns cs) (cellsOf t x ++ dns r)
  | .int k, cs, x, r, h => by
    simp only [dec] at h
    obtain ⟨c, rfl, h2⟩ := hd_some h
    clear h
    have h := h2
    clear h2
    unfold dInt at h
    split at h
    · split at h
      · rename_i hk; subst hk; cases h; exact .refl _
      · cases h
    · cases h
  | .bool, cs, x, r, h => by
    simp only [dec] at h
    obtain ⟨c, rfl, h2⟩ := hd_some h
    clear h
    have h := h2
    clear h2
    unfold dBool at h
    split at h <;> cases h <;> exact .refl _
  | .str, cs, x, r, h => by
    simp only [dec] at h
    obtain ⟨c, rfl, h2⟩ := hd_some h
    clear h
    have h := h2
    clear h2
    unfold dStr at h
    split at h <;> cases h <;> exact .refl _
  | .list e, cs, x, r, h => by
    simp only [dec] at h
    obtain ⟨c, rfl, h2⟩ := hd_some h
    clear h
    have h := h2
    clear h2
    unfold dLst at h
    split at h
    · obtain ⟨e1, h3⟩ := castTo_some h
      subst e1
      subst h3
      exact .cons (.unk (.refl _)) (.refl _)
    · rename_i cs' n g
      obtain ⟨h3, h4⟩ := decN_spec (dec e) (fun cs x r h => dec_spec e cs x r h) n cs' _ h
      refine .cons ?_ (.refl _)
      show Wk (.list (dns cs') n g) (.list _ _ .unk)
      rw [h4]
      exact .unk h3
    · cases h
  | .st fs, cs, x, r, h => by
    simp only [dec] at h
    exact decs_spec fs cs x r h
theorem decs_spec : ∀ (ts : List Ty) (cs : List TV) (x : Els ts) (r : List TV), decs ts cs = some (x, r) → Wks (dns cs) (cellsOfs ts x ++ dns r)
  | [], cs, x, r, h => by simp only [decs] at h; cases h; exact .refl _
  | t :: ts, cs, x, r, h => by
    simp only [decs] at h
    split at h
    · rename_i y r1 h1
      split at h
      · rename_i z r2' h2
        cases h
        have a1 := dec_spec t cs y r1 h1
        have a2 := decs_spec ts r1 z _ h2
        simp only [cellsOfs]
        rw [List.append_assoc]
        exact a1.trans (.app (.refl _) a2)
      · cases h
    · cases h
end
/-- a value as one of a code -/
def notAgg : TV → Bool
  | .agg _ => false
  | _ => true
def decV : (t : Ty) → TV → Option (El t)
  | .st fs => fun v => match v with
    | .agg cs => match decs fs cs with
      | some (x, []) => some x
      | _ => none
    | _ => none
  | .int k => dInt k
  | .bool => dBool
  | .str => dStr
  | .list e => dLst e (dec e)
def tval : (t : Ty) → El t → TV
  | .int k, n => .int k n
  | .bool, b => .bool b
  | .str, s => .str s
  | .list e, xs => .tl e xs .unk
  | .st fs, x => .agg (tcellss fs x)
def aval (t : Ty) (x : El t) : AV := dn (tval t x)
theorem decV_spec {t : Ty} {v : TV} {x : El t} (h : decV t v = some x) : Wk (dn v) (aval t x) := by
  cases t with
  | st fs =>
    simp only [decV] at h
    split at h
    · rename_i cs
      split at h
      · rename_i y hy
        cases h
        have := decs_spec fs cs x [] hy
        simp only [dns, List.append_nil] at this
        have e : aval (.st fs) x = .agg (cellsOfs fs x) := congrArg AV.agg (dns_tcellss fs x)
        rw [e]
        exact .agg this
      · cases h
    · cases h
  | int k =>
    have h2 : dec (.int k) [v] = some (x, []) := by simp only [dec, hd]; rw [show dInt k v = some x from h]
    have := dec_spec _ _ _ _ h2
    simp only [dns, List.append_nil, cellsOf] at this
    cases this with | cons h1 _ => exact h1
  | bool =>
    have h2 : dec .bool [v] = some (x, []) := by simp only [dec, hd]; rw [show dBool v = some x from h]
    have := dec_spec _ _ _ _ h2
    simp only [dns, List.append_nil, cellsOf] at this
    cases this with | cons h1 _ => exact h1
  | str =>
    have h2 : dec .str [v] = some (x, []) := by simp only [dec, hd]; rw [show dStr v = some x from h]
    have := dec_spec _ _ _ _ h2
    simp only [dns, List.append_nil, cellsOf] at this
    cases this with | cons h1 _ => exact h1
  | list e =>
    have h2 : dec (.list e) [v] = some (x, []) := by simp only [dec, hd]; rw [show dLst e (dec e) v = some x from h]
    have := dec_spec _ _ _ _ h2
    simp only [dns, List.append_nil, cellsOf] at this
    cases this with | cons h1 _ => exact h1
theorem aval_mark (t : Ty) (x : El t) : (aval t x).mark = none := by cases t <;> rfl
theorem aval_soft (t : Ty) (x : El t) : (aval t x).soft = aval t x := by cases t <;> rfl

/-! constants -/
def tAbsS : Value → TV
  | .int k n => .int k n
  | .bool b => if b = true then .tt else .ff
  | .string s => .str s.data.toList
  | .pointer a => if a = none then .nilp else .undef
  | .slice a n c => if a = none ∧ n = 0 ∧ c = 0 then .ll [] 0 .full else .undef
  | .nilFunc => .nilf
  | .map r => if r = none then .mapn else .undef
  | .func fn a b => if a.size = 0 ∧ b.size = 0 then .func fn [] else .undef
  | .tuple a => if a.size = 0 then .tup [] else .undef
  | _ => .undef
def tAbs : Value → TV
  | .agg cs => .agg (cs.toList.map tAbsS)
  | v => tAbsS v
theorem dn_tAbsS (v : Value) : dn (tAbsS v) = absS v := by
  cases v <;> simp only [tAbsS, absS] <;> (try split) <;> (try simp_all [dn, dns])
theorem dn_tAbs (v : Value) : dn (tAbs v) = absV v := by
  cases v <;> simp only [tAbs, absV] <;> first | exact dn_tAbsS _ | skip
  simp only [dn, dns_map, List.map_map]
  congr 1
  apply List.map_congr_left
  intro a _
  exact dn_tAbsS a
def nthR (l : List TV) (t : Nat) : TV := List.rec (motive := fun _ => Nat → TV) (fun _ => .undef) (fun x _ ih n => Nat.rec (motive := fun _ => TV) x (fun m _ => ih m) n) l t
theorem nthR_eq : ∀ (l : List TV) (t : Nat), nthR l t = l.getD t .undef
  | [], t => rfl
  | a :: as, 0 => rfl
  | a :: as, t + 1 => nthR_eq as t
def tEval (fr : List TV) : Operand → TV
  | .tmp t => nthR fr t
  | .const v => tAbs v
  | .func f => .func (.func f) []
  | .global _ => .undef
theorem dns_getD : ∀ (fr : List TV) (t : Nat), (dns fr).getD t .undef = dn (fr.getD t .undef)
  | [], t => by simp [dns, dn]
  | a :: as, 0 => by simp [dns]
  | a :: as, t + 1 => by simpa [dns] using dns_getD as t
theorem dn_tEval (fr : List TV) (x : Operand) : dn (tEval fr x) = aEval (dns fr) x := by
  cases x with
  | tmp t => simp only [tEval, aEval]; rw [nthR_eq, dns_getD]
  | const v => exact dn_tAbs v
  | func f => rfl
  | global g => rfl
theorem dns_set : ∀ (fr : List TV) (d : Nat) (v : TV), dns (fr.set d v) = (dns fr).set d (dn v)
  | [], d, v => rfl
  | a :: as, 0, v => rfl
  | a :: as, d + 1, v => by simp only [List.set_cons_succ, dns, dns_set as d v]
theorem dns_length : ∀ fr : List TV, (dns fr).length = fr.length
  | [] => rfl
  | a :: as => by simp [dns, dns_length as]
def tPut (fr : List TV) (d : Option Nat) (v : TV) : List TV := match d with
  | some d => fr.set d v
  | none => fr
theorem dns_tPut (fr : List TV) (d : Option Nat) (v : TV) : dns (tPut fr d v) = aPut (dns fr) d (dn v) := by
  cases d with
  | none => rfl
  | some d => exact dns_set fr d v

inductive TOb where
  | cells (cs : List TV) (t : TypeId) (live : Bool)
  | tarr (ty : Ty) (xs : List (El ty)) (t : TypeId) (live : Bool)
def dnO : TOb → Ob
  | .cells cs t l => ⟨dns cs, t, l⟩
  | .tarr ty xs t l => ⟨xs.flatMap (cellsOf ty), t, l⟩
def dnS (s : List TOb) : List Ob := s.map dnO
theorem dnS_get (s : List TOb) (i : Nat) : (dnS s)[i]? = (s[i]?).map dnO := by simp [dnS]
theorem dnS_length (s : List TOb) : (dnS s).length = s.length := by simp [dnS]
end
end Go.Proofs.YtmacghaihlfcpaaGreat.Abs

namespace Go.Proofs.YtmacghaihlfcpaaGreat.Abs
noncomputable section
open Go Go.ChangeShapes Go.WideShapes Go.ChangeAt Go.RowKit
set_option linter.unusedVariables false
set_option linter.unusedSimpArgs false

def gdP (g : Bool) : Prop := g = true
def tplain : TV → TV
  | .tl t xs (.own _ _ _) => .tl t xs .unk
  | .ll cs n (.own _ _ _) => .ll cs n .unk
  | v => v
theorem dn_tplain (v : TV) : dn (tplain v) = (dn v).plain := by
  cases v <;> try rfl
  · rename_i t xs g; cases g <;> rfl
  · rename_i cs n g; cases g <;> rfl
theorem dns_tplain (l : List TV) : dns (l.map tplain) = (dns l).map AV.plain := by
  simp only [dns_map, List.map_map]
  apply List.map_congr_left
  intro a _
  exact dn_tplain a
theorem dns_take : ∀ (l : List TV) (n : Nat), dns (l.take n) = (dns l).take n
  | [], n => by simp [dns]
  | a :: l, 0 => rfl
  | a :: l, n + 1 => by simp only [List.take_succ_cons, dns, dns_take l n]
theorem dns_drop : ∀ (l : List TV) (n : Nat), dns (l.drop n) = (dns l).drop n
  | [], n => by simp [dns]
  | a :: l, 0 => rfl
  | a :: l, n + 1 => by simp only [List.drop_succ_cons, dns, dns_drop l n]
theorem dns_get (l : List TV) (i : Nat) : (dns l)[i]? = (l[i]?).map dn := by rw [dns_map]; simp

/-- whether it is a boolean -/
def asB : TV → Option Bool
  | .bool b => some b
  | .tt => some true
  | .ff => some false
  | _ => none
theorem asB_spec {v : TV} {b : Bool} (h : asB v = some b) : dn v = .bool b := by
  unfold asB at h; split at h <;> cases h <;> rfl
/-- the numbers of an int64 -/
def inI64 : Int → Bool
  | .ofNat n => Nat.ble n 9223372036854775807
  | .negSucc n => Nat.ble n 9223372036854775807
theorem inI64_iff (n : Int) : inI64 n = true ↔ -9223372036854775808 ≤ n ∧ n ≤ 9223372036854775807 := by
  cases n with
  | ofNat n => simp only [inI64, Nat.ble_eq]; simp only [Int.ofNat_eq_natCast]; omega
  | negSucc n => simp only [inI64, Nat.ble_eq]; omega
def fits (n m : Nat) : Bool := Nat.ble n m
theorem fits_iff (n m : Nat) : fits n m = true ↔ n ≤ m := by simp only [fits, Nat.ble_eq]
def catOK (a b : List UInt8) : Bool := Nat.ble (a.length + b.length) 9223372036854775807
theorem catOK_iff (a b : List UInt8) : catOK a b = true ↔ a.length + b.length ≤ 9223372036854775807 := by simp only [catOK, Nat.ble_eq]
def canMake (bytes : Nat) (n m : Int) : Bool := (n == m) && match n with
  | .ofNat k => Nat.ble (bytes * k) 281474976710656 && Nat.ble k 9223372036854775807
  | .negSucc _ => false
theorem canMake_iff (bytes : Nat) (n m : Int) : canMake bytes n m = true ↔ n = m ∧ 0 ≤ n ∧ (bytes : Int) * n ≤ 281474976710656 ∧ n ≤ 9223372036854775807 := by
  unfold canMake
  cases n with
  | ofNat k =>
    simp only [Bool.and_eq_true, beq_iff_eq, Nat.ble_eq, Int.ofNat_eq_natCast]
    rw [← Int.natCast_mul]
    omega
  | negSucc k => simp only [Bool.and_false, Bool.false_eq_true, false_iff]; omega
/-- a number of a kind: whether it is told as it is, and what is told -/
def tW (wr : Bool) (k : IntKind) (n : Int) : Bool × Int := match wr, k with
  | false, .i64 => (inI64 n, n)
  | _, k => (true, k.wrap n)
theorem tW_spec {wr : Bool} {k : IntKind} {n : Int} (h : (tW wr k n).1 = true) : (tW wr k n).2 = k.wrap n := by
  unfold tW at h ⊢
  split
  · have h2 := (inI64_iff n).1 h
    rw [IntKind.wrap_i64]
    omega
  · rfl
def tIntOp (wr : Bool) (op : BinOp) (k : IntKind) (a b : Int) : Option (Bool × TV) :=
  match op with
  | .add => some ((tW wr k (a + b)).1, .int k (tW wr k (a + b)).2)
  | .sub => some ((tW wr k (a - b)).1, .int k (tW wr k (a - b)).2)
  | .mul => some ((tW wr k (a * b)).1, .int k (tW wr k (a * b)).2)
  | .quo => some (decide (b ≠ 0) && (tW wr k (a.tdiv b)).1, .int k (tW wr k (a.tdiv b)).2)
  | .rem => some (decide (b ≠ 0), .int k (a.tmod b))
  | .eql => some (true, .bool (a == b))
  | .neq => some (true, .bool (a != b))
  | .lss => some (true, .bool (decide (a < b)))
  | .leq => some (true, .bool (decide (a ≤ b)))
  | .gtr => some (true, .bool (decide (a > b)))
  | .geq => some (true, .bool (decide (a ≥ b)))
  | .and => some (true, .int k (iBits .and k a b))
  | .or => some (true, .int k (iBits .or k a b))
  | .xor => some (true, .int k (iBits .xor k a b))
  | _ => none
def tShift (op : BinOp) (k : IntKind) (a b : Int) : Option (Bool × TV) :=
  match op with
  | .shl => some (!(decide (b < 0)), .int k (iShl k a b))
  | .shr => some (!(decide (b < 0)), .int k (iShr k a b))
  | _ => none
def tStrOp (op : BinOp) (a b : List UInt8) : Option (Bool × TV) :=
  match op with
  | .add => some (catOK a b, .str (a ++ b))
  | .eql => some (true, .bool (a == b))
  | .neq => some (true, .bool (!(a == b)))
  | .lss => some (true, .bool (Op.bytesLess a b))
  | .leq => some (true, .bool (Op.bytesLess a b || a == b))
  | .gtr => some (true, .bool (!(Op.bytesLess a b || a == b)))
  | .geq => some (true, .bool (!(Op.bytesLess a b)))
  | _ => none
def tBoolOp (P : Program) (t : TypeId) (op : BinOp) (a b : Bool) : Option (Bool × TV) :=
  match P.underlying t, op with
  | some .bool, .eql => some (true, .bool (a == b))
  | some .bool, .neq => some (true, .bool (!(a == b)))
  | _, _ => none
def tEqF (P : Program) (f : TypeId → List TV → List TV → Option Bool) : List Field → List TV → List TV → Option Bool
  | [], _, _ => some true
  | g :: gs, cs, ds => if g.name ≠ "_" then
      match P.info? g.type with
      | some i => match f g.type ((cs.drop g.offset).take i.size) ((ds.drop g.offset).take i.size) with
        | some a => match tEqF P f gs cs ds with
          | some b => some (a && b)
          | none => none
        | none => none
      | none => none
    else tEqF P f gs cs ds
def tEqT (P : Program) : Nat → TypeId → List TV → List TV → Option Bool
  | 0, _, _, _ => none
  | d + 1, t, cs, ds => match P.underlying t with
    | some (.struct fs) => if P.stoodInHeld t = true then none else tEqF P (tEqT P d) fs.toList cs ds
    | some .bool => match cs, ds with
      | [a], [b] => match asB a, asB b with
        | some a, some b => some (a == b)
        | _, _ => none
      | _, _ => none
    | some (.int _) => match cs, ds with
      | [.int k a], [.int k' b] => if k = k' then some (a == b) else none
      | _, _ => none
    | some .string => match cs, ds with
      | [.str a], [.str b] => some (a == b)
      | _, _ => none
    | _ => none
theorem dns_sub (cs : List TV) (o n : Nat) : dns ((cs.drop o).take n) = ((dns cs).drop o).take n := by simp [dns_map, List.map_take, List.map_drop]
theorem tEqF_spec {P : Program} {f : TypeId → List TV → List TV → Option Bool} {f' : TypeId → List AV → List AV → Option Bool} (hf : ∀ t cs ds r, f t cs ds = some r → f' t (dns cs) (dns ds) = some r) : ∀ (gs : List Field) (cs ds : List TV) (r : Bool), tEqF P f gs cs ds = some r → aEqF P f' gs (dns cs) (dns ds) = some r
  | [], cs, ds, r, h => h
  | g :: gs, cs, ds, r, h => by
    simp only [tEqF] at h
    simp only [aEqF]
    split at h
    · rename_i hn
      rw [if_pos hn]
      split at h
      · rename_i i hi
        simp only [hi]
        split at h
        · rename_i a ha
          have h1 := hf _ _ _ _ ha
          rw [dns_sub, dns_sub] at h1
          split at h
          · rename_i b hb
            have h2 := tEqF_spec hf gs cs ds b hb
            rw [h1, h2]
            exact h
          · cases h
        · cases h
      · cases h
    · rename_i hn
      rw [if_neg hn]
      exact tEqF_spec hf gs cs ds r h
theorem tEqT_spec {P : Program} : ∀ (d : Nat) (t : TypeId) (cs ds : List TV) (r : Bool), tEqT P d t cs ds = some r → aEqT P d t (dns cs) (dns ds) = some r
  | 0, _, _, _, _, h => by cases h
  | d + 1, t, cs, ds, r, h => by
    unfold tEqT at h
    unfold aEqT
    split at h
    · rename_i fs hu
      simp only [hu]
      split at h
      · cases h
      · rename_i hs
        rw [if_neg hs]
        exact tEqF_spec (fun t cs ds r h => tEqT_spec d t cs ds r h) _ _ _ _ h
    · rename_i hu
      simp only [hu]
      split at h
      · split at h
        · rename_i ha hb
          simp only [dns, asB_spec ha, asB_spec hb, aEq1]
          exact h
        · cases h
      · cases h
    · rename_i k hu
      simp only [hu]
      split at h
      · simp only [dns, dn, aEq1]; exact h
      · cases h
    · rename_i hu
      simp only [hu]
      split at h
      · simp only [dns, dn, aEq1]; exact h
      · cases h
    · cases h
def tBin (P : Program) (wr : Bool) (t : TypeId) (op : BinOp) (x y : TV) : Option (Bool × TV) :=
  match x, y with
  | .int k a, .int k' b => match tShift op k a b with
    | some r => some r
    | none => if k = k' then tIntOp wr op k a b else none
  | .str a, .str b => tStrOp op a b
  | .nilp, .nilp => match P.underlying t, op with
    | some (.pointer _), .eql => some (true, .tt)
    | some (.pointer _), .neq => some (true, .ff)
    | _, _ => none
  | .ref _ _, .nilp => match P.underlying t, op with
    | some (.pointer _), .eql => some (true, .ff)
    | some (.pointer _), .neq => some (true, .tt)
    | _, _ => none
  | .mapn, .mapn => match P.underlying t, op with
    | some (.map _ _), .eql => some (true, .tt)
    | some (.map _ _), .neq => some (true, .ff)
    | _, _ => none
  | .mapr _, .mapn => match P.underlying t, op with
    | some (.map _ _), .eql => some (true, .ff)
    | some (.map _ _), .neq => some (true, .tt)
    | _, _ => none
  | .agg cs, .agg ds => match P.underlying t with
    | some (.struct _) => if P.eqGuardType P.depth t = false then
        match op with
        | .eql => match tEqT P 20 t cs ds with
          | some b => some (true, .bool b)
          | none => none
        | .neq => match tEqT P 20 t cs ds with
          | some b => some (true, .bool (!b))
          | none => none
        | _ => none
      else none
    | _ => none
  | x, y => match asB x, asB y with
    | some a, some b => tBoolOp P t op a b
    | _, _ => none
theorem tBin_spec {P : Program} {wr : Bool} {t : TypeId} {op : BinOp} {x y v : TV} {g : Bool} (h : tBin P wr t op x y = some (g, v)) (hg : gdP g) : aBin P t op (dn x) (dn y) = some (dn v) := by
  unfold tBin at h
  split at h
  · split at h
    · rename_i r hsh
      cases h
      unfold tShift at hsh
      split at hsh <;> cases hsh <;> simp only [gdP, Bool.not_eq_true', decide_eq_false_iff_not] at hg <;> simp [dn, aBin, aShift, hg]
    rename_i hsh
    have hsh' : ∀ k' a' b', aShift op k' a' b' = none := by
      intro k' a' b'
      cases op <;> first
        | rfl
        | cases hsh
    split at h
    · rename_i hk
      subst hk
      simp only [dn, aBin, hsh', if_true]
      unfold tIntOp at h
      split at h <;> cases h <;> simp only [aIntOp, dn] <;> simp only [gdP, decide_eq_true_eq, Bool.and_eq_true] at hg <;> first
        | (rw [tW_spec hg]; done)
        | (rw [tW_spec hg.2]; simp [hg.1]; done)
        | simp [hg]
    · cases h
  · simp only [dn, aBin]
    unfold tStrOp at h
    split at h <;> cases h <;> simp only [aStrOp, dn] <;> simp only [gdP, catOK_iff] at hg <;> simp [hg]
  · simp only [dn, aBin]
    split at h <;> cases h <;> simp [*, dn]
  · simp only [dn, aBin]
    split at h <;> cases h <;> simp [*, dn]
  · simp only [dn, aBin]
    split at h <;> cases h <;> simp [*, dn]
  · simp only [dn, aBin]
    split at h <;> cases h <;> simp [*, dn]
  · simp only [dn, aBin]
    split at h
    · rename_i fs hu
      simp only [hu]
      split at h
      · rename_i hgd
        rw [if_pos hgd]
        split at h
        · split at h
          · rename_i b hb; cases h; rw [tEqT_spec _ _ _ _ _ hb]; rfl
          · cases h
        · split at h
          · rename_i b hb; cases h; rw [tEqT_spec _ _ _ _ _ hb]; rfl
          · cases h
        · cases h
      · cases h
    · cases h
  · split at h
    · rename_i a b ha hb
      rw [asB_spec ha, asB_spec hb]
      simp only [aBin]
      unfold tBoolOp at h
      split at h <;> cases h <;> simp [*, dn]
    · cases h
def tUn (wr : Bool) (op : UnOp) (x : TV) : Option (Bool × TV) :=
  match op, x with
  | .neg, .int k n => some ((tW wr k (0 - n)).1, .int k (tW wr k (0 - n)).2)
  | .not, .tt => some (true, .ff)
  | .not, .ff => some (true, .tt)
  | .not, .bool b => some (true, .bool (!b))
  | _, _ => none
theorem tUn_spec {wr : Bool} {op : UnOp} {x v : TV} {g : Bool} (h : tUn wr op x = some (g, v)) (hg : gdP g) : aUn op (dn x) = some (dn v) := by
  unfold tUn at h
  split at h <;> cases h <;> first
    | rfl
    | (simp only [dn, aUn]; rw [tW_spec hg])
def ofBytes (ns : List Int) : List UInt8 := ns.map fun n => UInt8.ofNat n.toNat
theorem bytes_of : ∀ (xs : List (El (.int .u8))), (xs.flatMap (cellsOf (.int .u8))).mapM byteOfI = some (ofBytes xs)
  | [] => rfl
  | x :: xs => by
    have ih := bytes_of xs
    show (AV.int .u8 x :: xs.flatMap (cellsOf (.int .u8))).mapM byteOfI = _
    rw [List.mapM_cons, ih]
    rfl
def tConv (P : Program) (wr : Bool) (src dst : TypeId) (x : TV) : Option (Bool × TV) :=
  match x with
  | .str b => match P.underlying src, P.underlying dst with
    | some .string, some .string => some (true, .str b)
    | _, _ => none
  | .tl (.int .u8) xs _ => match P.underlying src, P.underlying dst with
    | some (.slice e), some .string => match P.underlying e with
      | some (.int .u8) => some (true, .str (ofBytes xs))
      | _ => none
    | _, _ => none
  | .int _ n => match P.underlying src, P.underlying dst with
    | some _, some (.int k) => some ((tW wr k n).1, .int k (tW wr k n).2)
    | _, _ => none
  | _ => none
theorem tConv_spec {P : Program} {wr : Bool} {src dst : TypeId} {x v : TV} {g : Bool} (h : tConv P wr src dst x = some (g, v)) (hg : gdP g) : aConv P src dst (dn x) = some (dn v) := by
  unfold tConv at h
  split at h
  · split at h
    · cases h; simp only [dn, aConv, *]
    · cases h
  · rename_i xs gt
    split at h
    · rename_i e h1 h2
      split at h
      · rename_i h3
        cases h
        simp only [dn, aConv, h1, h2, h3]
        have hl : (xs.flatMap (cellsOf (.int .u8))).length = xs.length := by
          have := flat_len (t := .int .u8) xs
          rw [this]
          exact Nat.mul_one _
        refine (if_pos hl).trans ?_
        rw [bytes_of xs]
        rfl
      · cases h
    · cases h
  · split at h
    · cases h; simp only [dn, aConv, *]; rw [tW_spec hg]
    · cases h
  · cases h

/-! memory -/
def tLoad (P : Program) (t : TypeId) (cs : List TV) (o : Nat) : Option TV :=
  match aggSize P t with
  | some (some n) => if o + n ≤ cs.length then some (.agg (((cs.drop o).take n).map tplain)) else none
  | some none => cs[o]?
  | none => none
theorem tLoad_spec {P : Program} {t : TypeId} {cs : List TV} {o : Nat} {v : TV} (h : tLoad P t cs o = some v) : aLoad P t (dns cs) o = some (dn v) := by
  unfold tLoad at h
  unfold aLoad
  split at h
  · rename_i n hn
    simp only [hn]
    split at h
    · rename_i hl
      cases h
      rw [dns_length, if_pos hl]
      simp only [dn, dns_tplain, dns_take, dns_drop]
    · cases h
  · rename_i hn
    simp only [hn]
    rw [dns_get, h]
    rfl
  · cases h
/-- element i of a row of typed values -/
theorem flat_split {t : Ty} (xs : List (El t)) (i : Nat) (h : i < xs.length) : ∃ a c, xs.flatMap (cellsOf t) = a ++ c ∧ a.length = i * t.size ∧ c.take t.size = cellsOf t (xs.getD i (dflt t)) ∧ t.size ≤ c.length := by
  refine ⟨(xs.take i).flatMap (cellsOf t), (xs.drop i).flatMap (cellsOf t), ?_, ?_, ?_, ?_⟩
  · rw [← List.flatMap_append, List.take_append_drop]
  · rw [flat_len, List.length_take, Nat.min_eq_left (Nat.le_of_lt h)]
  · rw [List.drop_eq_getElem_cons h, List.flatMap_cons, List.take_append_of_le_length (by rw [cellsOf_len]; exact Nat.le_refl _), List.take_of_length_le (by rw [cellsOf_len]; exact Nat.le_refl _)]
    simp [h]
  · rw [flat_len, List.length_drop]
    have : 1 ≤ xs.length - i := by omega
    have := Nat.mul_le_mul_right t.size this
    omega
theorem aLoad_piece {P : Program} {t : TypeId} {a c : List AV} {n o : Nat} {v : AV} (hn : n ≤ c.length) (h : aLoad P t (c.take n) o = some v) : aLoad P t (a ++ c) (a.length + o) = some v := by
  unfold aLoad at h ⊢
  split at h
  · rename_i m hm
    split at h
    · rename_i hl
      cases h
      rw [List.length_take] at hl
      rw [List.length_append, if_pos (by omega)]
      congr 2
      rw [List.drop_append, List.drop_of_length_le (by omega), List.nil_append, Nat.add_sub_cancel_left, List.drop_take, List.take_take, Nat.min_eq_left (by omega)]
    · cases h
  · rename_i hm
    rw [List.getElem?_append_right (by omega), Nat.add_sub_cancel_left]
    rw [List.getElem?_take] at h
    split at h
    · exact h
    · cases h
  · cases h
def tLoadAt (P : Program) (s : List TOb) (t : TypeId) (x : TV) : Option (Bool × TV) :=
  match x with
  | .ref i k => match s[i]? with
    | some (.cells cs t' l) => if l = true ∧ t' ≠ mapT then (tLoad P t cs k).map fun v => (true, v) else none
    | _ => none
  | .ep cs k => (tLoad P t cs k).map fun v => (true, tplain v)
  | .ap i ix sz o => match s[i]? with
    | some (.tarr ty xs t' l) => if (l = true ∧ t' ≠ mapT) ∧ sz = ty.size then (tLoad P t (tcells ty (xs.getD ix.toNat (dflt ty))) o).map fun v => (decide (0 ≤ ix ∧ ix < xs.length), v) else none
    | _ => none
  | _ => none
theorem tLoadAt_spec {P : Program} {s : List TOb} {t : TypeId} {x v : TV} {g : Bool} (h : tLoadAt P s t x = some (g, v)) (hg : gdP g) : aLoadAt P (dnS s) t (dn x) = some (dn v) := by
  unfold tLoadAt at h
  split at h
  · rename_i i k
    split at h
    · rename_i cs t' l hs
      split at h
      · rename_i hl
        obtain ⟨u, h1, h2⟩ := map_some_eq h
        cases h2
        simp only [dn, aLoadAt, dnS_get, hs, Option.map_some, dnO]
        rw [if_pos hl]
        exact tLoad_spec h1
      · cases h
    · cases h
  · rename_i cs k
    obtain ⟨u, h1, h2⟩ := map_some_eq h
    cases h2
    simp only [dn, aLoadAt]
    rw [tLoad_spec h1]
    simp [dn_tplain]
  · rename_i i ix sz o
    split at h
    · rename_i ty xs t' l hs
      split at h
      · rename_i hc
        obtain ⟨hl, hsz⟩ := hc
        obtain ⟨u, h1, h2⟩ := map_some_eq h
        cases h2
        simp only [gdP, decide_eq_true_eq] at hg
        simp only [dn, aLoadAt, dnS_get, hs, Option.map_some, dnO]
        rw [if_pos hl]
        obtain ⟨a, c, e1, e2, e3, e4⟩ := flat_split xs ix.toNat (by omega)
        have h3 := tLoad_spec h1
        rw [dns_tcells, ← e3] at h3
        rw [e1, hsz, ← e2]
        exact aLoad_piece e4 h3
      · cases h
    · cases h
  · cases h
def tNil (x : TV) : Option (Bool × TV) := match x with
  | .ref _ _ | .ep _ _ | .ap _ _ _ _ => some (true, x)
  | _ => none
def tFieldAddr (P : Program) (t : TypeId) (x : TV) (f : Nat) : Option (Bool × TV) :=
  match x with
  | .ref i k => (aField P t f).map fun r => (true, .ref i (k + r.1))
  | .ep cs k => (aField P t f).map fun r => (true, .ep cs (k + r.1))
  | .ap i ix sz k => (aField P t f).map fun r => (true, .ap i ix sz (k + r.1))
  | _ => none
theorem tFieldAddr_spec {P : Program} {t : TypeId} {x v : TV} {f : Nat} {g : Bool} (h : tFieldAddr P t x f = some (g, v)) : aFieldAddr P t (dn x) f = some (dn v) := by
  unfold tFieldAddr at h
  split at h
  · obtain ⟨r, h1, h2⟩ := map_some_eq h; cases h2; simp [dn, aFieldAddr, h1]
  · obtain ⟨r, h1, h2⟩ := map_some_eq h; cases h2; simp [dn, aFieldAddr, h1]
  · obtain ⟨r, h1, h2⟩ := map_some_eq h; cases h2; simp [dn, aFieldAddr, h1, Nat.add_assoc]
  · cases h
def tIndexAddr (P : Program) (t : TypeId) (x y : TV) : Option (Bool × TV) :=
  match x, y with
  | .tl ty xs g, .int _ ix => match aElem P t with
    | some (_, size) => if size = ty.size then some (decide (0 ≤ ix ∧ ix < xs.length), .ep (tcells ty (xs.getD ix.toNat (dflt ty))) 0) else none
    | none => none
  | .ll cs n g, .int _ ix => match aElem P t with
    | some (_, size) => if 0 ≤ ix ∧ ix < n ∧ cs.isEmpty = false then some (true, .ep cs (ix.toNat * size)) else none
    | none => none
  | .arr i n, .int _ ix => match aElem P t with
    | some (_, size) => some (decide (0 ≤ ix ∧ ix < n), .ap i ix size 0)
    | none => none
  | .ref i k, .int _ ix => match P.underlying t with
    | some (.array n e) => match P.info? e with
      | some inf => some (decide (0 ≤ ix ∧ ix < n), .ref i (k + ix.toNat * inf.size))
      | none => none
    | _ => none
  | _, _ => none
theorem tIndexAddr_spec {P : Program} {t : TypeId} {x y v : TV} {g : Bool} (h : tIndexAddr P t x y = some (g, v)) (hg : gdP g) : ∃ a, aIndexAddr P t (dn x) (dn y) = some a ∧ Wk a (dn v) := by
  unfold tIndexAddr at h
  split at h
  · rename_i ty xs gt kd ix
    split at h
    · rename_i e size he
      split at h
      · rename_i hsz
        cases h
        simp only [gdP, decide_eq_true_eq] at hg
        have hlt : ix.toNat < xs.length := by omega
        obtain ⟨a, c, e1, e2, e3, e4⟩ := flat_split xs ix.toNat hlt
        obtain ⟨_, i', _, _, hpos⟩ := aElem_spec he
        refine ⟨.eptr (xs.flatMap (cellsOf ty)) (ix.toNat * size), ?_, ?_⟩
        · simp only [dn, aIndexAddr, he]
          have hl : 0 < (xs.flatMap (cellsOf ty)).length := by
            rw [flat_len]; exact Nat.mul_pos (by omega) (by omega)
          have hne : (xs.flatMap (cellsOf ty)).isEmpty = false := by
            cases hq : xs.flatMap (cellsOf ty) with
            | nil => rw [hq] at hl; simp at hl
            | cons => rfl
          rw [if_pos ⟨hg.1, hg.2, hne⟩]
        · simp only [dn]
          rw [hsz, ← e2, dns_tcells, ← e3]
          have := Wk.eptr (cs := xs.flatMap (cellsOf ty)) (a := a) (c := c) (n := ty.size) (o := 0) (by rw [List.append_assoc, List.take_append_drop]; exact e1) e4
          simpa using this
      · cases h
    · cases h
  · rename_i cs n gt kd ix
    split at h
    · rename_i e size he
      split at h
      · rename_i hc
        cases h
        refine ⟨_, ?_, .refl _⟩
        simp only [dn, aIndexAddr, he]
        have hne : (dns cs).isEmpty = false := by
          cases cs with
          | nil => simp at hc
          | cons => rfl
        rw [if_pos ⟨hc.1, hc.2.1, hne⟩]
      · cases h
    · cases h
  · rename_i i n kd ix
    split at h
    · rename_i e size he
      cases h
      simp only [gdP, decide_eq_true_eq] at hg
      refine ⟨_, ?_, .refl _⟩
      simp only [dn, aIndexAddr, he]
      rw [if_pos hg]
      rfl
    · cases h
  · rename_i i k kd ix
    split at h
    · rename_i n e hu
      split at h
      · rename_i inf hi
        cases h
        simp only [gdP, decide_eq_true_eq] at hg
        refine ⟨_, ?_, .refl _⟩
        simp only [dn, aIndexAddr, hu, hi]
        rw [if_pos hg]
      · cases h
    · cases h
  · cases h
def tIndex (P : Program) (t : TypeId) (x y : TV) : Option (Bool × TV) :=
  match x, y with
  | .str l, .int _ ix => match P.underlying t with
    | some .string => some (decide (0 ≤ ix ∧ ix < l.length), .int .u8 ((l.getD ix.toNat 0).toNat : Int))
    | _ => none
  | _, _ => none
theorem tIndex_spec {P : Program} {t : TypeId} {x y v : TV} {g : Bool} (h : tIndex P t x y = some (g, v)) (hg : gdP g) : aIndex P t (dn x) (dn y) = some (dn v) := by
  unfold tIndex at h
  split at h
  · rename_i l kd ix
    split at h
    · rename_i hu
      cases h
      simp only [gdP, decide_eq_true_eq] at hg
      have hlt : ix.toNat < l.length := by omega
      simp only [dn, aIndex, hu]
      rw [if_pos hg.1]
      simp [hlt]
    · cases h
  · cases h
def asI : TV → Option Int
  | .int _ n => some n
  | _ => none
/-- the bounds of a part -/
def tBounds (n : Nat) (lo hi : Option TV) : Option Bool :=
  match lo, hi with
  | none, none => some true
  | some a, none => (asI a).map fun (a : Int) => decide (0 ≤ a ∧ a ≤ (n : Int))
  | none, some b => (asI b).map fun (b : Int) => decide (0 ≤ b ∧ b ≤ (n : Int))
  | some a, some b => match asI a, asI b with
    | some a, some b => some (decide (0 ≤ a ∧ a ≤ b ∧ b ≤ (n : Int)))
    | _, _ => none
def tPart {α : Type} (xs : List α) (lo hi : Option TV) : List α :=
  let ys := match hi with
    | some b => match asI b with
      | some b => xs.take b.toNat
      | none => xs
    | none => xs
  match lo with
  | some a => match asI a with
    | some a => ys.drop a.toNat
    | none => ys
  | none => ys
def tSlice (P : Program) (t : TypeId) (x : TV) (lo hi : Option TV) : Option (Bool × TV) :=
  match x with
  | .tl ty xs g => match aElem P t with
    | some (_, size) => if size = ty.size then (tBounds xs.length lo hi).map fun p => (p, .tl ty (tPart xs lo hi) .unk) else none
    | none => none
  | .str b => match P.underlying t with
    | some .string => (tBounds b.length lo hi).map fun p => (p, .str (tPart b lo hi))
    | _ => none
  | .ll [] 0 g => match aElem P t with
    | some (_, size) => (tBounds ([] : List Unit).length lo hi).map fun p => (p, .ll [] 0 (match g with | .full => .full | _ => .unk))
    | none => none
  | _ => none
theorem tBounds_spec {α : Type} {fr : List TV} {lo hi : Option Operand} (xs : List α) {g : Bool} (h : tBounds xs.length (lo.map (tEval fr)) (hi.map (tEval fr)) = some g) (hg : gdP g) :
    ∃ l h', aBound (dns fr) 0 lo = some l ∧ aBound (dns fr) xs.length hi = some h' ∧ l ≤ h' ∧ h' ≤ xs.length ∧ tPart xs (lo.map (tEval fr)) (hi.map (tEval fr)) = (xs.take h').drop l := by
  have key : ∀ (x : Operand) (n : Int) (d : Nat), asI (tEval fr x) = some n → 0 ≤ n → aBound (dns fr) d (some x) = some n.toNat := by
    intro x n d hx h0
    unfold asI at hx
    split at hx
    · rename_i k m hm
      cases hx
      simp only [aBound, ← dn_tEval, hm, dn]
      rw [if_pos h0]
    · cases hx
  cases lo with
  | none =>
    cases hi with
    | none =>
      refine ⟨0, xs.length, rfl, rfl, by omega, by omega, ?_⟩
      simp [tPart]
    | some y =>
      simp only [Option.map_none, Option.map_some, tBounds] at h
      obtain ⟨b, h1, rfl⟩ := map_some_eq h
      simp only [gdP, decide_eq_true_eq] at hg
      refine ⟨0, b.toNat, rfl, key y b _ h1 hg.1, by omega, by omega, ?_⟩
      simp [tPart, h1]
  | some x =>
    cases hi with
    | none =>
      simp only [Option.map_none, Option.map_some, tBounds] at h
      obtain ⟨a, h1, rfl⟩ := map_some_eq h
      simp only [gdP, decide_eq_true_eq] at hg
      refine ⟨a.toNat, xs.length, key x a _ h1 hg.1, rfl, by omega, by omega, ?_⟩
      simp [tPart, h1]
    | some y =>
      simp only [Option.map_some, tBounds] at h
      split at h
      · rename_i a b h1 h2
        cases h
        simp only [gdP, decide_eq_true_eq] at hg
        refine ⟨a.toNat, b.toNat, key x a _ h1 hg.1, key y b _ h2 (by omega), by omega, by omega, ?_⟩
        simp [tPart, h1, h2]
      · cases h
theorem flat_take {t : Ty} (xs : List (El t)) (h : Nat) : (xs.flatMap (cellsOf t)).take (h * t.size) = (xs.take h).flatMap (cellsOf t) := by
  induction xs generalizing h with
  | nil => simp
  | cons x xs ih =>
    cases h with
    | zero => simp
    | succ h =>
      rw [List.flatMap_cons, List.take_succ_cons, List.flatMap_cons, Nat.succ_mul, Nat.add_comm (h * t.size)]
      rw [List.take_append, List.take_of_length_le (by rw [cellsOf_len]; omega), cellsOf_len, Nat.add_sub_cancel_left, ih]
theorem flat_drop {t : Ty} (xs : List (El t)) (h : Nat) : (xs.flatMap (cellsOf t)).drop (h * t.size) = (xs.drop h).flatMap (cellsOf t) := by
  induction xs generalizing h with
  | nil => simp
  | cons x xs ih =>
    cases h with
    | zero => simp
    | succ h =>
      rw [List.flatMap_cons, List.drop_succ_cons, Nat.succ_mul, Nat.add_comm (h * t.size)]
      rw [List.drop_append, List.drop_of_length_le (by rw [cellsOf_len]; omega), cellsOf_len, Nat.add_sub_cancel_left, ih, List.nil_append]
theorem tSlice_spec {P : Program} {fr : List TV} {t : TypeId} {x : Operand} {lo hi : Option Operand} {v : TV} {g : Bool} (h : tSlice P t (tEval fr x) (lo.map (tEval fr)) (hi.map (tEval fr)) = some (g, v)) (hg : gdP g) : ∃ a, aSlice P (dns fr) t x lo hi = some a ∧ WkM a (dn v) := by
  unfold tSlice at h
  split at h
  · rename_i ty xs gt hx
    split at h
    · rename_i e size he
      split at h
      · rename_i hsz
        obtain ⟨p, h1, h2⟩ := map_some_eq h
        cases h2
        obtain ⟨l, h', k1, k2, k3, k4, k5⟩ := tBounds_spec xs h1 hg
        unfold aSlice
        rw [← dn_tEval, hx]
        simp only [dn, he, k1, k2]
        rw [if_pos ⟨k3, k4⟩]
        refine ⟨_, rfl, .of ?_ rfl⟩
        subst hsz
        rw [flat_take, flat_drop, k5]
        have e : h' - l = ((xs.take h').drop l).length := by simp; omega
        rw [e]
        exact .unk (.refl _)
      · cases h
    · cases h
  · rename_i b hx
    split at h
    · rename_i hu
      obtain ⟨p, h1, h2⟩ := map_some_eq h
      cases h2
      obtain ⟨l, h', k1, k2, k3, k4, k5⟩ := tBounds_spec b h1 hg
      unfold aSlice
      rw [← dn_tEval, hx]
      simp only [dn, hu, k1, k2]
      rw [if_pos ⟨k3, k4⟩]
      exact ⟨_, rfl, by rw [k5]; exact .refl _⟩
    · cases h
  · rename_i gt hx
    split at h
    · rename_i e size he
      obtain ⟨p, h1, h2⟩ := map_some_eq h
      cases h2
      obtain ⟨l, h', k1, k2, k3, k4, k5⟩ := tBounds_spec ([] : List Unit) h1 hg
      have hl : l = 0 := by simp at k4; omega
      have hh : h' = 0 := by simpa using k4
      subst hl hh
      unfold aSlice
      rw [← dn_tEval, hx]
      simp only [dn, dns, he, k1]
      have k2' : aBound (dns fr) 0 hi = some 0 := k2
      rw [k2']
      dsimp only
      rw [if_pos ⟨Nat.le_refl _, Nat.le_refl _⟩]
      refine ⟨_, rfl, ?_⟩
      simp only [Nat.zero_mul, List.take_zero, List.drop_zero]
      cases gt
      · rw [if_pos (by simp)]; exact .of (.refl _) rfl
      · exact .of (.unk (.refl _)) rfl
      · exact .of (.unk (.refl _)) rfl
    · cases h
  · cases h
def tLen (P : Program) (t : TypeId) (x : TV) : Option (Bool × TV) :=
  match x with
  | .tl _ xs _ => match P.underlying t with
    | some (.slice _) => some (true, .int .i64 xs.length)
    | _ => none
  | .ll _ n _ => match P.underlying t with
    | some (.slice _) => some (true, .int .i64 n)
    | _ => none
  | .arr _ n => match P.underlying t with
    | some (.slice _) => some (true, .int .i64 n)
    | _ => none
  | .str b => match P.underlying t with
    | some .string => some (true, .int .i64 b.length)
    | _ => none
  | _ => none
theorem tLen_spec {P : Program} {t : TypeId} {x v : TV} {g : Bool} (h : tLen P t x = some (g, v)) : aLen P t (dn x) = some (dn v) := by
  unfold tLen at h
  split at h <;> first | (split at h <;> cases h <;> simp only [dn, aLen, *]) | cases h

/-! structs and slices that are put together -/
def tpCells : TV → Option (List TV)
  | .agg cs => some (cs.map tplain)
  | .undef | .tup _ => none
  | .ap _ _ _ _ => none
  | a => some [tplain a]
theorem plain_plain (a : AV) : a.plain.plain = a.plain := by
  cases a <;> try rfl
  rename_i cs n g
  cases g <;> rfl
theorem tpCells_spec {v : TV} {cs : List TV} (h : tpCells v = some cs) : (aCells (dn v)).map (fun l => l.map AV.plain) = some (dns cs) := by
  unfold tpCells at h
  split at h
  · cases h
    simp only [dn, aCells, Option.map_some, dns_tplain, List.map_map]
    congr 1
    apply List.map_congr_left
    intro a _
    exact plain_plain a
  · cases h
  · cases h
  · cases h
  · rename_i h1 h2 h3 h4
    cases h
    cases v <;> first
      | exact absurd rfl (h1 _)
      | exact absurd rfl h2
      | exact absurd rfl (h3 _)
      | exact absurd rfl (h4 _ _ _ _)
      | (simp only [dns, dn_tplain]; rfl)
def tsplice (cs : List TV) (k : Nat) (new : List TV) : List TV := cs.take k ++ new ++ cs.drop (k + new.length)
theorem dns_tsplice (cs : List TV) (k : Nat) (new : List TV) : dns (tsplice cs k new) = splice (dns cs) k (dns new) := by
  simp only [tsplice, splice, dns_app, dns_take, dns_drop, dns_length]
def tFill (place : Nat → Option (Nat × Nat)) (cells : List TV) : List (Nat × TV) → Option (List TV)
  | [] => some cells
  | (i, v) :: rest =>
    match place i with
    | none => none
    | some (off, size) => match tpCells v with
      | none => none
      | some vs => if vs.length ≠ size ∨ cells.length < off + vs.length then none else tFill place (tsplice cells off vs) rest
theorem tFill_spec (place : Nat → Option (Nat × Nat)) : ∀ (parts : List (Nat × TV)) (cells cs : List TV), tFill place cells parts = some cs →
    ∃ ps, partsOf (parts.map fun p => (p.1, dn p.2)) = some ps ∧ aFill place (dns cells) ps = some (dns cs)
  | [], cells, cs, h => by simp only [tFill, Option.some.injEq] at h; subst h; exact ⟨[], by simp [partsOf], rfl⟩
  | (i, v) :: rest, cells, cs, h => by
    simp only [tFill] at h
    split at h
    · cases h
    · rename_i off size hp
      split at h
      · cases h
      · rename_i vs hv
        split at h
        · cases h
        · rename_i hc
          obtain ⟨ps, h1, h2⟩ := tFill_spec place rest _ cs h
          have h3 := tpCells_spec hv
          cases h4 : aCells (dn v) with
          | none => rw [h4] at h3; cases h3
          | some l =>
            rw [h4] at h3
            simp only [Option.map_some, Option.some.injEq] at h3
            refine ⟨(i, dns vs) :: ps, ?_, ?_⟩
            · unfold partsOf at h1 ⊢
              simp only [List.map_cons, List.mapM_cons]
              rw [h4, h1]
              simp [h3]
            · simp only [aFill, hp]
              rw [dns_length, dns_length, if_neg hc, ← dns_tsplice]
              exact h2
def tParts (fr : List TV) (parts : Array (Nat × Operand)) : List (Nat × TV) := parts.toList.map fun p => (p.1, tEval fr p.2)
theorem tParts_spec (fr : List TV) (parts : Array (Nat × Operand)) : (tParts fr parts).map (fun p => (p.1, dn p.2)) = aParts (dns fr) parts := by
  simp only [tParts, aParts, List.map_map]
  apply List.map_congr_left
  intro p _
  simp [dn_tEval]
theorem dns_tAbsS (l : List Value) : dns (l.map tAbsS) = l.map absS := by
  rw [dns_map, List.map_map]
  apply List.map_congr_left
  intro a _
  exact dn_tAbsS a
def tBuild (P : Program) (t : TypeId) (parts : List (Nat × TV)) : Option (Bool × TV) :=
  match P.underlying t, zeroOf P t with
  | some (.struct fs), some z =>
    match aPlaces P fs with
    | some pl => (tFill (pl[·]?) (z.cells.toList.map tAbsS) parts).map fun cs => (true, .agg cs)
    | none => none
  | some (.array _ e), some z =>
    match P.info? e with
    | some i => (tFill (fun k => some (k * i.size, i.size)) (z.cells.toList.map tAbsS) parts).map fun cs => (true, .agg cs)
    | none => none
  | _, _ => none
theorem tBuild_spec {P : Program} {t : TypeId} {fr : List TV} {parts : Array (Nat × Operand)} {v : TV} {g : Bool} (h : tBuild P t (tParts fr parts) = some (g, v)) : aBuild P t (aParts (dns fr) parts) = some (dn v) := by
  unfold tBuild at h
  unfold aBuild
  split at h
  · rename_i fs z h1 h2
    simp only [h1, h2]
    split at h
    · rename_i pl h3
      obtain ⟨cs, h4, h5⟩ := map_some_eq h
      cases h5
      obtain ⟨ps, h6, h7⟩ := tFill_spec _ _ _ _ h4
      rw [tParts_spec] at h6
      rw [dns_tAbsS] at h7
      simp only [h3, h6]
      rw [h7]
      rfl
    · cases h
  · rename_i n e z h1 h2
    simp only [h1, h2]
    split at h
    · rename_i inf h3
      obtain ⟨cs, h4, h5⟩ := map_some_eq h
      cases h5
      obtain ⟨ps, h6, h7⟩ := tFill_spec _ _ _ _ h4
      rw [tParts_spec] at h6
      rw [dns_tAbsS] at h7
      simp only [h3, h6]
      rw [h7]
      rfl
    · cases h
  · cases h
end
end Go.Proofs.YtmacghaihlfcpaaGreat.Abs

namespace Go.Proofs.YtmacghaihlfcpaaGreat.Abs
noncomputable section
open Go Go.ChangeShapes Go.WideShapes Go.ChangeAt Go.RowKit
set_option linter.unusedVariables false
set_option linter.unusedSimpArgs false

def tyOf (P : Program) : Nat → TypeId → Option Ty
  | 0, _ => none
  | n + 1, t => match P.underlying t with
    | some (.int k) => some (.int k)
    | some .bool => some .bool
    | some .string => some .str
    | some (.slice e) => (tyOf P n e).map .list
    | some (.struct fs) => (fs.toList.mapM fun f => tyOf P n f.type).map .st
    | some (.array m e) => (tyOf P n e).map fun y => .st (List.replicate m y)
    | _ => none
def typed (P : Program) (e : TypeId) (cs : List TV) (len : Nat) : TV :=
  match tyOf P 10 e with
  | some ty => match decN (dec ty) len cs with
    | some xs => .tl ty xs .full
    | none => .ll cs len .full
  | none => .ll cs len .full
/-- a piece of an array that is told as a whole -/
def tIndexA (P : Program) (t : TypeId) (x y : TV) : Option (Bool × TV) :=
  match x, y with
  | .agg cs, .int _ ix => match P.underlying t with
    | some (.array n e) => match P.info? e, tyOf P 10 e, aggSize P e with
      | some inf, some (.st fs), some (some m) => match decN (dec (.st fs)) n (cs.map tplain) with
        | some xs => if inf.size = m ∧ m = sizes fs then some (decide (0 ≤ ix ∧ ix < n), tval (.st fs) (xs.getD ix.toNat (dflt (.st fs)))) else none
        | none => none
      | _, _, _ => none
    | _ => none
  | _, _ => tIndex P t x y
theorem tIndexA_spec {P : Program} {t : TypeId} {x y v : TV} {g : Bool} (h : tIndexA P t x y = some (g, v)) (hg : gdP g) : ∃ a, aIndex P t (dn x) (dn y) = some a ∧ WkM a (dn v) := by
  unfold tIndexA at h
  split at h
  · rename_i cs kd ix
    split at h
    · rename_i n e hu
      split at h
      · rename_i inf fs m hi hty hag
        split at h
        · rename_i xs hx
          split at h
          · rename_i hc
            cases h
            simp only [gdP, decide_eq_true_eq] at hg
            obtain ⟨hc1, hc2⟩ := hc
            obtain ⟨h1, h2⟩ := decN_spec (dec (.st fs)) (fun cs x r h => dec_spec (.st fs) cs x r h) _ _ _ hx
            rw [dns_tplain] at h1
            have hl := h1.len
            rw [List.length_map, flat_len, h2] at hl
            obtain ⟨a, c, s1, s2, s3, s4⟩ := flat_split xs ix.toNat (by omega)
            have sz : (Ty.st fs).size = sizes fs := rfl
            rw [sz] at hl s2 s3 s4
            have hle : ix.toNat * inf.size + m ≤ (dns cs).length := by
              rw [hc1, hl, hc2]
              have : (ix.toNat + 1) * sizes fs ≤ n * sizes fs := Nat.mul_le_mul_right _ (by omega)
              rw [Nat.add_mul] at this
              omega
            refine ⟨_, by simp only [dn, aIndex, hu, hi]; rw [if_pos hg]; simp only [aLoad, hag]; rw [if_pos hle]; rfl, .of ?_ rfl⟩
            have e1 : dn (tval (.st fs) (xs.getD ix.toNat (dflt (.st fs)))) = .agg (cellsOf (.st fs) (xs.getD ix.toNat (dflt (.st fs)))) := congrArg AV.agg (dns_tcellss fs _)
            rw [e1]
            show Wk (.agg _) _
            refine .agg ?_
            rw [← s3, List.map_take, List.map_drop, hc1, hc2]
            rw [s1] at h1
            have h3 : ∀ {x y : List AV} (k : Nat), Wks x y → Wks (x.drop k) (y.drop k) := by
              intro x y k hw
              induction hw generalizing k with
              | nil => simp; exact .nil
              | cons h hs ih => cases k with
                | zero => exact .cons h hs
                | succ k => exact ih k
            have h4 : ∀ {x y : List AV} (k : Nat), Wks x y → Wks (x.take k) (y.take k) := by
              intro x y k hw
              induction hw generalizing k with
              | nil => simp; exact .nil
              | cons h hs ih => cases k with
                | zero => exact .nil
                | succ k => exact .cons h (ih k)
            have := h4 (sizes fs) (h3 (ix.toNat * sizes fs) h1)
            rw [← s2, List.drop_left] at this
            rw [← s2]
            exact this
          · cases h
        · cases h
      · cases h
    · cases h
  · exact ⟨_, tIndex_spec h hg, .refl _⟩
theorem typed_wk (P : Program) (e : TypeId) (cs : List TV) (len : Nat) : WkM (.list (dns cs) len .full) (dn (typed P e cs len)) := by
  unfold typed
  split
  · rename_i ty _
    split
    · rename_i xs h
      obtain ⟨h1, h2⟩ := decN_spec (dec ty) (fun cs x r h => dec_spec ty cs x r h) _ _ _ h
      refine .of ?_ rfl
      simp only [dn]
      rw [h2]
      exact .list h1 fun _ => rfl
    · exact .refl _
  · exact .refl _
def tBuildSlice (P : Program) (t : TypeId) (len : Nat) (parts : List (Nat × TV)) : Option (Bool × TV) :=
  match aElem P t with
  | some (e, size) =>
    match zeroOf P e with
    | some z =>
      if len * size ≤ 16777216 ∧ 0 < z.cells.size then
        (tFill (fun i => some (i * size, size)) ((zerosArr z (len * size)).toList.map tAbsS) parts).map fun cs => (true, typed P e cs len)
      else none
    | none => none
  | none => none
theorem tBuildSlice_spec {P : Program} {t : TypeId} {len : Nat} {fr : List TV} {parts : Array (Nat × Operand)} {v : TV} {g : Bool} (h : tBuildSlice P t len (tParts fr parts) = some (g, v)) : ∃ a, aBuildSlice P t len (aParts (dns fr) parts) = some a ∧ WkM a (dn v) := by
  unfold tBuildSlice at h
  unfold aBuildSlice
  split at h
  · rename_i e size h1
    split at h
    · rename_i z h2
      split at h
      · rename_i hc
        obtain ⟨cs, h4, h5⟩ := map_some_eq h
        cases h5
        obtain ⟨ps, h6, h7⟩ := tFill_spec _ _ _ _ h4
        rw [tParts_spec] at h6
        rw [dns_tAbsS] at h7
        simp only [h1, h2, h6]
        rw [if_pos hc, h7]
        exact ⟨_, rfl, typed_wk P e cs len⟩
      · cases h
    · cases h
  · cases h
def tPure (P : Program) (wr : Bool) (fr : List TV) (s : List TOb) (op : Op) : Option (Bool × TV) :=
  match op with
  | .move x => some (true, tEval fr x)
  | .assign x => some (true, tEval fr x)
  | .pick c x y => match tEval fr c with
    | .tt => some (true, tEval fr x)
    | .ff => some (true, tEval fr y)
    | _ => none
  | .build t parts => tBuild P t (tParts fr parts)
  | .buildSlice t n parts => tBuildSlice P t n (tParts fr parts)
  | .load t x => tLoadAt P s t (tEval fr x)
  | .nilCheck x => tNil (tEval fr x)
  | .binOp op t x y _ => tBin P wr t op (tEval fr x) (tEval fr y)
  | .unOp op _ x => tUn wr op (tEval fr x)
  | .convert src dst x => tConv P wr src dst (tEval fr x)
  | .makeFunc fn first captured => if first.size = 0 then some (true, .func fn (captured.toList.map fun x => tplain (tEval fr x))) else none
  | .slice t x lo hi none => tSlice P t (tEval fr x) (lo.map (tEval fr)) (hi.map (tEval fr))
  | .fieldAddr t x f => tFieldAddr P t (tEval fr x) f
  | .indexAddr t x y => tIndexAddr P t (tEval fr x) (tEval fr y)
  | .index t x y => tIndexA P t (tEval fr x) (tEval fr y)
  | .extract x k => match tEval fr x with
    | .tup vs => (vs[k]?).map fun v => (true, tplain v)
    | _ => none
  | .call c => match c.callee with
    | .builtin .len => match c.args.toList, c.argTypes.toList with
      | [x], [t] => tLen P t (tEval fr x)
      | _, _ => none
    | .builtin .max => match c.args.toList with
      | [x, y] => match tEval fr x, tEval fr y with
        | .int k a, .int _ b => some (true, .int k (iMax a b))
        | _, _ => none
      | _ => none
    | .builtin .min => match c.args.toList with
      | [x, y] => match tEval fr x, tEval fr y with
        | .int k a, .int _ b => some (true, .int k (iMin a b))
        | _, _ => none
      | _ => none
    | _ => none
  | _ => none
theorem tPure_spec {P : Program} {wr : Bool} {fr : List TV} {s : List TOb} {o : Oper} {g : Bool} {v : TV} (h : tPure P wr fr s o.op = some (g, v)) (hg : gdP g) : ∃ a, aPureV P (dns fr) (dnS s) o = some a ∧ WkM a (dn v) := by
  obtain ⟨dst, op, type, pos, after, guard⟩ := o
  cases op <;> simp only [tPure] at h <;> try (cases h; done)
  case move x => cases h; exact ⟨_, rfl, by simp only [dn_tEval]; exact .refl _⟩
  case assign x => cases h; exact ⟨_, rfl, by simp only [dn_tEval]; exact .refl _⟩
  case pick c x y =>
    split at h
    · rename_i hc; cases h; simp only [aPureV, ← dn_tEval, hc, dn]; exact ⟨_, rfl, .refl _⟩
    · rename_i hc; cases h; simp only [aPureV, ← dn_tEval, hc, dn]; exact ⟨_, rfl, .refl _⟩
    · cases h
  case build t parts => simp only [aPureV]; exact ⟨_, tBuild_spec h, .refl _⟩
  case buildSlice t n parts => simp only [aPureV]; exact tBuildSlice_spec h
  case load t x => simp only [aPureV, ← dn_tEval]; exact ⟨_, tLoadAt_spec h hg, .refl _⟩
  case nilCheck x =>
    simp only [aPureV, ← dn_tEval]
    unfold tNil at h
    split at h <;> cases h <;> simp only [*, dn] <;> exact ⟨_, rfl, .refl _⟩
  case binOp op t x y ty => simp only [aPureV, ← dn_tEval]; exact ⟨_, tBin_spec h hg, .refl _⟩
  case unOp op t x => simp only [aPureV, ← dn_tEval]; exact ⟨_, tUn_spec h hg, .refl _⟩
  case convert src dst x => simp only [aPureV, ← dn_tEval]; exact ⟨_, tConv_spec h hg, .refl _⟩
  case makeFunc fn first captured =>
    split at h
    · rename_i h0
      cases h
      simp only [aPureV]
      rw [if_pos h0]
      refine ⟨_, rfl, ?_⟩
      simp only [dn, dns_map, List.map_map]
      have : (captured.toList.map fun x => (aEval (dns fr) x).plain) = captured.toList.map (dn ∘ fun x => tplain (tEval fr x)) := by
        apply List.map_congr_left
        intro x _
        simp [dn_tplain, dn_tEval]
      rw [dns_map] at this
      rw [this]
      exact .refl _
    · cases h
  case slice t x lo hi mx =>
    cases mx with
    | none => simp only [aPureV]; exact tSlice_spec h hg
    | some m => simp at h
  case fieldAddr t x f => simp only [aPureV, ← dn_tEval]; exact ⟨_, tFieldAddr_spec h, .refl _⟩
  case indexAddr t x y =>
    simp only [aPureV, ← dn_tEval]
    obtain ⟨a, h1, h2⟩ := tIndexAddr_spec h hg
    refine ⟨a, h1, .of h2 ?_⟩
    unfold tIndexAddr at h
    split at h
    · split at h
      · split at h
        · cases h; rfl
        · cases h
      · cases h
    · split at h
      · split at h
        · cases h; rfl
        · cases h
      · cases h
    · split at h
      · cases h; rfl
      · cases h
    · split at h
      · split at h
        · cases h; rfl
        · cases h
      · cases h
    · cases h
  case index t x y => simp only [aPureV, ← dn_tEval]; exact tIndexA_spec h hg
  case extract x k =>
    split at h
    · rename_i vs hx
      obtain ⟨u, h1, h2⟩ := map_some_eq h
      cases h2
      simp only [aPureV, ← dn_tEval, hx, dn]
      rw [dns_get, h1]
      exact ⟨_, rfl, by rw [dn_tplain]; exact .refl _⟩
    · cases h
  case call c =>
    split at h
    · rename_i hc
      split at h
      · rename_i x t ha ht
        simp only [aPureV, hc, ha, ht, ← dn_tEval]
        exact ⟨_, tLen_spec h, .refl _⟩
      · cases h
    · rename_i hc
      split at h
      · rename_i x y ha
        split at h
        · rename_i hx hy
          cases h
          simp only [aPureV, hc, ha, ← dn_tEval, hx, hy, dn]
          exact ⟨_, rfl, .refl _⟩
        · cases h
      · cases h
    · rename_i hc
      split at h
      · rename_i x y ha
        split at h
        · rename_i hx hy
          cases h
          simp only [aPureV, hc, ha, ← dn_tEval, hx, hy, dn]
          exact ⟨_, rfl, .refl _⟩
        · cases h
      · cases h
    · cases h
end
end Go.Proofs.YtmacghaihlfcpaaGreat.Abs

namespace Go.Proofs.YtmacghaihlfcpaaGreat.Abs
noncomputable section
open Go Go.ChangeShapes Go.WideShapes Go.ChangeAt Go.RowKit
set_option linter.unusedVariables false
set_option linter.unusedSimpArgs false

/-! less told -/
def WkF (fr fr' : List AV) : Prop := fr'.length = fr.length ∧ ∀ t, WkM (fr.getD t .undef) (fr'.getD t .undef)
def WkO (o o' : Ob) : Prop := o'.live = true → o'.t = o.t ∧ o.live = true ∧ (o'.cs.length = o.cs.length ∧ ∀ (k : Nat) (a a' : AV), o.cs[k]? = some a → o'.cs[k]? = some a' → WkM a a')
def WkS (s s' : List Ob) : Prop := s'.length = s.length ∧ ∀ (i : Nat) (o o' : Ob), s[i]? = some o → s'[i]? = some o' → WkO o o'
theorem WkF.refl (fr : List AV) : WkF fr fr := ⟨rfl, fun _ => .refl _⟩
theorem WkO.refl (o : Ob) : WkO o o := fun hl => ⟨rfl, hl, ⟨rfl, fun k a a' h h' => by rw [h] at h'; cases h'; exact .refl _⟩⟩
theorem WkS.refl (s : List Ob) : WkS s s := ⟨rfl, fun i o o' h h' => by rw [h] at h'; cases h'; exact .refl _⟩
theorem FR.weaken {M : Nat → Prop} {G : Gh} {w : World} {fr fr' : List AV} {a : Act} (h : FR M G w fr a) (k : WkF fr fr') : FR M G w fr' a :=
  ⟨h.defers, h.size.trans k.1.symm, fun t => k.2 t M G w _ (h.at_ t)⟩
theorem Sim.weaken {M : Nat → Prop} {G : Gh} {s s' : List Ob} {w : World} (h : Sim M G s w) (k : WkS s s') : Sim M G s' w := by
  have get : ∀ (i : Nat) (o' : Ob), s'[i]? = some o' → ∃ o, s[i]? = some o ∧ WkO o o' := fun i o' hi => by
    have hlt : i < s.length := by rw [← k.1]; exact lt_of_some hi
    exact ⟨s[i], List.getElem?_eq_getElem hlt, k.2 i _ _ (List.getElem?_eq_getElem hlt) hi⟩
  refine ⟨h.n.trans k.1.symm, h.inj, h.own, ?_, h.lt, ?_⟩
  · intro i o' hi hol
    obtain ⟨o, h1, h2⟩ := get i o' hi
    exact h.live i o h1 (h2 hol).2.1
  · intro i o' hi hl
    obtain ⟨o, h1, h2⟩ := get i o' hi
    obtain ⟨h2, h3, h5, h6⟩ := h2 hl
    obtain ⟨vs, g1, g2, g3⟩ := h.at_ i o h1 h3
    refine ⟨vs, by rw [Ob.obj_congr h2]; exact g1, g2.trans h5.symm, fun j a' v hj hv => ?_⟩
    have hlt : j < o.cs.length := by rw [← h5]; exact lt_of_some hj
    exact h6 j _ _ (List.getElem?_eq_getElem hlt) hj M G w v (g3 j _ v (List.getElem?_eq_getElem hlt) hv)
section
variable {P : Program} {o : Oper} {fr : List AV} {s : List Ob}
theorem Step.weaken {fr' fr'' : List AV} {v v' : AV} {s' s'' : List Ob} (h : Step P o fr s fr' v s') (k1 : WkF fr' fr'') (k2 : WkM v v') (k3 : WkS s' s'') : Step P o fr s fr'' v' s'' :=
  fun M G w a hF hS hf K Q hK => h M G w a hF hS hf K Q fun cv G' w' h1 h2 h3 h4 => hK cv G' w' h1 (h2.weaken k3) (h3.weaken k1) (k2 M G' w' cv h4)
end
theorem AW_weaken {n0 : Nat} {P : Program} {c : Code} {fr fr' : List AV} {s s' : List Ob} {Q : AQ} (h1 : WkF fr fr') (h2 : WkS s s') (h : AW n0 P c fr' s' Q) : AW n0 P c fr s Q :=
  fun M G0 w0 hM a w ⟨G, k1, k2, k3⟩ => h M G0 w0 hM a w ⟨G, k1, k2.weaken h2, k3.weaken h1⟩
theorem AL_weaken {n0 : Nat} {P : Program} {A : Array Oper} {l : List Oper} {fr fr' : List AV} {s s' : List Ob} {Q : AQ} (h1 : WkF fr fr') (h2 : WkS s s') (h : AL n0 P A l fr' s' Q) : AL n0 P A l fr s Q :=
  fun M G0 w0 hM a w ⟨G, k1, k2, k3⟩ => h M G0 w0 hM a w ⟨G, k1, k2.weaken h2, k3.weaken h1⟩
theorem cm_none {ts : List Nat} {a : AV} (h : a.mark = none) : clearMark ts a = a := by unfold clearMark; rw [h]

/-! marks -/
def tmark : TV → Option Nat
  | .tl _ _ (.own t _ _) => some t
  | .ll _ _ (.own t _ _) => some t
  | _ => none
theorem dn_mark (v : TV) : (dn v).mark = tmark v := by
  cases v <;> try rfl
  · rename_i t xs g; cases g <;> rfl
  · rename_i t xs g; cases g <;> rfl
def tclear (ts : List Nat) (v : TV) : TV := match tmark v with
  | some t => if ts.contains t = true then tplain v else v
  | none => v
theorem dn_tclear (ts : List Nat) (v : TV) : dn (tclear ts v) = clearMark ts (dn v) := by
  unfold tclear clearMark
  rw [dn_mark]
  cases tmark v with
  | none => rfl
  | some t =>
    dsimp only
    split
    · rw [dn_tplain]
    · rfl
def tclears (ts : List Nat) (fr : List TV) : List TV := fr.map (tclear ts)
theorem dns_tclears (ts : List Nat) (fr : List TV) : dns (tclears ts fr) = clearMarks ts (dns fr) := by
  simp only [tclears, clearMarks, dns_map, List.map_map]
  apply List.map_congr_left
  intro a _
  exact dn_tclear ts a
def tclearO (ts : List Nat) : TOb → TOb
  | .cells cs t l => .cells (tclears ts cs) t l
  | o => o
theorem cellsOf_mark : ∀ (t : Ty) (x : El t), ∀ a ∈ cellsOf t x, a.mark = none
  | .int _, _, a, h => by simp only [cellsOf, List.mem_singleton] at h; subst h; rfl
  | .bool, _, a, h => by simp only [cellsOf, List.mem_singleton] at h; subst h; rfl
  | .str, _, a, h => by simp only [cellsOf, List.mem_singleton] at h; subst h; rfl
  | .list _, _, a, h => by simp only [cellsOf, List.mem_singleton] at h; subst h; rfl
  | .st fs, x, a, h => by simp only [cellsOf] at h; exact go fs x a h
 where go : ∀ (ts : List Ty) (x : Els ts), ∀ a ∈ cellsOfs ts x, a.mark = none
  | [], _, a, h => by simp [cellsOfs] at h
  | t :: ts, x, a, h => by
    simp only [cellsOfs, List.mem_append] at h
    rcases h with h | h
    · exact cellsOf_mark t x.1 a h
    · exact go ts x.2 a h
theorem cellsOf_one : ∀ (t : Ty) (x : El t), (cellsOf t x).all AV.one = true
  | .int _, _ => rfl
  | .bool, _ => rfl
  | .str, _ => rfl
  | .list _, _ => rfl
  | .st fs, x => by simp only [cellsOf]; exact go fs x
 where go : ∀ (ts : List Ty) (x : Els ts), (cellsOfs ts x).all AV.one = true
  | [], _ => rfl
  | t :: ts, x => by simp only [cellsOfs, List.all_append, cellsOf_one t x.1, go ts x.2, Bool.and_self]
theorem flat_mark {t : Ty} (xs : List (El t)) : ∀ a ∈ xs.flatMap (cellsOf t), a.mark = none := by
  intro a h
  obtain ⟨x, _, h⟩ := List.mem_flatMap.1 h
  exact cellsOf_mark t x a h
theorem flat_one {t : Ty} (xs : List (El t)) : (xs.flatMap (cellsOf t)).all AV.one = true := by
  rw [List.all_flatMap, List.all_eq_true]
  intro x _
  exact cellsOf_one t x
theorem clearMarks_none (ts : List Nat) : ∀ l : List AV, (∀ a ∈ l, a.mark = none) → l.map (clearMark ts) = l
  | [], _ => rfl
  | a :: l, h => by
    simp only [List.map_cons, clearMarks_none ts l fun b hb => h b (by simp [hb])]
    rw [cm_none (h a (by simp))]
theorem dnO_clear (ts : List Nat) (o : TOb) : dnO (tclearO ts o) = { dnO o with cs := (dnO o).cs.map (clearMark ts) } := by
  cases o with
  | cells cs t l => simp only [tclearO, dnO, dns_tclears, clearMarks]
  | tarr ty xs t l => simp only [tclearO, dnO]; rw [clearMarks_none ts _ (flat_mark xs)]
def tclearS (ts : List Nat) (s : List TOb) : List TOb := s.map (tclearO ts)
theorem dnS_clear (ts : List Nat) (s : List TOb) : dnS (tclearS ts s) = clearStore ts (dnS s) := by
  simp only [dnS, tclearS, clearStore, List.map_map]
  apply List.map_congr_left
  intro o _
  exact dnO_clear ts o

theorem clear_wk (ts : List Nat) (a : AV) : WkM a (clearMark ts a) := fun M G w v h => ⟨clearMark_VR0 ts h.1, clearMark_OwnC ts h.2⟩
theorem clears_wk (ts : List Nat) (fr : List AV) : WkF fr (clearMarks ts fr) := by
  refine ⟨by simp [clearMarks], fun t => ?_⟩
  unfold clearMarks
  rw [List.getD_eq_getElem?_getD, List.getD_eq_getElem?_getD, List.getElem?_map]
  cases fr[t]? with
  | none => exact .refl _
  | some a => exact clear_wk ts a
theorem clearStore_wk (ts : List Nat) (s : List Ob) : WkS s (clearStore ts s) := by
  refine ⟨by simp [clearStore], fun i o o' h h' => ?_⟩
  obtain ⟨o2, h1, rfl⟩ := clearStore_get h'
  rw [h] at h1
  cases h1
  refine fun hl => ⟨rfl, hl, by simp, fun k a a' ha ha' => ?_⟩
  rw [List.getElem?_map, ha] at ha'
  cases ha'
  exact clear_wk ts a

/-! append -/
def fitLim (P : Program) (e : TypeId) : Nat := match P.info? e with
  | some i => 140737488355328 / max 1 i.bytes
  | none => 0
theorem fits_of {P : Program} {e : TypeId} {size n : Nat} (h0 : fitsB P e size 0 = true) (h : n ≤ fitLim P e) : fitsB P e size n = true := by
  unfold fitsB at h0 ⊢
  unfold fitLim at h
  split at h0
  · rename_i i hi
    rw [hi] at h
    dsimp only at h
    simp only [hi, Nat.zero_mul, Nat.zero_le, decide_true, Bool.true_and] at h0 ⊢
    rw [h0]
    have h1 : n * max 1 i.bytes ≤ 140737488355328 := Nat.le_trans (Nat.mul_le_mul_right _ h) (Nat.div_mul_le_self _ _)
    have h2 : n * i.bytes ≤ n * max 1 i.bytes := Nat.mul_le_mul_left _ (Nat.le_max_right _ _)
    have h3 : n * 1 ≤ n * max 1 i.bytes := Nat.mul_le_mul_left _ (Nat.le_max_left _ _)
    simp only [Bool.and_true, Bool.and_eq_true, decide_eq_true_eq]
    omega
  · cases h0
/-- what is behind it: its elements, and its mark, if it may be appended to -/
def tOwned (ty : Ty) (e : TypeId) (size d : Nat) : TV → Option (List (El ty) × Nat)
  | .tl ty' xs (.own t0 e' z') => if e' = e ∧ z' = size then (castTo ty xs).map fun xs => (xs, t0) else none
  | .tl ty' xs .full => (castTo ty xs).map fun xs => (xs, d)
  | .ll [] 0 .full => some ([], d)
  | .ll [] 0 (.own t0 e' z') => if e' = e ∧ z' = size then some ([], t0) else none
  | _ => none
theorem tOwned_spec {ty : Ty} {e : TypeId} {size d : Nat} {x : TV} {xs : List (El ty)} {t0 : Nat} (hs : size = ty.size) (h : tOwned ty e size d x = some (xs, t0)) : WkM (dn x) (.list (xs.flatMap (cellsOf ty)) xs.length (.own t0 e size)) := by
  unfold tOwned at h
  split at h
  · split at h
    · rename_i hc
      obtain ⟨rfl, rfl⟩ := hc
      obtain ⟨ys, h1, h2⟩ := map_some_eq h
      cases h2
      obtain ⟨e1, rfl⟩ := castTo_some h1
      subst e1
      exact .refl _
    · cases h
  · obtain ⟨ys, h1, h2⟩ := map_some_eq h
    cases h2
    obtain ⟨e1, rfl⟩ := castTo_some h1
    subst e1
    exact .full (by rw [flat_len, hs])
  · cases h
    show WkM (.list [] 0 .full) (.list [] 0 _)
    exact .full (by simp)
  · split at h
    · rename_i hc
      obtain ⟨rfl, rfl⟩ := hc
      cases h
      exact .refl _
    · cases h
  · cases h
def tAppend (P : Program) (d : Nat) (fr : List TV) (s : List TOb) (t : TypeId) (x y : TV) : Option (Bool × List TV × TV × List TOb) :=
  match aElem P t with
  | none => none
  | some (e, size) =>
    match y with
    | .ll [] 0 _ => match x with
      | .tl ty xs g => some (true, fr, x, s)
      | .ll [] 0 g => some (true, fr, x, s)
      | _ => none
    | .tl ty ys _ => if size = ty.size ∧ fitsB P e size 0 = true then
        match tOwned ty e size d x with
        | some (xs, t0) => some (fits (xs.length + ys.length) (fitLim P e), tclears [t0] fr, .tl ty (xs ++ ys) (.own t0 e size), tclearS [t0] s)
        | none => none
      else none
    | _ => none
section
variable {P : Program} {o : Oper}
theorem app_own {fr : List AV} {s : List Ob} {c : Call} {x y : Operand} {t e : TypeId} {size t0 : Nat} {ty : Ty} {xs ys : List (El ty)} {g : Tag} (ho : o.op = .call c) (hc : c.callee = .builtin .append) (ha : c.args = #[x, y]) (ht : c.argTypes = #[t, t]) (he : aElem P t = some (e, size))
    (hs : size = ty.size) (hfit : fitsB P e size (xs.length + ys.length) = true)
    (hx : aEval fr x = .list (xs.flatMap (cellsOf ty)) xs.length (.own t0 e size)) (hy : aEval fr y = .list (ys.flatMap (cellsOf ty)) ys.length g) :
    Step P o fr s (clearMarks [t0] fr) (.list ((xs ++ ys).flatMap (cellsOf ty)) (xs ++ ys).length (.own t0 e size)) (clearStore [t0] s) := by
  rw [List.flatMap_append, List.length_append]
  rcases Nat.eq_zero_or_pos ys.length with h0 | h0
  · have hnil := List.eq_nil_of_length_eq_zero h0
    subst hnil
    refine (Step_still (Step_append_none ho hc ha ht he hx hy)).weaken (clears_wk _ _) ?_ (clearStore_wk _ _)
    rw [hx, List.flatMap_nil, List.append_nil]
    exact .refl _
  · exact Step_append_own t0 ho hc ha ht he hx hy h0 (by rw [flat_len, hs]) (flat_one ys) hfit
theorem app_full {fr : List AV} {s : List Ob} {c : Call} {x y : Operand} {t e : TypeId} {size d : Nat} {ty : Ty} {xs ys : List (El ty)} {g : Tag} (ho : o.op = .call c) (hc : c.callee = .builtin .append) (ha : c.args = #[x, y]) (ht : c.argTypes = #[t, t]) (he : aElem P t = some (e, size))
    (hs : size = ty.size) (hfit : fitsB P e size (xs.length + ys.length) = true)
    (hx : aEval fr x = .list (xs.flatMap (cellsOf ty)) xs.length .full) (hy : aEval fr y = .list (ys.flatMap (cellsOf ty)) ys.length g) :
    Step P o fr s (clearMarks [d] fr) (.list ((xs ++ ys).flatMap (cellsOf ty)) (xs ++ ys).length (.own d e size)) (clearStore [d] s) := by
  rw [List.flatMap_append, List.length_append]
  rcases Nat.eq_zero_or_pos ys.length with h0 | h0
  · have hnil := List.eq_nil_of_length_eq_zero h0
    subst hnil
    refine (Step_still (Step_append_none ho hc ha ht he hx hy)).weaken (clears_wk _ _) ?_ (clearStore_wk _ _)
    rw [hx, List.flatMap_nil, List.append_nil]
    exact .full (by rw [flat_len, hs])
  · exact (Step_append_full d ho hc ha ht he hx hy h0 (by rw [flat_len, hs]) (by rw [flat_len, hs]) (flat_one ys) hfit).weaken (clears_wk _ _) (.refl _) (clearStore_wk _ _)
theorem tAppend_spec {fr fr' : List TV} {s s' : List TOb} {c : Call} {x y : Operand} {t : TypeId} {d : Nat} {g : Bool} {v : TV} (ho : o.op = .call c) (hc : c.callee = .builtin .append) (ha : c.args = #[x, y]) (ht : c.argTypes = #[t, t])
    (h : tAppend P d fr s t (tEval fr x) (tEval fr y) = some (g, fr', v, s')) (hg : gdP g) : Step P o (dns fr) (dnS s) (dns fr') (dn v) (dnS s') := by
  unfold tAppend at h
  split at h
  · cases h
  rename_i e size he
  split at h
  · rename_i gy hy
    have hy' : aEval (dns fr) y = .list [] 0 gy := by rw [← dn_tEval, hy]; rfl
    split at h
    · rename_i ty xs gx hx
      cases h
      have hx' : aEval (dns fr) x = .list (xs.flatMap (cellsOf ty)) xs.length gx := by rw [← dn_tEval, hx]; rfl
      have := Step_still (Step_append_none (s := dnS s) ho hc ha ht he hx' hy')
      rw [hx'] at this
      rw [hx]
      exact this
    · rename_i gx hx
      cases h
      have hx' : aEval (dns fr) x = .list [] 0 gx := by rw [← dn_tEval, hx]; rfl
      have := Step_still (Step_append_none (s := dnS s) ho hc ha ht he hx' hy')
      rw [hx'] at this
      rw [hx]
      exact this
    · cases h
  · rename_i ty ys gy hy
    have hy' : aEval (dns fr) y = .list (ys.flatMap (cellsOf ty)) ys.length gy := by rw [← dn_tEval, hy]; rfl
    split at h
    · rename_i hcnd
      obtain ⟨hs, h0⟩ := hcnd
      split at h
      · rename_i xs t0 hown
        cases h
        have hfit := fits_of h0 (by simpa only [gdP, fits_iff] using hg)
        rw [dns_tclears, dnS_clear]
        obtain ⟨xv, hxv⟩ : ∃ xv, tEval fr x = xv := ⟨_, rfl⟩
        have hx' : aEval (dns fr) x = dn xv := by rw [← dn_tEval, hxv]
        rw [hxv] at hown
        unfold tOwned at hown
        split at hown
        · split at hown
          · rename_i hc2
            obtain ⟨rfl, rfl⟩ := hc2
            obtain ⟨zs, h1, h2⟩ := map_some_eq hown
            cases h2
            obtain ⟨e1, rfl⟩ := castTo_some h1
            subst e1
            exact app_own ho hc ha ht he hs hfit hx' hy'
          · cases hown
        · obtain ⟨zs, h1, h2⟩ := map_some_eq hown
          cases h2
          obtain ⟨e1, rfl⟩ := castTo_some h1
          subst e1
          exact app_full ho hc ha ht he hs hfit hx' hy'
        · cases hown
          exact app_full (xs := []) ho hc ha ht he hs hfit hx' hy'
        · split at hown
          · rename_i hc2
            obtain ⟨rfl, rfl⟩ := hc2
            cases hown
            exact app_own (xs := []) ho hc ha ht he hs hfit hx' hy'
          · cases hown
        · cases hown
      · cases h
    · cases h
  · cases h

/-! stores -/
def tCells : TV → Option (List TV)
  | .agg cs => some (cs.map tplain)
  | .undef | .tup _ | .ap _ _ _ _ => none
  | a => some [a]
theorem tCells_spec {v : TV} {cs : List TV} (h : tCells v = some cs) : aCells (dn v) = some (dns cs) := by
  unfold tCells at h
  split at h
  · cases h; simp only [dn, aCells, dns_tplain]
  · cases h
  · cases h
  · cases h
  · rename_i h1 h2 h3 h4
    cases h
    cases v <;> first
      | exact absurd rfl (h1 _)
      | exact absurd rfl h2
      | exact absurd rfl (h3 _)
      | exact absurd rfl (h4 _ _ _ _)
      | rfl
def tone : TV → Bool
  | .undef | .agg _ | .tup _ => false
  | _ => true
theorem tone_spec (v : TV) : (dn v).one = tone v := by cases v <;> rfl
theorem tones_spec (l : List TV) : (dns l).all AV.one = l.all tone := by
  rw [dns_map, List.all_map]
  congr 1
  funext v
  exact tone_spec v
def tStoreAt (P : Program) (s : List TOb) (t : TypeId) (x y : TV) : Option (Bool × List TOb) :=
  match tCells y, P.info? t with
  | some new, some i => if i.size = new.length ∧ new.all tone = true then
      match x with
      | .ref j k => match s[j]? with
        | some (.cells cs ot l) => if (l = true ∧ ot ≠ mapT) ∧ k + new.length ≤ cs.length then some (true, s.set j (.cells (tsplice cs k new) ot l)) else none
        | _ => none
      | .ap j ix sz k => match s[j]? with
        | some (.tarr ty xs ot l) => if (l = true ∧ ot ≠ mapT) ∧ sz = ty.size ∧ k + new.length ≤ ty.size then
            match dec ty (tsplice (tcells ty (xs.getD ix.toNat (dflt ty))) k (new.map tplain)) with
            | some (x', []) => some (decide (0 ≤ ix ∧ ix < xs.length), s.set j (.tarr ty (xs.set ix.toNat x') ot l))
            | _ => none
          else none
        | _ => none
      | _ => none
    else none
  | _, _ => none
theorem flat_set {t : Ty} (xs : List (El t)) (i : Nat) (y : El t) (a c : List AV) (h : i < xs.length) (e1 : xs.flatMap (cellsOf t) = a ++ c) (e2 : a.length = i * t.size) : (xs.set i y).flatMap (cellsOf t) = a ++ cellsOf t y ++ c.drop t.size := by
  have ha : a = (xs.take i).flatMap (cellsOf t) := by rw [← flat_take, e1, ← e2, List.take_left]
  have hc : c = (xs.drop i).flatMap (cellsOf t) := by rw [← flat_drop, e1, ← e2, List.drop_left]
  rw [ha, hc, List.set_eq_take_append_cons_drop, if_pos h, List.flatMap_append, List.flatMap_cons, ← List.append_assoc]
  congr 1
  rw [List.drop_eq_getElem_cons h, List.flatMap_cons, List.drop_left' (cellsOf_len _ _)]
theorem WkS.set {s : List Ob} {i : Nat} {o o' : Ob} (h : WkO o o') : WkS (s.set i o) (s.set i o') := by
  refine ⟨by simp, fun j a b ha hb => ?_⟩
  rw [List.getElem?_set] at ha hb
  split at ha
  · rename_i hij
    rw [if_pos hij] at hb
    split at ha
    · rename_i hlt
      rw [if_pos hlt] at hb
      cases ha
      cases hb
      exact h
    · cases ha
  · rename_i hij
    rw [if_neg hij, ha] at hb
    cases hb
    exact .refl _
theorem dnS_set (s : List TOb) (i : Nat) (o : TOb) : dnS (s.set i o) = (dnS s).set i (dnO o) := by simp [dnS, List.map_set]
theorem plains_none : ∀ l : List AV, (∀ a ∈ l, a.mark = none) → l.map AV.plain = l
  | [], _ => rfl
  | a :: l, h => by
    simp only [List.map_cons, plains_none l fun b hb => h b (by simp [hb])]
    have := h a (by simp)
    congr 1
    cases a <;> try rfl
    rename_i cs n g
    cases g <;> first | rfl | cases this
def tgtOf : TV → Option Nat
  | .ref j _ => some j
  | .ap j _ _ _ => some j
  | _ => none
/-- a store of an object -/
def CoreSt (P : Program) (o : Oper) (F : List AV) (s : List Ob) (idx : Nat) (s' : List Ob) : Prop := ∀ M G w a, Sim M G s w → FR M G w F a →
  ∃ w', (execOp a.eval o).run P w = .ok .skip w' ∧ Ext (fun _ => False) G w G w' ∧ (∀ b, b ≠ G.mu idx → w'.heap[b]? = w.heap[b]?) ∧ idx < G.n ∧ G.live idx = true ∧ Sim M G s' w'
theorem CoreSt.of {F : List AV} {s : List Ob} {t : TypeId} {x y : Operand} {i k : Nat} {ob : Ob} {new cs' : List AV} (ho : o.op = .store t x y) (hx : aEval F x = .ref i k) (hi : s[i]? = some ob) (hl : ob.live = true) (hm : ob.t ≠ mapT)
    (hy : aCells (aEval F y) = some new) (hst : aStore P t ob.cs k new = some cs') : CoreSt P o F s i (s.set i { ob with cs := cs' }) := Store_core ho hx hi hl hm hy hst
theorem CoreSt.weaken {F : List AV} {s s' s'' : List Ob} {idx : Nat} (h : CoreSt P o F s idx s') (k : WkS s' s'') : CoreSt P o F s idx s'' := fun M G w a hS hf => by
  obtain ⟨w', h1, h2, h3, h4, h5, h6⟩ := h M G w a hS hf
  exact ⟨w', h1, h2, h3, h4, h5, h6.weaken k⟩
theorem CoreSt.step {F : List AV} {s s' : List Ob} {idx : Nat} (h : CoreSt P o F s idx s') : Step P o F s F (.tuple []) s' := by
  intro M G w a hF hS hf K Q hK
  obtain ⟨w', h1, hE, _, _, _, hS'⟩ := h M G w a hS hf
  unfold Oper.wp
  rw [h1, Oper.upon_skip]
  exact hK undef G w' (hE.mono fun _ _ => False.elim) hS' (hf.grow hE) ⟨by simp only [VR0]; exact ⟨[], rfl, by simp only [VRs0]⟩, OwnC.of_plain rfl⟩
theorem tStoreAt_core {F : List AV} {s s' : List TOb} {t : TypeId} {x y : Operand} {xv yv : TV} {g : Bool} (ho : o.op = .store t x y) (hFx : aEval F x = dn xv) (hFy : aEval F y = dn yv) (h : tStoreAt P s t xv yv = some (g, s')) (hg : gdP g) : ∃ idx, tgtOf xv = some idx ∧ CoreSt P o F (dnS s) idx (dnS s') := by
  unfold tStoreAt at h
  split at h
  case h_2 => cases h
  rename_i new inf hnew hinf
  split at h
  case isFalse => cases h
  rename_i hc
  obtain ⟨hsz, hone⟩ := hc
  have hnew' := tCells_spec hnew
  rw [← hFy] at hnew'
  split at h
  · rename_i j k
    have hx' : aEval F x = .ref j k := hFx
    refine ⟨j, rfl, ?_⟩
    split at h
    · rename_i cs ot l hj
      split at h
      · rename_i hcc
        cases h
        have hj' : (dnS s)[j]? = some ⟨dns cs, ot, l⟩ := by rw [dnS_get, hj]; rfl
        have hst : aStore P t (dns cs) k (dns new) = some (splice (dns cs) k (dns new)) := by
          unfold aStore
          rw [hinf]
          dsimp only
          rw [if_pos ⟨by rw [dns_length]; exact hsz, by rw [dns_length, dns_length]; exact hcc.2, by rw [tones_spec]; exact hone⟩]
        have := CoreSt.of (P := P) (o := o) (F := F) (s := dnS s) ho hx' hj' hcc.1.1 hcc.1.2 hnew' hst
        rw [dnS_set]
        simp only [dnO, dns_tsplice]
        exact this
      · cases h
    · cases h
  · rename_i j ix sz k
    have hx' : aEval F x = .ref j (ix.toNat * sz + k) := hFx
    refine ⟨j, rfl, ?_⟩
    split at h
    · rename_i ty xs ot l hj
      split at h
      · rename_i hcc
        obtain ⟨⟨hl, hmt⟩, hsz2, hk⟩ := hcc
        split at h
        · rename_i x' hdec
          cases h
          simp only [gdP, decide_eq_true_eq] at hg
          have hlt : ix.toNat < xs.length := by omega
          have hj' : (dnS s)[j]? = some ⟨xs.flatMap (cellsOf ty), ot, l⟩ := by rw [dnS_get, hj]; rfl
          obtain ⟨a, c, e1, e2, e3, e4⟩ := flat_split xs ix.toNat hlt
          have hal : ix.toNat * sz + k = a.length + k := by rw [hsz2, e2]
          rw [hal] at hx'
          have hst : aStore P t (xs.flatMap (cellsOf ty)) (a.length + k) (dns new) = some (splice (xs.flatMap (cellsOf ty)) (a.length + k) (dns new)) := by
            unfold aStore
            rw [hinf]
            dsimp only
            rw [if_pos ⟨by rw [dns_length]; exact hsz, by rw [dns_length, e1, List.length_append]; omega, by rw [tones_spec]; exact hone⟩]
          have := CoreSt.of (P := P) (o := o) (F := F) (s := dnS s) ho hx' hj' hl hmt hnew' hst
          refine this.weaken ?_
          rw [dnS_set]
          refine .set fun hl => ⟨rfl, hl, ?_⟩
          simp only [dnO]
          have h1 := dec_spec ty _ _ _ hdec
          simp only [dns, List.append_nil, dns_tsplice, dns_tcells, dns_tplain, ← e3] at h1
          have h2 : splice (xs.flatMap (cellsOf ty)) (a.length + k) (dns new) = a ++ splice (c.take ty.size) k (dns new) ++ c.drop ty.size := by
            rw [e1]
            unfold splice
            rw [List.take_append, List.take_of_length_le (by omega), Nat.add_sub_cancel_left]
            rw [Nat.add_assoc, List.drop_append, List.drop_of_length_le (by omega), Nat.add_sub_cancel_left, List.nil_append]
            rw [List.take_take, Nat.min_eq_left (by omega)]
            simp only [List.append_assoc]
            congr 3
            rw [List.drop_take]
            have hkn : k + (dns new).length ≤ ty.size := by rw [dns_length]; exact hk
            rw [show c.drop ty.size = (c.drop (k + (dns new).length)).drop (ty.size - (k + (dns new).length)) by rw [List.drop_drop]; congr 1; omega]
            rw [List.take_append_drop]
          have h3 := flat_set xs ix.toNat x' a c hlt e1 e2
          rw [h2, h3]
          have hlen : (splice (c.take ty.size) k (dns new)).length = ty.size := by
            unfold splice
            simp only [List.length_append, List.length_take, List.length_drop]
            rw [dns_length]
            omega
          refine ⟨by simp only [List.length_append, hlen, cellsOf_len], ?_⟩
          intro q b b' hb hb'
          rcases Nat.lt_or_ge q a.length with hq | hq
          · rw [List.append_assoc, List.getElem?_append_left hq] at hb hb'
            rw [hb] at hb'
            cases hb'
            exact .refl _
          · rw [List.append_assoc, List.getElem?_append_right hq] at hb hb'
            rcases Nat.lt_or_ge (q - a.length) ty.size with hq2 | hq2
            · rw [List.getElem?_append_left (by omega)] at hb
              rw [List.getElem?_append_left (by rw [cellsOf_len]; omega)] at hb'
              have hm : b'.mark = none := cellsOf_mark ty x' b' (List.mem_of_getElem? hb')
              refine .of ?_ hm
              have h4 : ∀ {l m : List AV}, Wks l m → ∀ (i : Nat) (y y' : AV), l[i]? = some y → m[i]? = some y' → Wk y y' := by
                intro l m hw
                induction hw with
                | nil => intro i y y' h; simp at h
                | cons hh _ ih =>
                  intro i y y' h h'
                  cases i with
                  | zero => simp at h h'; subst h; subst h'; exact hh
                  | succ i => exact ih i y y' (by simpa using h) (by simpa using h')
              have h5 : (splice (c.take ty.size) k ((dns new).map AV.plain))[q - a.length]? = some b.plain ∨ (splice (c.take ty.size) k ((dns new).map AV.plain))[q - a.length]? = some b := by
                unfold splice at hb ⊢
                rcases Nat.lt_or_ge (q - a.length) k with hh | hh
                · right
                  rw [List.append_assoc, List.getElem?_append_left (by simp; omega)] at hb ⊢
                  exact hb
                · rcases Nat.lt_or_ge (q - a.length) (k + (dns new).length) with hh2 | hh2
                  · left
                    rw [List.append_assoc, List.getElem?_append_right (by simp; omega), List.getElem?_append_left (by simp; omega)] at hb ⊢
                    rw [List.getElem?_map]
                    simp only [List.length_take] at hb ⊢
                    rw [hb]
                    rfl
                  · right
                    rw [List.getElem?_append_right (by simp; omega)] at hb ⊢
                    simp only [List.length_append, List.length_take, List.length_map] at hb ⊢
                    exact hb
              rcases h5 with h5 | h5
              · exact (AV.plain_wk b).trans (h4 h1 _ _ _ h5 hb')
              · exact h4 h1 _ _ _ h5 hb'
            · rw [List.getElem?_append_right (by omega)] at hb
              rw [List.getElem?_append_right (by rw [cellsOf_len]; omega)] at hb'
              rw [hlen] at hb
              rw [cellsOf_len] at hb'
              rw [hb] at hb'
              cases hb'
              exact .refl _
        · cases h
      · cases h
    · cases h
  · cases h
theorem tStoreAt_spec {fr : List TV} {s s' : List TOb} {t : TypeId} {x y : Operand} {g : Bool} (ho : o.op = .store t x y) (h : tStoreAt P s t (tEval fr x) (tEval fr y) = some (g, s')) (hg : gdP g) : Step P o (dns fr) (dnS s) (dns fr) (.tuple []) (dnS s') := by
  obtain ⟨idx, _, h1⟩ := tStoreAt_core (F := dns fr) ho (dn_tEval fr x).symm (dn_tEval fr y).symm h hg
  exact h1.step
end
end
end Go.Proofs.YtmacghaihlfcpaaGreat.Abs
