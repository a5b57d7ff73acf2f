/- Frames as trees of pairs: read by projections, written along one way. -/
import Derived.Test.YtmacghaihlfcpaaGreatL5
namespace Go.Proofs.YtmacghaihlfcpaaGreat.Abs
noncomputable section
open Go Go.ChangeShapes Go.WideShapes Go.ChangeAt Go.RowKit
set_option linter.unusedVariables false
set_option linter.unusedSimpArgs false

structure Bx.{u} (α : Type u) where
  un : α
inductive Sh where
  | leaf
  | node (a b : Sh)
def FT (sh : Sh) : Type := Sh.rec (motive := fun _ => Type) TV (fun _ _ A B => A × B) sh
def Sh.size (sh : Sh) : Nat := Sh.rec (motive := fun _ => Nat) 1 (fun _ _ a b => a + b) sh
def shOf (f : Nat) : Nat → Sh := Nat.rec (motive := fun _ => Nat → Sh) (fun _ => .leaf) (fun _ ih n => Bool.rec (motive := fun _ => Sh) (.node (ih (n / 2)) (ih (n - n / 2))) .leaf (Nat.ble n 1)) f
def ftL {a b : Sh} (T : FT (.node a b)) : FT a := @Prod.fst (FT a) (FT b) T
def ftR {a b : Sh} (T : FT (.node a b)) : FT b := @Prod.snd (FT a) (FT b) T
def ftP {a b : Sh} (A : FT a) (B : FT b) : FT (.node a b) := @Prod.mk (FT a) (FT b) A B
def toL : (sh : Sh) → FT sh → List TV
  | .leaf, v => [v]
  | .node a b, T => toL a (ftL T) ++ toL b (ftR T)
def ofL : (sh : Sh) → List TV → FT sh
  | .leaf, l => (l.headD .undef : TV)
  | .node a b, l => ftP (ofL a l) (ofL b (l.drop a.size))
theorem toL_length : ∀ (sh : Sh) (T : FT sh), (toL sh T).length = sh.size
  | .leaf, v => rfl
  | .node a b, T => by simp only [toL, List.length_append, toL_length a, toL_length b]; rfl
theorem ofL_toL : ∀ (sh : Sh) (T : FT sh) (r : List TV), ofL sh (toL sh T ++ r) = T
  | .leaf, v, r => rfl
  | .node a b, T, r => by
    simp only [toL, ofL, List.append_assoc]
    rw [List.drop_append_of_le_length (by rw [toL_length]; exact Nat.le_refl _), List.drop_of_length_le (by rw [toL_length]; exact Nat.le_refl _), List.nil_append, ofL_toL a, ofL_toL b]
    rfl
theorem toL_ofL' : ∀ (sh : Sh) (l : List TV), sh.size ≤ l.length → toL sh (ofL sh l) = l.take sh.size
  | .leaf, l, h => by
    match l, h with
    | v :: l, _ => rfl
    | [], h => exact absurd h (by decide)
  | .node a b, l, h => by
    have h' : a.size + b.size ≤ l.length := h
    show toL a (ofL a l) ++ toL b (ofL b (l.drop a.size)) = l.take (a.size + b.size)
    rw [toL_ofL' a _ (by omega), toL_ofL' b _ (by rw [List.length_drop]; omega), List.take_add]
theorem toL_ofL (sh : Sh) (l : List TV) (h : l.length = sh.size) : toL sh (ofL sh l) = l := by
  rw [toL_ofL' sh l (by omega), ← h, List.take_length]
def ofK (sh : Sh) : List TV → (β : Type) → (FT sh → List TV → β) → β := Sh.rec (motive := fun sh => List TV → (β : Type) → (FT sh → List TV → β) → β)
  (fun l => @List.rec TV (fun _ => (β : Type) → (TV → List TV → β) → β) (fun β k => k .undef []) (fun v r _ β k => k v r) l)
  (fun a b iha ihb l β k => iha l β fun A l => ihb l β fun B l => k (A, B) l) sh
theorem ofK_eq : ∀ (sh : Sh) (l : List TV) (β : Type) (k : FT sh → List TV → β), ofK sh l β k = k (ofL sh l) (l.drop sh.size)
  | .leaf, [], β, k => rfl
  | .leaf, v :: r, β, k => rfl
  | .node a b, l, β, k => by
    show ofK a l β (fun A l => ofK b l β fun B l => k (ftP A B) l) = _
    rw [ofK_eq a, ofK_eq b, List.drop_drop]
    rfl
def toK (sh : Sh) : FT sh → List TV → (β : Type) → (List TV → β) → β := Sh.rec (motive := fun sh => FT sh → List TV → (β : Type) → (List TV → β) → β)
  (fun v r β k => k (v :: r))
  (fun a b iha ihb T => @Prod.rec (FT a) (FT b) (fun _ => List TV → (β : Type) → (List TV → β) → β) (fun A B r β k => ihb B r β fun r => iha A r β k) T) sh
theorem toK_eq : ∀ (sh : Sh) (T : FT sh) (r : List TV) (β : Type) (k : List TV → β), toK sh T r β k = k (toL sh T ++ r)
  | .leaf, v, r, β, k => rfl
  | .node a b, T, r, β, k => by
    show toK b (ftR T) r β (fun r => toK a (ftL T) r β k) = _
    rw [toK_eq b, toK_eq a, toL, List.append_assoc]

/-! reading -/
def bxL {A B : Type} (x : Bx (A → TV)) : Bx (A × B → TV) := Bx.rec (motive := fun _ => Bx (A × B → TV)) (fun g => ⟨fun T => g T.1⟩) x
def bxR {A B : Type} (x : Bx (B → TV)) : Bx (A × B → TV) := Bx.rec (motive := fun _ => Bx (A × B → TV)) (fun g => ⟨fun T => g T.2⟩) x
def getG (sh : Sh) : Nat → Bx (FT sh → TV) := Sh.rec (motive := fun sh => Nat → Bx (FT sh → TV))
  (fun i => Bool.rec (motive := fun _ => Bx (TV → TV)) ⟨fun _ => .undef⟩ ⟨fun v => v⟩ (Nat.beq i 0))
  (fun a b ga gb i => Bool.rec (motive := fun _ => Bx (FT a × FT b → TV)) (bxR (gb (i - a.size))) (bxL (ga i)) (Nat.blt i a.size)) sh
theorem blt_iff {a b : Nat} : Nat.blt a b = true ↔ a < b := by unfold Nat.blt; rw [Nat.ble_eq]; exact Iff.rfl
theorem get_eq : ∀ (sh : Sh) (i : Nat) (T : FT sh), (getG sh i).un T = (toL sh T).getD i .undef
  | .leaf, 0, v => rfl
  | .leaf, i + 1, v => rfl
  | .node a b, i, T => by
    show (Bool.rec (motive := fun _ => Bx (FT a × FT b → TV)) (bxR (getG b (i - a.size))) (bxL (getG a i)) (Nat.blt i a.size)).un T = _
    rw [toL, List.getD_eq_getElem?_getD]
    cases h : Nat.blt i a.size with
    | true =>
      have h := blt_iff.1 h
      rw [List.getElem?_append_left (by rw [toL_length]; exact h), ← List.getD_eq_getElem?_getD, ← get_eq a i (ftL T)]
      rfl
    | false =>
      have h : ¬ i < a.size := fun k => by rw [blt_iff.2 k] at h; cases h
      rw [List.getElem?_append_right (by rw [toL_length]; omega), toL_length, ← List.getD_eq_getElem?_getD, ← get_eq b (i - a.size) (ftR T)]
      rfl

/-! writing -/
def St (A : Type) : Type 1 := (β : Type) → TV → A → (A → β) → β
def stL {A B : Type} (x : Bx (St A)) : Bx (St (A × B)) := Bx.rec (motive := fun _ => Bx (St (A × B))) (fun g => ⟨fun β v T k => Prod.rec (motive := fun _ => (β : Type) → TV → ((A × B) → β) → β) (fun a b β v k => g β v a fun a => k (a, b)) T β v k⟩) x
def stR {A B : Type} (x : Bx (St B)) : Bx (St (A × B)) := Bx.rec (motive := fun _ => Bx (St (A × B))) (fun g => ⟨fun β v T k => Prod.rec (motive := fun _ => (β : Type) → TV → ((A × B) → β) → β) (fun a b β v k => g β v b fun b => k (a, b)) T β v k⟩) x
def setG (sh : Sh) : Nat → Bx (St (FT sh)) := Sh.rec (motive := fun sh => Nat → Bx (St (FT sh)))
  (fun i => Bool.rec (motive := fun _ => Bx (St TV)) ⟨fun β v T k => k T⟩ ⟨fun β v T k => k v⟩ (Nat.beq i 0))
  (fun a b ga gb i => Bool.rec (motive := fun _ => Bx (St (FT a × FT b))) (stR (gb (i - a.size))) (stL (ga i)) (Nat.blt i a.size)) sh
theorem set_ex : ∀ (sh : Sh) (i : Nat) (v : TV) (T : FT sh), ∃ T', (∀ (β : Type) (k : FT sh → β), (setG sh i).un β v T k = k T') ∧ toL sh T' = (toL sh T).set i v
  | .leaf, 0, v, T => ⟨(v : TV), fun _ _ => rfl, rfl⟩
  | .leaf, i + 1, v, T => ⟨T, fun _ _ => rfl, rfl⟩
  | .node a b, i, v, T => by
    have e : ∀ (β : Type) (k : FT (.node a b) → β), (setG (.node a b) i).un β v T k = (Bool.rec (motive := fun _ => Bx (St (FT a × FT b))) (stR (setG b (i - a.size))) (stL (setG a i)) (Nat.blt i a.size)).un β v T k := fun _ _ => rfl
    cases h : Nat.blt i a.size with
    | true =>
      obtain ⟨A, h1, h2⟩ := set_ex a i v (ftL T)
      refine ⟨ftP A (ftR T), fun β k => ?_, ?_⟩
      · rw [e, h]; exact h1 β fun a' => k (a', ftR T)
      · have h := blt_iff.1 h
        show toL a A ++ toL b (ftR T) = (toL a (ftL T) ++ toL b (ftR T)).set i v
        rw [h2, List.set_append_left _ _ (by rw [toL_length]; exact h)]
    | false =>
      obtain ⟨B, h1, h2⟩ := set_ex b (i - a.size) v (ftR T)
      refine ⟨ftP (ftL T) B, fun β k => ?_, ?_⟩
      · rw [e, h]; exact h1 β fun b' => k (ftL T, b')
      · have h : ¬ i < a.size := fun k => by rw [blt_iff.2 k] at h; cases h
        show toL a (ftL T) ++ toL b B = (toL a (ftL T) ++ toL b (ftR T)).set i v
        rw [h2, List.set_append_right _ _ (by rw [toL_length]; omega), toL_length]

/-! a frame at the start -/
def fullP {A B : Type} (x : Bx A) (y : Bx B) : Bx (A × B) := Bx.rec (motive := fun _ => Bx (A × B)) (fun a => Bx.rec (motive := fun _ => Bx (A × B)) (fun b => ⟨(a, b)⟩) y) x
def fullG (sh : Sh) : Bx (FT sh) := Sh.rec (motive := fun sh => Bx (FT sh)) ⟨.tup []⟩ (fun a b x y => fullP x y) sh
theorem full_eq : ∀ (sh : Sh), toL sh (fullG sh).un = List.replicate sh.size (.tup [])
  | .leaf => rfl
  | .node a b => by
    have e : (fullG (.node a b)).un = ftP (fullG a).un (fullG b).un := rfl
    rw [e]
    show toL a (fullG a).un ++ toL b (fullG b).un = _
    rw [full_eq a, full_eq b, List.replicate_append_replicate]
    rfl
def argsT (sh : Sh) : List TV → Nat → FT sh → (β : Type) → (FT sh → β) → β := fun l => List.rec (motive := fun _ => Nat → FT sh → (β : Type) → (FT sh → β) → β) (fun i T β k => k T) (fun v l ih i T β k => (setG sh i).un β v T fun T => ih (i + 1) T β k) l
theorem argsT_ex (sh : Sh) : ∀ (l : List TV) (i : Nat) (T : FT sh), i + l.length ≤ sh.size → ∃ T', (∀ (β : Type) (k : FT sh → β), argsT sh l i T β k = k T') ∧ toL sh T' = (toL sh T).take i ++ l ++ (toL sh T).drop (i + l.length)
  | [], i, T, h => ⟨T, fun _ _ => rfl, by simp⟩
  | v :: l, i, T, h => by
    simp only [List.length_cons] at h
    obtain ⟨T1, h1, h2⟩ := set_ex sh i v T
    obtain ⟨T2, h3, h4⟩ := argsT_ex sh l (i + 1) T1 (by omega)
    refine ⟨T2, fun β k => ?_, ?_⟩
    · show (setG sh i).un β v T (fun T => argsT sh l (i + 1) T β k) = _
      rw [h1, h3]
    · have hL := toL_length sh T
      rw [h4, h2]
      have e1 : ((toL sh T).set i v).take (i + 1) = (toL sh T).take i ++ [v] := by
        rw [List.take_set, List.take_succ_eq_append_getElem (by omega), List.set_append_right _ _ (by rw [List.length_take]; omega), List.length_take, Nat.min_eq_left (by omega), Nat.sub_self]
        rfl
      rw [e1, List.drop_set_of_lt (by omega)]
      simp only [List.append_assoc, List.cons_append, List.nil_append, List.length_cons]
      rw [show i + 1 + l.length = i + (l.length + 1) by omega]
theorem start_eq (sh : Sh) (l : List TV) (h : l.length ≤ sh.size) : ∃ T', (∀ (β : Type) (k : FT sh → β), argsT sh l 0 (fullG sh).un β k = k T') ∧ toL sh T' = l ++ List.replicate (sh.size - l.length) (.tup []) := by
  obtain ⟨T, h1, h2⟩ := argsT_ex sh l 0 (fullG sh).un (by omega)
  refine ⟨T, h1, ?_⟩
  rw [h2, full_eq]
  simp
/-- what is done behind, on lists and on trees -/
def Kk (sh : Sh) {α β : Type} (K : List TV → α → β) (k : FT sh → α → β) : Prop := ∀ T s, k T s = K (toL sh T) s
end
end Go.Proofs.YtmacghaihlfcpaaGreat.Abs
