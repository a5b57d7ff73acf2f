/- Every operation on typed values, told by one function. -/
import Derived.Test.YtgicljncknbgcaaTE
import Derived.Test.YtgicljncknbgcaaAN2
import Derived.Test.YtgicljncknbgcaaAM2
import Derived.Test.YtgicljncknbgcaaAQ
namespace Go.Proofs.Ytgicljncknbgcaa.Abs
open Go Go.ChangeShapes Go.WideShapes Go.ChangeAt Go.RowKit
set_option linter.unusedVariables false
set_option linter.unusedSimpArgs false

/-! rows of noughts -/
theorem Wks.of_get : ∀ {l m : List AV}, l.length = m.length → (∀ (i : Nat) (a b : AV), l[i]? = some a → m[i]? = some b → Wk a b) → Wks l m
  | [], [], _, _ => .nil
  | [], _ :: _, h, _ => by simp at h
  | _ :: _, [], h, _ => by simp at h
  | a :: l, b :: m, h, hh => .cons (hh 0 a b rfl rfl) (Wks.of_get (by simpa using h) fun i x y hx hy => hh (i + 1) x y (by simpa using hx) (by simpa using hy))
theorem Wks.get : ∀ {l m : List AV}, Wks l m → ∀ (i : Nat) (y y' : AV), l[i]? = some y → m[i]? = some y' → Wk y y' := by
  intro l m hw
  induction hw with
  | nil => intro i y y' h; simp at h
  | cons hh _ ih =>
    intro i y y' h h'
    cases i with
    | zero => simp at h h'; subst h; subst h'; exact hh
    | succ i => exact ih i y y' (by simpa using h) (by simpa using h')
theorem rep_get {α β : Type} (f : α → List β) (x : α) (z : Nat) (hz : (f x).length = z) (h0 : 0 < z) : ∀ (n i : Nat), i < n * z → ((List.replicate n x).flatMap f)[i]? = (f x)[i % z]?
  | 0, i, h => by omega
  | n + 1, i, h => by
    rw [List.replicate_succ, List.flatMap_cons]
    rcases Nat.lt_or_ge i z with h1 | h1
    · rw [List.getElem?_append_left (by omega), Nat.mod_eq_of_lt h1]
    · rw [List.getElem?_append_right (by omega), hz, rep_get f x z hz h0 n (i - z) (by rw [Nat.succ_mul] at h; omega)]
      congr 1
      rw [Nat.mod_eq_sub_mod h1]
theorem zeros_wks {ty : Ty} {z : Value} {x : El ty} {n size : Nat} (hs : size = ty.size) (hz : z.cells.size = size) (h0 : 0 < size) (h : dec ty (z.cells.toList.map tAbsS) = some (x, [])) :
    Wks (zerosOf z (n * size)) ((List.replicate n x).flatMap (cellsOf ty)) := by
  have hw := dec_spec ty _ _ _ h
  simp only [dns, List.append_nil, dns_tAbsS] at hw
  have hlen : (zerosOf z (n * size)).length = n * size := by simp [zerosOf, madeCells]
  refine .of_get (by rw [hlen, flat_len, List.length_replicate, hs]) fun i a b ha hb => ?_
  have hi : i < n * size := by rw [← hlen]; exact lt_of_some ha
  rw [rep_get (cellsOf ty) x size (by rw [cellsOf_len, hs]) h0 n i hi] at hb
  refine hw.get (i % size) a b ?_ hb
  have hn : ¬ n * size = 0 := by omega
  unfold zerosOf madeCells at ha
  rw [List.getElem?_map] at ha ⊢
  have hm : i % size < z.cells.size := by rw [hz]; exact Nat.mod_lt _ h0
  rw [Array.getElem?_toList] at ha ⊢
  rw [Array.getElem?_map] at ha
  rw [Array.getElem?_eq_getElem hm]
  rw [Array.getElem?_eq_getElem (by simpa using hi)] at ha
  simp [hz, hm] at ha ⊢
  rw [← ha, getElem!_pos z.cells (i % size) hm]
def tMake (P : Program) (t : TypeId) (n m : Int) : Option (Bool × TypeId × (ty : Ty) × List (El ty)) :=
  match aElem P t with
  | some (e, size) => match P.info? e, tyOf P 10 e with
    | some i, some ty => match i.zero with
      | some z => if size = ty.size ∧ z.cells.size = size then
          match dec ty (z.cells.toList.map tAbsS) with
          | some (x, []) => some (canMake i.bytes n m, e, ⟨ty, List.replicate n.toNat x⟩)
          | _ => none
        else none
      | none => none
    | _, _ => none
  | none => none
theorem tMake_spec {P : Program} {t e : TypeId} {n m : Int} {g : Bool} {ty : Ty} {xs : List (El ty)} (h : tMake P t n m = some (g, e, ⟨ty, xs⟩)) (hg : gdP g) :
    ∃ cs, n = (n.toNat : Int) ∧ m = n ∧ xs.length = n.toNat ∧ aMake P t n.toNat = some (e, cs) ∧ Wks cs (xs.flatMap (cellsOf ty)) := by
  unfold tMake at h
  split at h
  case h_2 => cases h
  rename_i e' size he
  split at h
  case h_2 => cases h
  rename_i i ty' hi hty
  split at h
  case h_2 => cases h
  rename_i z hz
  split at h
  case isFalse => cases h
  rename_i hc
  split at h
  case h_2 => cases h
  rename_i x hx
  simp only [Option.some.injEq, Prod.mk.injEq] at h
  obtain ⟨rfl, rfl, h3⟩ := h
  cases h3
  simp only [gdP, canMake_iff] at hg
  obtain ⟨_, _, _, _, hpos⟩ := aElem_spec he
  obtain ⟨nn, rfl⟩ : ∃ k : Nat, n = (k : Int) := ⟨n.toNat, by omega⟩
  obtain ⟨hnm, h0, hb, hl⟩ := hg
  refine ⟨zerosOf z (nn * size), by simp, hnm.symm, by simp, ?_, ?_⟩
  · unfold aMake
    rw [he]
    dsimp only
    rw [hi]
    dsimp only
    rw [hz]
    dsimp only
    rw [Int.toNat_natCast, if_pos]
    refine ⟨?_, by omega⟩
    have : ((i.bytes * nn : Nat) : Int) ≤ 281474976710656 := by rw [Int.natCast_mul]; exact hb
    omega
  · rw [Int.toNat_natCast]
    exact zeros_wks hc.1 hc.2 hpos hx
def tZero (P : Program) (t : TypeId) : Option (List TV) := match P.info? t with
  | some i => i.zero.map fun z => z.cells.toList.map tAbsS
  | none => none
theorem tZero_spec {P : Program} {t : TypeId} {cs : List TV} (h : tZero P t = some cs) : zeroCells P t = some (dns cs) := by
  unfold tZero at h
  unfold zeroCells
  split at h
  · rename_i i hi
    obtain ⟨z, h1, rfl⟩ := map_some_eq h
    simp only [hi, h1, Option.map_some, dns_tAbsS]
  · cases h
/-- arr: rows that are made here are objects -/
def tStep (P : Program) (wr : Bool) (tb : Nat) (arr : Bool) (fr : List TV) (s : List TOb) (dst : Option Tmp) (op : Op) : Option (Bool × List TV × TV × List TOb) :=
  match op with
  | .alloc t => match tZero P t with
    | some cs => some (true, fr, .ref s.length 0, s ++ [.cells cs t true])
    | none => none
  | .box t x => match tCells (tEval fr x) with
    | some cs => some (true, fr, .ref s.length 0, s ++ [.cells cs t true])
    | none => none
  | .store t x y => match tStoreAt P s t (tEval fr x) (tEval fr y) with
    | some (g, s') => some (g, fr, .tup [], s')
    | none => none
  | .makeSlice t x y => match tEval fr x, tEval fr y with
    | .int _ n, .int _ m => match tMake P t n m with
      | some (g, e, ⟨ty, xs⟩) => if arr = true then some (g, fr, .arr s.length n.toNat, s ++ [.tarr ty xs e true]) else some (g, fr, .tl ty xs .full, s)
      | none => none
    | _, _ => none
  | .call c => match c.callee with
    | .builtin .append => match c.args.toList, c.argTypes.toList with
      | [x, y], [t, t'] => if t = t' then tAppend P (tb + dst.getD 0) fr s t (tEval fr x) (tEval fr y) else none
      | _, _ => none
    | .builtin .len => match c.args.toList, c.argTypes.toList with
      | [x], [t] => match tLen P t (tEval fr x) with
        | some (g, v) => some (g, fr, v, s)
        | none => none
      | _, _ => none
    | .builtin .max => match tPure P wr fr s op with
      | some (g, v) => some (g, fr, v, s)
      | none => none
    | .builtin .min => match tPure P wr fr s op with
      | some (g, v) => some (g, fr, v, s)
      | none => none
    | _ => none
  | op => match tPure P wr fr s op with
    | some (g, v) => some (g, fr, v, s)
    | none => none
theorem dnS_app (s t : List TOb) : dnS (s ++ t) = dnS s ++ dnS t := by simp [dnS]
theorem Step.weakenV {P : Program} {o : Oper} {fr fr' : List AV} {s s' : List Ob} {v v' : AV} (h : Step P o fr s fr' v s') (k : WkM v v') : Step P o fr s fr' v' s' := h.weaken (.refl _) k (.refl _)
theorem tStep_spec {P : Program} {wr : Bool} {tb : Nat} {arr : Bool} {fr fr' : List TV} {s s' : List TOb} {o : Oper} {g : Bool} {v : TV} (h : tStep P wr tb arr fr s o.dst o.op = some (g, fr', v, s')) (hg : gdP g) : Step P o (dns fr) (dnS s) (dns fr') (dn v) (dnS s') := by
  have pure : ∀ {g v}, tPure P wr fr s o.op = some (g, v) → gdP g → Step P o (dns fr) (dnS s) (dns fr) (dn v) (dnS s) := by
    intro g v h hg
    obtain ⟨a, h1, h2⟩ := tPure_spec h hg
    exact (Step_pure h1).weakenV h2
  have other : (match tPure P wr fr s o.op with | some (g, v) => some (g, fr, v, s) | none => none) = some (g, fr', v, s') → Step P o (dns fr) (dnS s) (dns fr') (dn v) (dnS s') := by
    intro h
    split at h
    · rename_i g1 v1 h1
      cases h
      exact pure h1 hg
    · cases h
  obtain ⟨dst, op, type, pos, after, guard⟩ := o
  unfold tStep at h
  dsimp only at h
  split at h
  · rename_i t
    split at h
    · rename_i cs hz
      cases h
      rw [dnS_app]
      have := Step_alloc (P := P) (o := ⟨dst, .alloc t, type, pos, after, guard⟩) (fr := dns fr) (s := dnS s) rfl (tZero_spec hz)
      rw [dnS_length] at this
      exact this
    · cases h
  · rename_i t x
    split at h
    · rename_i cs hz
      cases h
      rw [dnS_app]
      have hz' := tCells_spec hz
      rw [dn_tEval] at hz'
      have := Step_box (P := P) (o := ⟨dst, .box t x, type, pos, after, guard⟩) (fr := dns fr) (s := dnS s) rfl hz'
      rw [dnS_length] at this
      exact this
    · cases h
  · rename_i t x y
    split at h
    · rename_i g1 s1 hz
      cases h
      exact tStoreAt_spec (o := ⟨dst, .store t x y, type, pos, after, guard⟩) rfl hz hg
    · cases h
  · rename_i t x y
    split at h
    case h_2 => cases h
    rename_i k n k' m hx hy
    split at h
    case h_2 => cases h
    rename_i g1 e ty xs hmk
    have hg1 : gdP g1 := by
      split at h <;> cases h <;> exact hg
    obtain ⟨cs, e1, e2, e3, e4, e5⟩ := tMake_spec hmk hg1
    have hx' : aEval (dns fr) x = .int k n.toNat := by rw [← dn_tEval, hx]; simp only [dn]; rw [← e1]
    have hy' : aEval (dns fr) y = .int k' n.toNat := by rw [← dn_tEval, hy]; simp only [dn]; rw [← e1, e2]
    split at h
    · cases h
      rw [dnS_app]
      have := Step_makeArr (P := P) (o := ⟨dst, .makeSlice t x y, type, pos, after, guard⟩) (fr := dns fr) (s := dnS s) rfl hx' hy' e4
      rw [dnS_length] at this
      refine this.weaken (.refl _) (.refl _) ?_
      refine ⟨by simp [dnS], fun i o o' h h' => ?_⟩
      rw [List.getElem?_append] at h h'
      split at h
      · rename_i hlt
        rw [if_pos hlt, h] at h'
        cases h'
        exact .refl _
      · rename_i hlt
        rw [if_neg hlt] at h'
        cases hq : i - (dnS s).length with
        | zero =>
          rw [hq] at h h'
          cases h
          cases h'
          refine fun hl => ⟨rfl, hl, e5.len.symm, fun j a a' ha ha' => ?_⟩
          exact .of (e5.get j a a' ha ha') (flat_mark _ a' (List.mem_of_getElem? ha'))
        | succ q => rw [hq] at h; simp at h
    · cases h
      refine (Step_foreign (Step_makeList (P := P) (o := ⟨dst, .makeSlice t x y, type, pos, after, guard⟩) (fr := dns fr) (s := dnS s) rfl hx' hy' e4)).weakenV ?_
      refine .of ?_ rfl
      simp only [dn]
      rw [e3]
      exact .list e5 fun _ => rfl
  · rename_i c
    split at h
    · rename_i hc
      split at h
      · rename_i x y t t' ha ht
        split at h
        · rename_i htt
          subst htt
          have ha' : c.args = #[x, y] := by apply Array.ext'; simpa using ha
          have ht' : c.argTypes = #[t, t] := by apply Array.ext'; simpa using ht
          exact tAppend_spec (o := ⟨dst, .call c, type, pos, after, guard⟩) rfl hc ha' ht' h hg
        · cases h
      · cases h
    · rename_i hc
      split at h
      · rename_i x t ha ht
        split at h
        · rename_i g1 v1 h1
          cases h
          refine pure (g := g) (v := v) ?_ hg
          simp only [tPure, hc, ha, ht, h1]
        · cases h
      · cases h
    · exact other h
    · exact other h
    · cases h
  · exact other h
end Go.Proofs.Ytgicljncknbgcaa.Abs
