/- The library's functions that are told by contract: texts and names of package value. -/
import Derived.Test.YtgicljncknbgcaaL7
import Derived.Test.YtgicljncknbgcaaFS
import Derived.Laws.RangeAny
import Derived.Shelf.Strings.FuncGrows
import Derived.Shelf.Lay
import Derived.Test.YtgicljncknbgcaaShelf
import Derived.WalkKit
import Derived.ProofKit
namespace Go.Proofs.Ytgicljncknbgcaa.Abs
open Go Go.Proofs Go.ChangeShapes Go.WideShapes Go.ChangeAt Go.RowKit Go.Shelf Go.Lib
set_option linter.unusedVariables false
set_option linter.unusedSimpArgs false

/-- a function that turns nothing -/
theorem EntSound_calls {P : Program} {f : FuncId} {pts rts : List Ty} {m : Els pts → Option (RT rts)} (hen : enters P f = true)
    (h : ∀ x r, m x = some r → ∀ (G : Gh) (w : World) (cargs : List Value), VRs0 G w (dns (encA pts x)) cargs → Calls P f cargs.toArray w fun e w' => ∃ v, e = .returned v ∧ (∀ (G' : Gh) (w2 : World), VR0 G' w2 (dn (encR rts r)) v) ∧ Below w.heap.size w w') :
    EntSound P f (specEnt pts rts m) := by
  intro β args s k b hE
  unfold specEnt at hE
  split at hE
  case h_2 => cases hE
  rename_i x hx
  split at hE
  case h_2 => cases hE
  rename_i r hr
  refine ⟨hen, encR rts r, s, ?_, hE⟩
  intro M G w cargs hS hv
  refine (h x r hr G w cargs ((decA_spec hx).VRs0 hv)).mono ?_
  rintro e w' ⟨v, rfl, hv', hb⟩
  have hg : w.grownBy w' none := ⟨hb.os, hb.tape, hb.output, hb.size, fun k hk _ => hb.block k hk⟩
  have hm : More G w G := ⟨Nat.le_refl _, fun _ _ => rfl, fun _ _ => rfl, fun i h1 h2 => by omega, fun _ _ => rfl, fun _ _ => rfl, fun _ _ => rfl⟩
  exact ⟨v, G, rfl, hv' G w', hS.toS.grow hg hm rfl, (Ext.grow hg hm).mono fun _ _ h => h.elim⟩
theorem idx_any (p : Nat → Bool) (hp : ∀ n, 128 ≤ n → p n = true) (s : ByteArray) : ∀ (f pos : Nat), s.size - pos ≤ f → (0 ≤ Lib.idxFuncFrom p true s f pos ↔ (s.data.toList.drop pos).any (fun b => p b.toNat) = true)
  | 0, pos, h => by
    have e : s.size = s.data.toList.length := rfl
    rw [List.drop_eq_nil_of_le (by omega)]
    simp [Lib.idxFuncFrom]
  | f + 1, pos, h => by
    have e : s.size = s.data.toList.length := rfl
    unfold Lib.idxFuncFrom
    by_cases hlt : pos < s.size
    · rw [if_pos hlt, List.drop_eq_getElem_cons (by omega)]
      have eg : s.data.toList[pos] = s[pos] := by rfl
      rw [eg, List.any_cons]
      by_cases ha : (s[pos]).toNat < 128
      · rw [decode_ascii s pos hlt ha]
        by_cases hb : p (s[pos]).toNat = true
        · rw [if_pos hb]; simp [hb]
        · rw [if_neg hb]
          have hb' : p (s[pos]).toNat = false := by simpa using hb
          rw [hb', Bool.false_or]
          exact idx_any p hp s f (pos + 1) (by omega)
      · obtain ⟨h1, h2⟩ := decode_high s pos hlt (by omega)
        rw [if_pos (hp _ h1), hp (s[pos]).toNat (by omega)]
        simp
    · rw [if_neg hlt, List.drop_eq_nil_of_le (by omega)]
      simp
theorem idx_any' (p : Nat → Bool) (hp : ∀ n, 128 ≤ n → p n = true) (s : ByteArray) : decide (0 ≤ Lib.idxFunc p true s) = s.data.toList.any (fun b => p b.toNat) := by
  rw [Bool.eq_iff_iff, decide_eq_true_eq]
  exact idx_any p hp s s.size 0 (by omega)


open Abs.Walks in
theorem oddR_high (n : Nat) (h : 128 ≤ n) : oddR n = true := by unfold oddR; simp; omega
open Abs.Walks in
theorem nameR_high (n : Nat) (h : 128 ≤ n) : nameR n = true := by unfold nameR; simp; omega
def oddB (b : UInt8) : Bool := decide (b.toNat < 32) || decide (126 < b.toNat)
def strangeB (b : UInt8) : Bool := (decide (b.toNat < 97) || decide (122 < b.toNat)) && (decide (b.toNat < 48) || decide (57 < b.toNat))
def textB (s : List UInt8) : Bool := decide (s.length ≤ 200) && !s.any oddB
def headB : List UInt8 → Bool
  | [] => false
  | c :: l => decide (l.length < 12) && (decide (97 ≤ c.toNat) && decide (c.toNat ≤ 122))
def nameB (s : List UInt8) : Bool := headB s && !s.any strangeB
theorem size_mk (s : List UInt8) : (⟨s.toArray⟩ : ByteArray).size = s.length := by show s.toArray.size = _; simp
open Abs.Walks in
theorem isTextF_is (s : List UInt8) : isTextF ⟨s.toArray⟩ = textB s := by
  unfold isTextF textB
  rw [idx_any' oddR oddR_high, size_mk]
  rfl
open Abs.Walks in
theorem isNameF_is (s : List UInt8) : isNameF ⟨s.toArray⟩ = nameB s := by
  unfold isNameF nameB
  rw [idx_any' nameR nameR_high]
  have e : headOK ⟨s.toArray⟩ = headB s := by
    unfold headOK
    cases s with
    | nil => rw [dif_neg (by rw [size_mk]; simp)]; rfl
    | cons c l =>
      have h : 0 < (⟨(c :: l).toArray⟩ : ByteArray).size := by rw [size_mk]; simp
      rw [dif_pos h]
      unfold headB
      have e0 : (⟨(c :: l).toArray⟩ : ByteArray)[0] = c := rfl
      rw [e0, size_mk]
      have e1 : decide ((c :: l).length ≤ 12) = decide (l.length < 12) := by simp; omega
      rw [e1, Bool.eq_iff_iff]
      simp only [Bool.and_eq_true, decide_eq_true_eq]
      omega
  rw [e]
  rfl
def value_isText (N : Nat) (s : List UInt8) : Option Bool := some (textB s)
def value_isText_entO (m : (List UInt8) → Option Bool) : Ent := specEnt [.str] [.bool] fun (x : Els [.str]) => m x.1
def value_isText_ent (N : Nat) : Ent := value_isText_entO (value_isText N)
theorem value_isText_sound (N : Nat) : EntSound Try.prog 60 (value_isText_ent N) := by
  refine EntSound_calls (pts := [.str]) (rts := [.bool]) (m := fun (x : Els [.str]) => value_isText N x.1) (by kernel_rfl) fun x r hx G w cargs hv => ?_
  obtain ⟨s, u⟩ := x
  have hx : some (textB s) = some r := hx
  cases hx
  change List UInt8 at s
  simp only [encA, dns, dn, tval, VRs0, VR0] at hv
  obtain ⟨v, vs, rfl, rfl, rfl⟩ := hv
  refine (Abs.Walks.istext_calls ⟨s.toArray⟩ w).mono ?_
  rintro e w' ⟨rfl, hb⟩
  exact ⟨_, rfl, fun G' w2 => by rw [isTextF_is]; rfl, hb⟩
def value_isName (N : Nat) (s : List UInt8) : Option Bool := some (nameB s)
def value_isName_entO (m : (List UInt8) → Option Bool) : Ent := specEnt [.str] [.bool] fun (x : Els [.str]) => m x.1
def value_isName_ent (N : Nat) : Ent := value_isName_entO (value_isName N)
theorem value_isName_sound (N : Nat) : EntSound Try.prog 61 (value_isName_ent N) := by
  refine EntSound_calls (pts := [.str]) (rts := [.bool]) (m := fun (x : Els [.str]) => value_isName N x.1) (by kernel_rfl) fun x r hx G w cargs hv => ?_
  obtain ⟨s, u⟩ := x
  have hx : some (nameB s) = some r := hx
  cases hx
  change List UInt8 at s
  simp only [encA, dns, dn, tval, VRs0, VR0] at hv
  obtain ⟨v, vs, rfl, rfl, rfl⟩ := hv
  refine (Abs.Walks.isname_calls ⟨s.toArray⟩ w).mono ?_
  rintro e w' ⟨rfl, hb⟩
  exact ⟨_, rfl, fun G' w2 => by rw [isNameF_is]; rfl, hb⟩
end Go.Proofs.Ytgicljncknbgcaa.Abs
