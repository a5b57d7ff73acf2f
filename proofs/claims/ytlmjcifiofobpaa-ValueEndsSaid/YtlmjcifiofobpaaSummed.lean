/- Plain laws of sums and products of values. -/
import Derived.Test.YtlmjcifiofobpaaMay
import Derived.Test.YtlmjcifiofobpaaFirst
import Derived.Test.YtlmjcifiofobpaaLogical
namespace Go.Proofs.Ytlmjcifiofobpaa
open Go.ChangeShapes Go.WideShapes Go.ChangeAt Go.RowKit
set_option linter.unusedVariables false
set_option linter.unusedSimpArgs false

/-- what do does, said plainly -/
def doS (fw fd : Int → Int → Int × Int) (a b : Val) : Val × Int :=
  if badV a = true ∨ badV b = true then (Val.zero, 8) else if a.k = 0 ∨ b.k = 0 then (Val.zero, 0)
  else if a.k = 2 ∨ b.k = 2 then (if I64 (worth a) ∧ I64 (worth b) then toldF 2 (fd (worth a) (worth b)) else (Val.zero, 9)) else toldF 1 (fw a.n b.n)
theorem decF_worth (v : Val) (hv : v.ok) (hk : v.k = 1 ∨ v.k = 2) : ((decF v).2 = 0 ↔ I64 (worth v)) ∧ ((decF v).2 = 0 → (decF v).1.n = worth v) := by
  unfold decF worth
  rcases hk with hk | hk
  · rw [if_neg (by omega), if_pos hk]
    by_cases h : I64 (v.n * 10000)
    · rw [if_pos h]
      exact ⟨⟨fun _ => h, fun _ => rfl⟩, fun _ => rfl⟩
    · rw [if_neg h]
      exact ⟨⟨fun h1 => absurd h1 (by decide), fun h1 => absurd h1 h⟩, fun h1 => absurd h1 (by decide)⟩
  · rw [if_pos hk, if_neg (by omega)]
    exact ⟨⟨fun _ => hv.2.2, fun _ => rfl⟩, fun _ => rfl⟩
theorem badV_of (v : Val) (h : ¬ badV v = true) : v.k = 0 ∨ v.k = 1 ∨ v.k = 2 := badV_cases v (by simpa using h)
theorem doF_eq (fw fd : Int → Int → Int × Int) (a b : Val) (ha : a.ok) (hb : b.ok) : doF fw fd a b = doS fw fd a b := by
  unfold doS
  by_cases h1 : badV a = true ∨ badV b = true
  · rw [if_pos h1]
    have hbad : anyBad [a, b] = true := by unfold anyBad; simpa using h1
    unfold doF alikeF
    simp [hbad]
  · rw [if_neg h1]
    have hbad : anyBad [a, b] = false := by unfold anyBad; simpa using h1
    have ka := badV_of a (fun h => h1 (.inl h))
    have kb := badV_of b (fun h => h1 (.inr h))
    by_cases h2 : a.k = 0 ∨ b.k = 0
    · rw [if_pos h2]
      have hnull : anyNull [a, b] = true := by unfold anyNull; simpa using h2
      unfold doF alikeF
      simp [hbad, hnull]
    · rw [if_neg h2]
      have hnull : anyNull [a, b] = false := by unfold anyNull; simpa using h2
      obtain ⟨pa, qa⟩ := decF_worth a ha (by omega)
      obtain ⟨pb, qb⟩ := decF_worth b hb (by omega)
      by_cases h3 : a.k = 2 ∨ b.k = 2
      · rw [if_pos h3]
        have hk : kindOf [a, b] = 2 := by unfold kindOf; simp; omega
        by_cases h4 : I64 (worth a) ∧ I64 (worth b)
        · rw [if_pos h4]
          have hd : allDec [a, b] = true := by unfold allDec; simp [pa.2 h4.1, pb.2 h4.2]
          unfold doF alikeF
          simp [hbad, hnull, hk, hd, asDec, qa (pa.2 h4.1), qb (pb.2 h4.2)]
        · rw [if_neg h4]
          have hd : allDec [a, b] = false := by
            unfold allDec
            rw [List.all_eq_false]
            by_cases h5 : I64 (worth a)
            · exact ⟨b, by simp, by simpa using fun h => h4 ⟨h5, pb.1 h⟩⟩
            · exact ⟨a, by simp, by simpa using fun h => h5 (pa.1 h)⟩
          unfold doF alikeF
          simp [hbad, hnull, hk, hd]
      · rw [if_neg h3]
        have hk : ¬ kindOf [a, b] = 2 := by unfold kindOf; simpa using h3
        unfold doF alikeF
        simp [hbad, hnull, hk, asInt]
theorem ite_iff {α : Type} {c d : Prop} [Decidable c] [Decidable d] {x y x' y' : α} (h : c ↔ d) (hx : x = x') (hy : y = y') : (if c then x else y) = if d then x' else y' := by
  subst hx hy
  by_cases hc : c
  · rw [if_pos hc, if_pos (h.1 hc)]
  · rw [if_neg hc, if_neg fun hd => hc (h.2 hd)]
theorem doS_comm (fw fd : Int → Int → Int × Int) (hw : ∀ x y, fw x y = fw y x) (hd : ∀ x y, fd x y = fd y x) (a b : Val) : doS fw fd a b = doS fw fd b a := by
  unfold doS
  refine ite_iff or_comm rfl (ite_iff or_comm rfl (ite_iff or_comm (ite_iff and_comm ?_ rfl) ?_))
  · rw [hd]
  · rw [hw]
theorem vadd_comm (a b : Val) (ha : a.ok) (hb : b.ok) : vadd a b = vadd b a := by
  unfold vadd
  rw [doF_eq _ _ a b ha hb, doF_eq _ _ b a hb ha]
  exact doS_comm _ _ (fun x y => by unfold nAdd; rw [Int.add_comm]) (fun x y => by unfold nAdd; rw [Int.add_comm]) a b
theorem vmul_comm (a b : Val) (ha : a.ok) (hb : b.ok) : vmul a b = vmul b a := by
  unfold vmul
  rw [doF_eq _ _ a b ha hb, doF_eq _ _ b a hb ha]
  exact doS_comm _ _ (fun x y => by unfold nMul; rw [Int.mul_comm]) (fun x y => by unfold nMulD; rw [overV_comm]) a b
theorem may_zero : mayF Val.zero = true := by kernel_rfl
theorem may_num (k n : Int) (h : k = 1 ∨ k = 2) : mayF ⟨k, n, ⟨#[]⟩⟩ = true := by
  unfold mayF
  rw [if_neg (by dsimp only; omega), if_pos h, Lib.toList_data]
  rfl
theorem may_told (kd : Int) (p : Int × Int) (h : kd = 1 ∨ kd = 2) : mayF (toldF kd p).1 = true := by
  unfold toldF
  split
  · exact may_num kd _ h
  · exact may_zero
theorem may_doS (fw fd : Int → Int → Int × Int) (a b : Val) : mayF (doS fw fd a b).1 = true := by
  unfold doS
  split
  · exact may_zero
  · split
    · exact may_zero
    · split
      · split
        · exact may_told 2 _ (.inr rfl)
        · exact may_zero
      · exact may_told 1 _ (.inl rfl)
theorem doS_null (fw fd : Int → Int → Int × Int) (a b : Val) (h : a.k = 0 ∨ b.k = 0) : (doS fw fd a b).1 = Val.zero ∧ ((doS fw fd a b).2 = 0 ∨ (doS fw fd a b).2 = 8) := by
  unfold doS
  split
  · exact ⟨rfl, .inr rfl⟩
  · exact ⟨rfl, .inl rfl⟩
theorem nSub0_in (n : Int) (h : I64 (-n)) : nSub 0 n = (-n, 0) := by
  unfold nSub
  rw [Int.zero_sub, toldV_in h, toldE_in h]
theorem nSub0_out (n : Int) (h : ¬ I64 (-n)) : (nSub 0 n).2 = 9 := by
  unfold nSub toldE
  dsimp only
  unfold I64 at h
  rw [if_neg (by omega)]
theorem bad_num (k n : Int) (s : ByteArray) (h : k = 1 ∨ k = 2) : ¬ badV ⟨k, n, s⟩ = true := by unfold badV isNum; simp [h]
/-- what Neg makes -/
theorem vneg_eq (b : Val) (hb : b.ok) : vneg b = if badV b = true then (Val.zero, 8) else if b.k = 0 then (Val.zero, 0) else if I64 (-b.n) then (⟨b.k, -b.n, ⟨#[]⟩⟩, 0) else (Val.zero, 9) := by
  have hz : Val.ok ⟨max (min b.k 2) 1, 0, ⟨#[]⟩⟩ := by unfold Val.ok I64; dsimp only; omega
  unfold vneg vsub
  rw [doF_eq _ _ _ b hz hb]
  unfold doS
  have hnb : ¬ badV ⟨max (min b.k 2) 1, 0, ⟨#[]⟩⟩ = true := bad_num _ _ _ (by omega)
  by_cases h1 : badV b = true
  · rw [if_pos (.inr h1), if_pos h1]
  · rw [if_neg (fun h => h.elim hnb h1), if_neg h1]
    have hk := badV_of b h1
    by_cases h2 : b.k = 0
    · rw [if_pos (.inr h2), if_pos h2]
    · rw [if_neg (by rintro (h | h) <;> (try dsimp only at h) <;> omega), if_neg h2]
      have hw : worth ⟨max (min b.k 2) 1, 0, ⟨#[]⟩⟩ = 0 := by unfold worth; split <;> simp
      by_cases h3 : b.k = 2
      · rw [if_pos (.inr h3), hw]
        have hwb : worth b = b.n := by unfold worth; rw [if_neg (by omega)]
        rw [hwb, if_pos ⟨by unfold I64; omega, hb.2.2⟩]
        by_cases h4 : I64 (-b.n)
        · rw [if_pos h4, nSub0_in _ h4, h3]
          rfl
        · rw [if_neg h4]
          unfold toldF
          rw [nSub0_out _ h4]
          rfl
      · rw [if_neg (by rintro (h | h) <;> (try dsimp only at h) <;> omega)]
        by_cases h4 : I64 (-b.n)
        · rw [if_pos h4, nSub0_in _ h4, show b.k = 1 by omega]
          rfl
        · rw [if_neg h4]
          unfold toldF
          rw [nSub0_out _ h4]
          rfl
theorem vneg_ok (b : Val) (hb : b.ok) : (vneg b).1.ok := by
  rw [vneg_eq b hb]
  have hz : Val.zero.ok := by unfold Val.ok Val.zero I64; dsimp only; omega
  split
  · exact hz
  · split
    · exact hz
    · split
      · exact ⟨hb.1, hb.2.1, by assumption⟩
      · exact hz
theorem vneg_e (b : Val) (hb : b.ok) : (vneg b).2 = 0 ∨ (vneg b).1 = Val.zero ∧ ((vneg b).2 = 8 ∨ (vneg b).2 = 9) := by
  rw [vneg_eq b hb]
  split
  · exact .inr ⟨rfl, .inl rfl⟩
  · split
    · exact .inl rfl
    · split
      · exact .inl rfl
      · exact .inr ⟨rfl, .inr rfl⟩
theorem vneg_zero : vneg Val.zero = (Val.zero, 0) := by kernel_rfl
theorem vneg_back (b : Val) (hb : b.ok) (hm : mayF b = true) (h0 : (vneg b).2 = 0) : vneg (vneg b).1 = (b, 0) := by
  have ho := vneg_ok b hb
  rw [vneg_eq b hb] at h0 ho ⊢
  by_cases h1 : badV b = true
  · rw [if_pos h1] at h0; exact absurd h0 (by decide)
  · rw [if_neg h1] at h0 ho ⊢
    by_cases h2 : b.k = 0
    · rw [if_pos h2]
      have hz : b = Val.zero := by unfold mayF at hm; rw [if_pos h2] at hm; exact (vEq_iff _ _).1 hm
      rw [hz]
      exact vneg_zero
    · rw [if_neg h2] at h0 ho ⊢
      by_cases h3 : I64 (-b.n)
      · rw [if_pos h3] at ho ⊢
        have hk := badV_of b h1
        rw [vneg_eq _ ho, if_neg (bad_num _ _ _ (by omega)), if_neg (by dsimp only; omega), if_pos (by dsimp only; rw [Int.neg_neg]; exact hb.2.2)]
        have hs : b.s = ⟨#[]⟩ := by
          unfold mayF at hm
          rw [if_neg h2, if_pos (by omega)] at hm
          exact bytes_eq (by rw [List.isEmpty_iff.1 hm, Lib.toList_data])
        rw [Int.neg_neg, ← hs]
      · rw [if_neg h3] at h0; exact absurd h0 (by decide)
theorem nSub_add (x y : Int) : nSub x y = nAdd x (-y) := by unfold nSub nAdd; rw [Int.sub_eq_add_neg]
theorem vsub_neg (a b : Val) (ha : a.ok) (hb : b.ok) (h0 : (vneg b).2 = 0) : vadd a (vneg b).1 = vsub a b := by
  have ho := vneg_ok b hb
  unfold vadd vsub
  rw [doF_eq _ _ a _ ha ho, doF_eq _ _ a b ha hb]
  rw [vneg_eq b hb] at h0 ho ⊢
  by_cases h1 : badV b = true
  · rw [if_pos h1] at h0; exact absurd h0 (by decide)
  · rw [if_neg h1] at h0 ho ⊢
    by_cases h2 : b.k = 0
    · rw [if_pos h2]
      unfold doS
      have hbz : ¬ badV Val.zero = true := by decide +kernel
      by_cases h3 : badV a = true
      · rw [if_pos (show badV a = true ∨ badV Val.zero = true from .inl h3), if_pos (show badV a = true ∨ badV b = true from .inl h3)]
      · rw [if_neg (show ¬ (badV a = true ∨ badV Val.zero = true) from fun h => h.elim h3 hbz), if_neg (show ¬ (badV a = true ∨ badV b = true) from fun h => h.elim h3 h1), if_pos (show a.k = 0 ∨ Val.zero.k = 0 from .inr rfl), if_pos (show a.k = 0 ∨ b.k = 0 from .inr h2)]
    · rw [if_neg h2] at h0 ho ⊢
      by_cases h3 : I64 (-b.n)
      · rw [if_pos h3] at ho ⊢
        have hk := badV_of b h1
        have hnb : ¬ badV ⟨b.k, -b.n, ⟨#[]⟩⟩ = true := bad_num _ _ _ (by omega)
        have hw : worth ⟨b.k, -b.n, ⟨#[]⟩⟩ = -worth b := by unfold worth; dsimp only; split <;> omega
        have hi : I64 (-worth b) ↔ I64 (worth b) := by
          have h4 := hb.2.2
          unfold worth
          unfold I64 at *
          split <;> omega
        unfold doS
        by_cases h4 : badV a = true
        · rw [if_pos (show badV a = true ∨ badV ⟨b.k, -b.n, ⟨#[]⟩⟩ = true from .inl h4), if_pos (show badV a = true ∨ badV b = true from .inl h4)]
        · rw [if_neg (show ¬ (badV a = true ∨ badV ⟨b.k, -b.n, ⟨#[]⟩⟩ = true) from fun h => h.elim h4 hnb), if_neg (show ¬ (badV a = true ∨ badV b = true) from fun h => h.elim h4 h1)]
          dsimp only
          rw [hw, ← nSub_add, ← nSub_add]
          simp only [hi]
      · rw [if_neg h3] at h0; exact absurd h0 (by decide)
end Go.Proofs.Ytlmjcifiofobpaa
