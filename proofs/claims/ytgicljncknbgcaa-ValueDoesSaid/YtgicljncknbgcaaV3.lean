/- Package value: what the document's answer tells of it. -/
import Derived.Test.YtgicljncknbgcaaV2
namespace Go.Proofs.Ytgicljncknbgcaa.Abs
open Go
set_option linter.unusedVariables false
set_option linter.unusedSimpArgs false

theorem r2_Number_is (N : Nat) (v : T_Value) : r2_Number N v = some (decide (v.1 = 1 ∨ v.1 = 2)) := by
  unfold r2_Number
  by_cases h1 : v.1 = 1
  · simp [h1]
  · by_cases h2 : v.1 = 2
    · simp [h2]
    · have e1 : (v.1 == 1) = false := by simpa using h1
      have e2 : (v.1 == 2) = false := by simpa using h2
      simp [e1, e2, h1, h2]
theorem r2_Kind_is (N : Nat) (hN : 4 ≤ N) (a b : T_Value) : r2_Kind N [a, b] = some (if badV a ∨ badV b then 9 else if a.1 = 0 ∨ b.1 = 0 then 0 else if a.1 = 1 ∧ b.1 = 1 then 1 else 2) := by
  obtain ⟨n, rfl⟩ : ∃ n, N = n + 4 := ⟨N - 4, by omega⟩
  have ea := r2_Number_is (n + 4) a
  have eb := r2_Number_is (n + 4) b
  unfold r2_Kind r2_Kind_t
  by_cases h1 : badV a
  · rw [decide_eq_false h1.1] at ea
    have e0 : (a.1 != 0) = true := by simpa using h1.2
    simp [iter, r2_Kind_B1, r2_Kind_B1t, inR, nthD, ea, e0, h1]
  have n1 : (a.1 = 1 ∨ a.1 = 2) ∨ a.1 = 0 := by unfold badV at h1; omega
  by_cases h2 : badV b
  · rw [decide_eq_false h2.1] at eb
    have e0 : (b.1 != 0) = true := by simpa using h2.2
    rcases n1 with n1 | n1
    · rw [decide_eq_true n1] at ea
      simp [iter, r2_Kind_B1, r2_Kind_B1t, inR, nthD, ea, eb, e0, h2, i1]
    · rw [decide_eq_false (by omega)] at ea
      simp [iter, r2_Kind_B1, r2_Kind_B1t, inR, nthD, ea, eb, e0, h2, n1, i1]
  have n2 : (b.1 = 1 ∨ b.1 = 2) ∨ b.1 = 0 := by unfold badV at h2; omega
  rw [if_neg (fun h => h.elim h1 h2)]
  rcases n1 with (n1 | n1) | n1 <;> rcases n2 with (n2 | n2) | n2 <;> (rw [n1] at ea; rw [n2] at eb; simp at ea eb; simp [iter, r2_Kind_B1, r2_Kind_B1t, r2_Kind_B2, inR, nthD, ea, eb, n1, n2, i1, i2, i3])
section
variable {M N : Nat} (hN : 100000 ≤ M) (hl : M ≤ N ∧ M ≤ 1000000000)
include hN hl
theorem Worth_tells {v : T_Value} (h : I64 v.2.1) (hk : v.1 = 1 ∨ v.1 = 2) : Tells (r2_Worth N v) fun x => Can x (worth v) 11 := by
  unfold r2_Worth
  refine Tells.ite (fun c => ?_) (fun c => ?_)
  · have h1 : v.1 = 1 := by simpa using c
    rw [worth1 h1]
    refine Tells.bind (r1_Of_tells h.1 h.2 (by omega)) fun x hx => Tells.bind (r1_Of_tells (n := 10000) (by omega) (by omega) (by omega)) fun u hu => ?_
    exact Tells.bind (r1_Mul_tells hx hu (by omega) hl) fun r hr => Tells.some hr
  · have h2 : v.1 = 2 := by have : v.1 ≠ 1 := by simpa using c
                            omega
    rw [worth2 h2]
    exact Tells.bind (r1_Of_tells h.1 h.2 (by omega)) fun x hx => Tells.some (hx.mono (by omega))
theorem As1_tells {v : T_Value} (h : I64 v.2.1) (hk : v.1 = 1) : Tells (r2_As N v 1) fun r => r = ((1, v.2.1, [], ()), 0, ()) := by
  unfold r2_As
  refine Tells.bind (r1_Of_tells h.1 h.2 (by omega)) fun x hx => ?_
  have e : (v.1 == 1) = true := by rw [hk]; rfl
  refine Tells.ok e (Tells.no rfl ?_)
  refine Tells.bind (r1_Int_tells hx (by omega) hl) fun r hr => ?_
  rw [intE_in h] at hr
  subst hr
  exact Tells.some rfl
theorem As2_tells {v : T_Value} (h : I64 v.2.1) (hk : v.1 = 1 ∨ v.1 = 2) : Tells (r2_As N v 2) fun r => r = if I64 (worth v) then ((2, worth v, [], ()), 0, ()) else (vNone, 9, ()) := by
  unfold r2_As
  refine Tells.bind (r1_Of_tells h.1 h.2 (by omega)) fun x hx => ?_
  refine Tells.ite (fun c => ?_) (fun c => ?_)
  · refine Tells.ok rfl (Tells.bind (Worth_tells hN hl h hk) fun y hy => Tells.bind (r1_Int_tells hy (by omega) hl) fun r hr => ?_)
    by_cases hw : I64 (worth v)
    · rw [intE_in hw] at hr; subst hr; rw [if_pos hw]; exact Tells.some rfl
    · rw [intE_out hw] at hr; subst hr; rw [if_neg hw]; exact Tells.some rfl
  · have h2 : v.1 = 2 := by have : v.1 ≠ 1 := by simpa using c
                            omega
    have hw : I64 (worth v) := by rw [worth2 h2]; exact h
    refine Tells.bind (r1_Int_tells hx (by omega) hl) fun r hr => ?_
    rw [if_pos hw, worth2 h2]
    rw [intE_in h] at hr; subst hr; exact Tells.some rfl
theorem B1_tells {n : Nat} {r v : Int} {neg : Bool} {d : List Int} {e : Int × Int × List UInt8 × Int × Int × List UInt8 × Int × Int × List UInt8 × Int × Int × List UInt8 × Bool × List Int × Bool × List Int × Bool × List Int × Bool × List Int} (hx : Can (neg, d, ()) v n) (hn : n ≤ 50)
    (he : e.2.2.2.2.2.2.2.2.2.2.2.2.2.2.2.2.2.2 = (neg, d)) : Tells (r2_Do_B1 N r e) fun q => q = finV r (intE v) := by
  obtain ⟨z1, z2, z3, z4, z5, z6, z7, z8, z9, z10, z11, z12, z13, z14, z15, z16, z17, z18, z19, z20⟩ := e
  simp only [Prod.mk.injEq] at he
  obtain ⟨rfl, rfl⟩ := he
  unfold r2_Do_B1
  refine Tells.bind (r1_Int_tells hx (by omega) hl) fun q hq => ?_
  subst hq
  unfold finV
  by_cases h : (intE v).2.1 = 0
  · rw [if_neg (by simpa using h)]
    exact Tells.no (by simpa using h) (Tells.some rfl)
  · rw [if_pos h]
    exact Tells.ok (by simpa using h) (Tells.some rfl)
/-- both given as they are, in units or not -/
theorem two_tells {op r : Int} {g : Int → Int → Int × Int × Unit} {u w : Int} {x y t : T_N1} (hu : I64 u) (hw : I64 w) (hx : Can x u 5) (hy : Can y w 5) (ht : Can t 10000 5)
    (hr : r = 1 ∨ r = 2)
    (hop : (op = 43 ∧ g = gAdd) ∨ (op = 45 ∧ g = gSub) ∨ (op = 42 ∧ g = if r = 1 then gMul else hMul) ∨ (op = 47 ∧ g = if r = 1 then gQuo else hQuo))
    {z1 z4 z7 z10 z2 z5 z8 : Int} {z3 z6 z9 z12 : List UInt8} :
    Tells (bif (op == 43) then
            (r1_Add N x y).bind fun (r6 : T_N1) =>
            at1 N (r2_Do_B1 N r (z1, z2, z3, z4, z5, z6, z7, z8, z9, z10, w, z12, x.1, x.2.1, y.1, y.2.1, t.1, t.2.1, r6.1, r6.2.1))
          else
            bif (op == 45) then
              (r1_Sub N x y).bind fun (r7 : T_N1) =>
              at1 N (r2_Do_B1 N r (z1, z2, z3, z4, z5, z6, z7, z8, z9, z10, w, z12, x.1, x.2.1, y.1, y.2.1, t.1, t.2.1, r7.1, r7.2.1))
            else
              bif (op == 42) then
                bif (r == 1) then
                  (r1_Mul N x y).bind fun (r8 : T_N1) =>
                  at1 N (r2_Do_B1 N r (z1, z2, z3, z4, z5, z6, z7, z8, z9, z10, w, z12, x.1, x.2.1, y.1, y.2.1, t.1, t.2.1, r8.1, r8.2.1))
                else
                  at1 N (r2_Do_B2 N op r z1 z2 z3 z4 z5 z6 z7 z8 z9 z10 w z12 x.1 x.2.1 y.1 y.2.1 t.1 t.2.1 ())
              else
                at1 N (r2_Do_B2 N op r z1 z2 z3 z4 z5 z6 z7 z8 z9 z10 w z12 x.1 x.2.1 y.1 y.2.1 t.1 t.2.1 ())) fun q => q = finV r (g u w) := by
  have h0 : 0 < N := by omega
  have e10 : (10000 : Int) ≠ 0 := by omega
  simp only [at1_pos h0]
  rcases hop with ⟨rfl, rfl⟩ | ⟨rfl, rfl⟩ | ⟨rfl, rfl⟩ | ⟨rfl, rfl⟩
  · exact Tells.ok rfl (Tells.bind (r1_Add_tells hx hy (by omega) hl) fun q hq => B1_tells hN hl hq (by omega) rfl)
  · exact Tells.no rfl (Tells.ok rfl (Tells.bind (r1_Sub_tells hx hy (by omega) hl) fun q hq => B1_tells hN hl hq (by omega) rfl))
  · refine Tells.no rfl (Tells.no rfl (Tells.ok rfl ?_))
    rcases hr with rfl | rfl
    · exact Tells.ok rfl (Tells.bind (r1_Mul_tells hx hy (by omega) hl) fun q hq => B1_tells hN hl hq (by omega) rfl)
    · refine Tells.no rfl ?_
      unfold r2_Do_B2 r2_Do_B2t
      simp only [at1_pos h0]
      refine Tells.ok rfl (Tells.bind (r1_Mul_tells hx hy (by omega) hl) fun q hq => Tells.bind (r1_Even_tells hq ht e10 (by omega) hl) fun s hs => B1_tells hN hl hs (by omega) rfl)
  · refine Tells.no rfl (Tells.no rfl (Tells.no rfl ?_))
    unfold r2_Do_B2 r2_Do_B2t
    simp only [at1_pos h0]
    refine Tells.no rfl ?_
    by_cases hw0 : w = 0
    · refine Tells.ok (by simpa using hw0) (Tells.some ?_)
      subst hw0
      rcases hr with rfl | rfl <;> rfl
    · refine Tells.no (by simpa using hw0) ?_
      rcases hr with rfl | rfl
      · refine Tells.ok rfl (Tells.bind (r1_Quo_tells hx hy hw0 (by omega) hl) fun q hq => (B1_tells hN hl hq.1 (by omega) rfl).mono fun s hs => ?_)
        rw [hs, if_pos rfl]; unfold gQuo; rw [if_neg hw0]
      · refine Tells.no rfl (Tells.bind (r1_Mul_tells hx ht (by omega) hl) fun q hq => Tells.bind (r1_Even_tells hq hy hw0 (by omega) hl) fun s hs => (B1_tells hN hl hs (by omega) rfl).mono fun s hs => ?_)
        rw [hs, if_neg (by omega)]; unfold hQuo; rw [if_neg hw0]
theorem r2_Do_is {op : Int} {g h : Int → Int → Int × Int × Unit} (a b : T_Value) (ha : I64 a.2.1) (hb : I64 b.2.1)
    (hop : (op = 43 ∧ g = gAdd ∧ h = gAdd) ∨ (op = 45 ∧ g = gSub ∧ h = gSub) ∨ (op = 42 ∧ g = gMul ∧ h = hMul) ∨ (op = 47 ∧ g = gQuo ∧ h = hQuo)) : r2_Do N op a b = some (doS g h a b) := by
  refine Tells.get ?_
  unfold r2_Do r2_Do_t doS
  refine Tells.bindE (r2_Kind_is N (by omega) a b) ?_
  by_cases h1 : badV a ∨ badV b
  · rw [if_pos h1, if_pos h1]; exact Tells.ok rfl (Tells.some rfl)
  rw [if_neg h1, if_neg h1]
  by_cases h2 : a.1 = 0 ∨ b.1 = 0
  · rw [if_pos h2, if_pos h2]; exact Tells.no rfl (Tells.ok rfl (Tells.some rfl))
  rw [if_neg h2, if_neg h2]
  have n1 : a.1 = 1 ∨ a.1 = 2 := by
    have : ¬ badV a := fun h => h1 (.inl h)
    unfold badV at this; omega
  have n2 : b.1 = 1 ∨ b.1 = 2 := by
    have : ¬ badV b := fun h => h1 (.inr h)
    unfold badV at this; omega
  by_cases h3 : a.1 = 1 ∧ b.1 = 1
  · rw [if_pos h3, if_pos h3]
    refine Tells.no rfl (Tells.no rfl ?_)
    refine Tells.bind (As1_tells hN hl ha h3.1) fun q hq => ?_
    subst hq
    refine Tells.no rfl (Tells.bind (As1_tells hN hl hb h3.2) fun q hq => ?_)
    subst hq
    refine Tells.no rfl (Tells.bind (r1_Of_tells ha.1 ha.2 (by omega)) fun x hx => Tells.bind (r1_Of_tells hb.1 hb.2 (by omega)) fun y hy => Tells.bind (r1_Of_tells (n := 10000) (by omega) (by omega) (by omega)) fun t ht => ?_)
    refine two_tells hN hl ha hb hx hy ht (.inl rfl) ?_
    rcases hop with ⟨h, rfl, rfl⟩ | ⟨h, rfl, rfl⟩ | ⟨h, rfl, rfl⟩ | ⟨h, rfl, rfl⟩
    · exact .inl ⟨h, rfl⟩
    · exact .inr (.inl ⟨h, rfl⟩)
    · exact .inr (.inr (.inl ⟨h, rfl⟩))
    · exact .inr (.inr (.inr ⟨h, rfl⟩))
  · rw [if_neg h3, if_neg h3]
    refine Tells.no rfl (Tells.no rfl ?_)
    refine Tells.bind (As2_tells hN hl ha n1) fun q hq => ?_
    subst hq
    by_cases k1 : I64 (worth a)
    · rw [if_pos k1]
      refine Tells.no rfl (Tells.bind (As2_tells hN hl hb n2) fun q hq => ?_)
      subst hq
      by_cases k2 : I64 (worth b)
      · rw [if_pos k2, if_neg (fun h => h.elim (fun h => h k1) (fun h => h k2))]
        refine Tells.no rfl (Tells.bind (r1_Of_tells k1.1 k1.2 (by omega)) fun x hx => Tells.bind (r1_Of_tells k2.1 k2.2 (by omega)) fun y hy => Tells.bind (r1_Of_tells (n := 10000) (by omega) (by omega) (by omega)) fun t ht => ?_)
        refine two_tells hN hl k1 k2 hx hy ht (.inr rfl) ?_
        rcases hop with ⟨h, rfl, rfl⟩ | ⟨h, rfl, rfl⟩ | ⟨h, rfl, rfl⟩ | ⟨h, rfl, rfl⟩
        · exact .inl ⟨h, rfl⟩
        · exact .inr (.inl ⟨h, rfl⟩)
        · exact .inr (.inr (.inl ⟨h, rfl⟩))
        · exact .inr (.inr (.inr ⟨h, rfl⟩))
      · rw [if_neg k2, if_pos (.inr k2)]
        exact Tells.ok rfl (Tells.some rfl)
    · rw [if_neg k1, if_pos (.inl k1)]
      exact Tells.ok rfl (Tells.some rfl)
theorem r2_Compare_is (a b : T_Value) (ha : I64 a.2.1) (hb : I64 b.2.1) (hO : r2_Order N a b = some (ordV a b)) : r2_Compare N a b = some (cmpV a b) := by
  refine Tells.get ?_
  have h0 : 0 < N := by omega
  have hB : ¬ ((a.1 = 1 ∨ a.1 = 2) ∧ (b.1 = 1 ∨ b.1 = 2)) → Tells (r2_Compare_B1 N a.1 a.2.1 a.2.2.1 b.1 b.2.1 b.2.2.1 ()) fun q => q = cmpV a b := by
    intro h
    unfold r2_Compare_B1 cmpV
    rw [if_neg h]
    have hO : r2_Order N (a.1, a.2.1, a.2.2.1, ()) (b.1, b.2.1, b.2.2.1, ()) = some (ordV a b) := hO
    by_cases h1 : a.1 = b.1
    · refine Tells.ok (by simpa using h1) ?_
      by_cases h2 : 3 ≤ a.1
      · refine Tells.ok (by simpa using h2) ?_
        by_cases h3 : a.1 ≤ 5
        · rw [if_pos ⟨h1, h2, h3⟩]
          exact Tells.ok (by simpa using h3) (Tells.bindE hO (Tells.some rfl))
        · rw [if_neg (by omega)]
          exact Tells.no (by simpa using h3) (Tells.some rfl)
      · rw [if_neg (by omega)]
        exact Tells.no (by simpa using h2) (Tells.some rfl)
    · rw [if_neg (by omega)]
      exact Tells.no (by simpa using h1) (Tells.some rfl)
  unfold r2_Compare r2_Compare_t
  simp only [at1_pos h0]
  refine Tells.bindE (r2_Number_is N a) ?_
  refine Tells.dec (fun c1 => Tells.bindE (r2_Number_is N b) (Tells.dec (fun c2 => ?_) (fun c2 => hB fun h => c2 h.2))) (fun c1 => hB fun h => c1 h.1)
  refine Tells.bind (Worth_tells hN hl ha c1) fun x hx => Tells.bind (Worth_tells hN hl hb c2) fun y hy => Tells.bind (r1_Cmp_tells hx hy (by omega) hl) fun q hq => Tells.some ?_
  rw [show cmpV a b = (cmpI (worth a) (worth b), true, ()) from if_pos ⟨c1, c2⟩, hq]
  unfold cmpI
  by_cases k1 : worth a < worth b
  · rw [if_pos k1, if_pos k1]
  · rw [if_neg k1, if_neg k1]
    by_cases k2 : worth a = worth b
    · rw [if_pos k2, if_neg (by omega)]
    · rw [if_neg k2, if_pos (by omega)]
end
theorem r2_Order_is (N : Nat) (a b : T_Value) : r2_Order N a b = some (ordV a b) := by
  unfold r2_Order ordV lex
  dsimp only
  have nn : ∀ x y : Int, x ≠ y → (if cmpI x y ≠ 0 then cmpI x y else (0 : Int)) = if x < y then -1 else 1 := by
    intro x y h; unfold cmpI; (repeat' split) <;> omega
  have c0 : ∀ x y : Int, x ≠ y → cmpI x y ≠ 0 ∧ cmpI x y = if x < y then -1 else 1 := by
    intro x y h; unfold cmpI; constructor <;> ((repeat' split) <;> omega)
  have c1 : ∀ x : Int, cmpI x x = 0 := by intro x; unfold cmpI; (repeat' split) <;> omega
  by_cases h1 : a.1 = b.1
  · have e1 : (a.1 != b.1) = false := by simpa using h1
    rw [e1, h1, c1, if_neg (by simp)]
    by_cases h2 : a.2.1 = b.2.1
    · have e2 : (a.2.1 != b.2.1) = false := by simpa using h2
      rw [e2, h2, c1, if_neg (by simp)]
      unfold cmpL
      cases h3 : Op.bytesLess a.2.2.1 b.2.2.1
      · by_cases h4 : a.2.2.1 = b.2.2.1
        · simp [h4]
        · have e4 : (a.2.2.1 == b.2.2.1) = false := by simpa using h4
          simp [h4, e4]
      · simp
    · have e2 : (a.2.1 != b.2.1) = true := by simpa using h2
      obtain ⟨k1, k2⟩ := c0 _ _ h2
      rw [e2, if_pos k1, k2]
      by_cases h3 : a.2.1 < b.2.1 <;> simp [h3]
  · have e1 : (a.1 != b.1) = true := by simpa using h1
    obtain ⟨k1, k2⟩ := c0 _ _ h1
    rw [e1, if_pos k1, k2]
    by_cases h3 : a.1 < b.1 <;> simp [h3]
end Go.Proofs.Ytgicljncknbgcaa.Abs
namespace Go.Proofs.Ytgicljncknbgcaa.Abs
open Go
set_option linter.unusedVariables false
set_option linter.unusedSimpArgs false

theorem byteAt_nat {s : List UInt8} {k : Nat} (h : k < s.length) : byteAt s (k : Int) = ((s[k]).toNat : Int) := by
  simp [byteAt, nthD, List.getD, h]
theorem any_take {s : List UInt8} {p : UInt8 → Bool} {k : Nat} (h : k < s.length) (h1 : (s.take k).any p = false) (h2 : p (s[k]) = false) : (s.take (k + 1)).any p = false := by
  rw [List.take_succ_eq_append_getElem h, List.any_append, h1]
  simp [h2]
theorem any_at {s : List UInt8} {p : UInt8 → Bool} {k : Nat} (h : k < s.length) (h2 : p (s[k]) = true) : s.any p = true := List.any_eq_true.2 ⟨_, List.getElem_mem h, h2⟩
theorem text_tells (N : Nat) (k n : Int) (s : List UInt8) (hs : s.length < N) (hm : s.length ≤ 9223372036854775807) : Tells (iter (r2_May_B1 N k n s) N 0) fun r => r = ((n == 0) && textB s) := by
  refine Tells.iter (fun (i : Int) => ∃ j : Nat, i = (j : Int) ∧ j ≤ s.length ∧ (s.take j).any oddB = false) (fun (i : Int) => s.length - i.toNat) ?_ N 0 ⟨0, rfl, by omega, by simp⟩ (by simpa using hs)
  rintro K i ⟨j, rfl, hj, hany⟩ hK
  unfold r2_May_B1
  refine Tells.dec (fun c => ?_) (fun c => ?_)
  · have hj : j < s.length := by omega
    refine Tells.ok (inRt (by omega) (by omega)) ?_
    rw [byteAt_nat hj]
    have bad : oddB s[j] = true → ((n == 0) && textB s) = false := fun h => by unfold textB; rw [any_at hj h]; simp
    refine Tells.dec (fun c1 => Tells.some (bad (by unfold oddB; rw [decide_eq_true (by omega)]; rfl)).symm) (fun c1 => ?_)
    refine Tells.ok (inRt (by omega) (by omega)) ?_
    refine Tells.dec (fun c2 => Tells.some (bad (by unfold oddB; rw [decide_eq_true (p := 126 < _) (by omega)]; simp)).symm) (fun c2 => ?_)
    refine Tells.ok (inI (by omega) (by omega)) ?_
    exact hK _ ⟨j + 1, rfl, by omega, any_take hj hany (by unfold oddB; rw [decide_eq_false (by omega), decide_eq_false (by omega)]; rfl)⟩ (by omega)
  · have e : s.take j = s := List.take_of_length_le (by omega)
    rw [e] at hany
    refine Tells.ite (fun c1 => Tells.some ?_) (fun c1 => Tells.some ?_)
    · rw [c1]; unfold textB; rw [hany]; simp; omega
    · rw [c1]; rfl
theorem name_tells (N : Nat) (s : List UInt8) (hN : 100 ≤ N) : Tells (r2_Name N s) fun r => r = nameB s := by
  unfold r2_Name r2_Name_t
  have len0 : headB s = true → 1 ≤ s.length ∧ s.length ≤ 12 := by
    cases s with
    | nil => intro h; cases h
    | cons c l => intro h; unfold headB at h; simp at h; simp; omega
  have badh : headB s = false → nameB s = false := fun h => by unfold nameB; rw [h]; rfl
  have hd : ¬ (1 ≤ s.length ∧ s.length ≤ 12) → nameB s = false := fun h => badh (by cases hh : headB s <;> first | rfl | exact absurd (len0 hh) h)
  refine Tells.dec (fun c => Tells.some (hd (by omega)).symm) (fun c => Tells.dec (fun c2 => Tells.some (hd (by omega)).symm) (fun c2 => ?_))
  have h0 : 0 < s.length := by omega
  have hh : headB s = (decide (97 ≤ (s[0]).toNat) && decide ((s[0]).toNat ≤ 122)) := by
    cases s with
    | nil => simp at h0
    | cons x l => unfold headB; simp at c2; simp; omega
  refine Tells.iter (fun (i : Int) => ∃ j : Nat, i = (j : Int) ∧ j ≤ s.length ∧ (0 < j → headB s = true) ∧ (s.take j).any strangeB = false) (fun (i : Int) => s.length - i.toNat) ?_ N 0 ⟨0, rfl, by omega, fun h => absurd h (by omega), by simp⟩ (by omega)
  rintro K i ⟨j, rfl, hj, hhead, hany⟩ hK
  unfold r2_Name_B1
  refine Tells.dec (fun c => ?_) (fun c => ?_)
  · have hj : j < s.length := by omega
    have bt := byteAt_nat hj
    have hr : inR (j : Int) s.length = true := inRt (by omega) (by omega)
    have hi : inI64 ((j : Int) + 1) = true := inI (by omega) (by omega)
    have bad : strangeB s[j] = true → nameB s = false := fun h => by unfold nameB; rw [any_at hj h]; simp
    have next : (0 < j + 1 → headB s = true) → strangeB s[j] = false → Tells (K ((j : Int) + 1)) fun r => r = nameB s := fun h1 h2 => hK _ ⟨j + 1, rfl, by omega, h1, any_take hj hany h2⟩ (by omega)
    have lt256 : (s[j]).toNat < 256 := UInt8.toNat_lt _
    refine Tells.ok hr ?_
    rw [bt]
    refine Tells.dec (fun c1 => ?_) (fun c1 => ?_)
    · refine Tells.ok hr ?_
      by_cases c3 : ((s[j]).toNat : Int) ≤ 122
      · refine Tells.no (by rw [decide_eq_true c3]; rfl) (Tells.ok hi (next (fun _ => ?_) (by unfold strangeB; rw [decide_eq_false (by omega), decide_eq_false (by omega)]; rfl)))
        by_cases hj0 : 0 < j
        · exact hhead hj0
        · have : j = 0 := by omega
          subst this
          rw [hh, decide_eq_true (by omega), decide_eq_true (by omega)]; rfl
      · refine Tells.ok (by rw [decide_eq_false c3]; rfl) ?_
        have hb : strangeB s[j] = true := by unfold strangeB; rw [decide_eq_true (p := 122 < _) (by omega), decide_eq_true (p := 57 < _) (by omega)]; simp
        refine Tells.ite (fun _ => Tells.some (bad hb).symm) (fun _ => Tells.ok hr (Tells.dec (fun _ => Tells.some (bad hb).symm) (fun _ => Tells.ok hr (Tells.dec (fun _ => Tells.some (bad hb).symm) (fun h => absurd h (by omega))))))
    · refine Tells.ite (fun c3 => Tells.some ?_) (fun c3 => ?_)
      · have : j = 0 := by have : (j : Int) = 0 := by simpa using c3
                           omega
        subst this
        exact (badh (by rw [hh, decide_eq_false (by omega)]; rfl)).symm
      · have hj0 : 0 < j := by have : (j : Int) ≠ 0 := by simpa using c3
                               omega
        have e : decide ((s[j]).toNat < 97) = true := by rw [decide_eq_true]; omega
        refine Tells.ok hr (Tells.dec (fun c4 => Tells.some (bad ?_).symm) (fun c4 => Tells.ok hr (Tells.dec (fun c5 => Tells.some (bad ?_).symm) (fun c5 => Tells.ok hi (next (fun _ => hhead hj0) ?_)))))
        · unfold strangeB; rw [e, decide_eq_true (p := (s[j]).toNat < 48) (by omega)]; rfl
        · unfold strangeB; rw [e, decide_eq_true (p := 57 < _) (by omega)]; simp
        · unfold strangeB; rw [decide_eq_false (p := (s[j]).toNat < 48) (by omega), decide_eq_false (p := 57 < _) (by omega)]; simp
  · have e : s.take j = s := List.take_of_length_le (by omega)
    rw [e] at hany
    refine Tells.some ?_
    unfold nameB
    rw [hhead (by omega), hany]; rfl
theorem May_same (N : Nat) (v : T_Value) (hs : v.2.2.1.length < N) (hm : v.2.2.1.length ≤ 9223372036854775807) (hN : 100 ≤ N) : ∃ r, value_May N v = some r ∧ r2_May N v = some r := by
  have ht := text_tells N v.1 v.2.1 v.2.2.1 hs hm
  have hn := name_tells N v.2.2.1 hN
  obtain ⟨k, n, s, u⟩ := v
  dsimp only at *
  unfold value_May r2_May r2_May_t value_isText value_isName
  dsimp only
  obtain ⟨t, ht, rfl⟩ := ht
  obtain ⟨m, hn, rfl⟩ := hn
  rw [hn]
  by_cases h0 : k = 0
  · subst h0
    by_cases h : n = 0
    · subst h; exact ⟨_, rfl, by simp⟩
    · have e : (n == 0) = false := by simpa using h
      exact ⟨_, rfl, by simp [e]⟩
  have e0 : (k == 0) = false := by simpa using h0
  rw [e0]
  by_cases h1 : k = 1
  · subst h1; exact ⟨_, rfl, rfl⟩
  have e1 : (k == 1) = false := by simpa using h1
  rw [e1]
  by_cases h2 : k = 2
  · subst h2; exact ⟨_, rfl, rfl⟩
  have e2 : (k == 2) = false := by simpa using h2
  rw [e2]
  by_cases h3 : k = 3
  · subst h3
    refine ⟨_, ?_, ht⟩
    cases h : n == 0 <;> rfl
  have e3 : (k == 3) = false := by simpa using h3
  rw [e3]
  by_cases h4 : k = 4
  · subst h4
    cases s == [] <;> cases n == 0 <;> exact ⟨_, rfl, rfl⟩
  have e4 : (k == 4) = false := by simpa using h4
  rw [e4]
  cases k == 5 <;> cases n == 0 <;> exact ⟨_, rfl, rfl⟩
theorem known2 (M : Nat) : w2_known (M + 100) = some true := by kernel_rfl
theorem doS_zero (v w : T_Value) (a : T_Value) (hv : v.2.1 = 0) (hw : w.2.1 = 0) (hk : v.1 = w.1 ∨ badV a) (hb : ¬ badV v ∧ ¬ badV w) : doS gSub gSub v a = doS gSub gSub w a := by
  rcases hk with hk | hk
  · obtain ⟨k, n, s, u⟩ := v
    obtain ⟨k', n', s', u'⟩ := w
    dsimp only at hv hw hk
    subst hv hw hk
    rfl
  · unfold doS; rw [if_pos (.inr hk), if_pos (.inr hk)]
theorem w2_ValueDoes_is {M N : Nat} (hN : 100000 ≤ M) (hl : M ≤ N ∧ M ≤ 1000000000) (a b : T_Value) (ha : WfV a) (hb : I64 b.2.1) (hs : a.2.2.1.length < N) (hm : a.2.2.1.length ≤ 9223372036854775807) : w2_ValueDoes N a b = some true := by
  obtain ⟨k0, k1, ha⟩ := ha
  obtain ⟨m, hm1, hm2⟩ := May_same N a hs hm (by omega)
  have hk : w2_known N = some true := by
    have := known2 (N - 100)
    rwa [show N - 100 + 100 = N by omega] at this
  unfold w2_ValueDoes
  have z : ∀ x : T_Value, ((x.1 == x.1) && ((x.2.1 == x.2.1) && ((x.2.2.1 == x.2.2.1) && true))) = true := fun x => by simp
  rw [hm1, hm2, value_Order_is N (by omega), r2_Order_is, value_Compare_is N (by omega) a b ha hb, r2_Compare_is hN hl a b ha hb (r2_Order_is N a b),
    value_Add_is N (by omega) a b ha hb, value_Sub_is N (by omega) a b ha hb, value_Mul_is N (by omega) a b ha hb, value_Div_is N (by omega) a b ha hb,
    r2_Do_is hN hl a b ha hb (.inl ⟨rfl, rfl, rfl⟩), r2_Do_is hN hl a b ha hb (.inr (.inl ⟨rfl, rfl, rfl⟩)), r2_Do_is hN hl a b ha hb (.inr (.inr (.inl ⟨rfl, rfl, rfl⟩))), r2_Do_is hN hl a b ha hb (.inr (.inr (.inr ⟨rfl, rfl, rfl⟩)))]
  have hneg : ∃ r, value_Neg N a = some r ∧ r2_Neg N a = some r := by
    have i0 : I64 0 := by unfold I64; omega
    unfold value_Neg r2_Neg
    rw [value_Sub_is N (by omega) _ a i0 ha, r2_Do_is hN hl _ a i0 ha (.inr (.inl ⟨rfl, rfl, rfl⟩)), r2_Do_is hN hl _ a i0 ha (.inr (.inl ⟨rfl, rfl, rfl⟩))]
    refine ⟨_, rfl, ?_⟩
    have nb : ∀ k : Int, k = 1 ∨ k = 2 → ¬ badV (k, 0, [], ()) := fun k h => by unfold badV; simp; omega
    have hmm : iMax (iMin a.1 2) 1 = 1 ∨ iMax (iMin a.1 2) 1 = 2 := by unfold iMax iMin; (repeat' split) <;> omega
    by_cases h2 : a.1 = 2
    · rw [h2]; rfl
    · have e : (a.1 == 2) = false := by simpa using h2
      rw [e]
      simp only [Option.bind_some, cond_false]
      congr 1
      refine doS_zero _ _ a rfl rfl ?_ ⟨nb _ (.inl rfl), nb _ hmm⟩
      dsimp only
      by_cases hb : badV a
      · exact .inr hb
      · left
        unfold badV at hb
        unfold iMax iMin
        (repeat' split) <;> omega
  obtain ⟨r, hn1, hn2⟩ := hneg
  rw [hn1, hn2]
  simp [hk]
end Go.Proofs.Ytgicljncknbgcaa.Abs
