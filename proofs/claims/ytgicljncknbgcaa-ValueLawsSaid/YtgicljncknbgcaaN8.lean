/- Division of 128 bits. -/
import Derived.Test.YtgicljncknbgcaaN7
namespace Go.Proofs.Ytgicljncknbgcaa.Abs
open Go
set_option linter.unusedVariables false
set_option linter.unusedSimpArgs false

theorem wrap3 (U c q Y R : Nat) (h : q * Y + R = U * 4294967296 + c) (hR : R < 18446744073709551616) :
    IntKind.u64.wrap (IntKind.u64.wrap (IntKind.u64.wrap ((U : Int) * 4294967296) + (c : Int)) - IntKind.u64.wrap ((q : Int) * (Y : Int))) = (R : Int) := by
  simp only [IntKind.wrap_u64]
  have e : (q : Int) * (Y : Int) = ((q * Y : Nat) : Int) := by simp
  rw [e]
  generalize q * Y = a at *
  omega
/-- the search of one digit: where it stands -/
structure DigI (U c Y1 Y0 q r : Nat) : Prop where
  sum : q * Y1 + r = U
  r : r < 4294967296
  le : (U * 4294967296 + c) / (Y1 * 4294967296 + Y0) ≤ q
  lim : q ≤ 4294967297
/-- one round -/
theorem dig_round {β : Type} {P : β → Prop} {U c Y1 Y0 q r : Nat} {done : Int → Option β} {K : Int → Int → Option β} (hY1 : 2147483648 ≤ Y1) (hY1' : Y1 < 4294967296) (hY0 : Y0 < 4294967296) (hc : c < 4294967296) (hQ : (U * 4294967296 + c) / (Y1 * 4294967296 + Y0) < 4294967296) (h : DigI U c Y1 Y0 q r)
    (hd : ∀ p : Nat, Div1 U c (Y1 * 4294967296 + Y0) p → Tells (done (p : Int)) P) (hk : ∀ p s : Nat, DigI U c Y1 Y0 p s → s = r + Y1 → Tells (K (p : Int) (s : Int)) P) :
    Tells (bif decide ((q : Int) ≥ 4294967296) then bif decide (IntKind.u64.wrap ((r : Int) + (Y1 : Int)) ≥ 4294967296) then done (IntKind.u64.wrap ((q : Int) - 1)) else K (IntKind.u64.wrap ((q : Int) - 1)) (IntKind.u64.wrap ((r : Int) + (Y1 : Int)))
      else bif decide (IntKind.u64.wrap ((q : Int) * (Y0 : Int)) > IntKind.u64.wrap (IntKind.u64.wrap (4294967296 * (r : Int)) + (c : Int))) then bif decide (IntKind.u64.wrap ((r : Int) + (Y1 : Int)) ≥ 4294967296) then done (IntKind.u64.wrap ((q : Int) - 1)) else K (IntKind.u64.wrap ((q : Int) - 1)) (IntKind.u64.wrap ((r : Int) + (Y1 : Int)))
      else done (q : Int)) P := by
  obtain ⟨h1, h2, h3, h4⟩ := h
  have hr := wadd (a := r) (b := Y1) (by omega)
  rw [hr]
  have low : (4294967296 ≤ q ∨ 4294967296 * r + c < q * Y0) → Tells (bif decide (((r + Y1 : Nat) : Int) ≥ 4294967296) then done (IntKind.u64.wrap ((q : Int) - 1)) else K (IntKind.u64.wrap ((q : Int) - 1)) ((r + Y1 : Nat) : Int)) P := by
    intro hh
    obtain ⟨t1, t2, t3, t4⟩ := div_down (c := c) hY1 hY0 h1 h4 hc hQ hh
    have e : IntKind.u64.wrap ((q : Int) - 1) = ((q - 1 : Nat) : Int) := by rw [wu (by omega) (by omega)]; omega
    rw [e]
    refine Tells.dec (fun c1 => hd _ (t4 (by omega))) (fun c1 => hk _ _ ⟨t3, by omega, t2, by omega⟩ rfl)
  refine Tells.dec (fun c1 => low (.inl (by omega))) (fun c1 => ?_)
  have hA : q * Y0 ≤ 18446744065119617025 := prod32 (by omega) hY0
  have e1 : IntKind.u64.wrap ((q : Int) * (Y0 : Int)) = ((q * Y0 : Nat) : Int) := by rw [← Int.natCast_mul]; exact wrap_nat _ (by omega)
  have e2 : IntKind.u64.wrap (IntKind.u64.wrap (4294967296 * (r : Int)) + (c : Int)) = ((4294967296 * r + c : Nat) : Int) := by
    rw [wu (n := 4294967296 * (r : Int)) (by omega) (by omega), wu (by omega) (by omega)]
    omega
  rw [e1, e2]
  refine Tells.dec (fun c2 => low (.inr (by omega))) (fun c2 => hd _ (div_here hY1 h1 h3 (by omega)))
/-- the second digit -/
theorem div_second (N : Nat) {U c Y Y1 Y0 s q1 A B : Nat} (hN : 10 ≤ N) (hY : Y = Y1 * 4294967296 + Y0) (hY1 : 2147483648 ≤ Y1) (hY1' : Y1 < 4294967296) (hY0 : Y0 < 4294967296) (hc : c < 4294967296) (hU : U < Y) (hs : s ≤ 63) (hq1 : q1 < 4294967296)
    (hAB : ∀ p R : Nat, Div1 U c Y p → p * Y + R = U * 4294967296 + c → R < Y → q1 * 4294967296 + p = A ∧ R / 2 ^ s = B) :
    Tells (iter (bits_Div64_B2 N (Y : Int) (s : Int) (Y1 : Int) (Y0 : Int) (c : Int) (q1 : Int) (U : Int)) N (IntKind.u64.wrap ((U : Int) - IntKind.u64.wrap (IntKind.u64.wrap (Int.tdiv (U : Int) (Y1 : Int)) * (Y1 : Int))), IntKind.u64.wrap (Int.tdiv (U : Int) (Y1 : Int)))) fun r => r = ((A : Int), (B : Int), ()) := by
  obtain ⟨q0, P0, d1, d2, d3, d4, d5, d6, d7, d8⟩ := div_first (c := c) hY1 hY1' hY0 hc (by rw [← hY]; exact hU)
  have hdone : ∀ p : Nat, Div1 U c (Y1 * 4294967296 + Y0) p → Tells (bif !(decide ((s : Int) < 0)) then some ((IntKind.u64.wrap ((IntKind.u64.wrap ((q1 : Int) * 4294967296)) + (p : Int))), (iShr .u64 (IntKind.u64.wrap ((IntKind.u64.wrap ((IntKind.u64.wrap ((U : Int) * 4294967296)) + (c : Int))) - (IntKind.u64.wrap ((p : Int) * (Y : Int))))) (s : Int)), ()) else none) fun r => r = ((A : Int), (B : Int), ()) := by
    intro p hp
    rw [← hY] at hp
    obtain ⟨t1, t2, t3, t4⟩ := hp.rest (by omega) hU hc
    obtain ⟨R, hR⟩ : ∃ R, R = U * 4294967296 + c - p * Y := ⟨_, rfl⟩
    have hsum : p * Y + R = U * 4294967296 + c := by omega
    obtain ⟨a1, a2⟩ := hAB p R hp hsum (by omega)
    rw [wrap3 U c p Y R hsum (by omega), iShr_nat R s (by omega), a2]
    refine Tells.ok (by simp) (Tells.some ?_)
    rw [wu (n := (q1 : Int) * 4294967296) (by omega) (by omega), wu (by omega) (by omega)]
    rw [show (q1 : Int) * 4294967296 + (p : Int) = (A : Int) by omega]
  refine Tells.iter (fun e => ∃ q r : Nat, e = ((r : Int), (q : Int)) ∧ DigI U c Y1 Y0 q r) (fun e => ((4294967296 - e.1) / 2147483648).toNat) ?_ N _ ⟨q0, U - P0, ?_, ⟨by omega, by omega, d7, d6⟩⟩ ?_
  · rintro K ⟨e1, e2⟩ ⟨q, r, he, hI⟩ hK
    cases he
    unfold bits_Div64_B2
    simp only
    have := dig_round (done := fun p => (bif !(decide ((s : Int) < 0)) then some ((IntKind.u64.wrap ((IntKind.u64.wrap ((q1 : Int) * 4294967296)) + p)), (iShr .u64 (IntKind.u64.wrap ((IntKind.u64.wrap ((IntKind.u64.wrap ((U : Int) * 4294967296)) + (c : Int))) - (IntKind.u64.wrap (p * (Y : Int))))) (s : Int)), ()) else none)) (K := fun p s => K (s, p)) (P := fun r => r = ((A : Int), (B : Int), ())) hY1 hY1' hY0 hc d8 hI hdone (fun p t hp ht => hK _ ⟨p, t, rfl, hp⟩ (by simp only; have := hI.r; have := hp.r; omega))
    exact this
  · rw [tdivE (by omega), d1, wu (n := (q0 : Int)) (by omega) (by omega), d2, wu (n := (P0 : Int)) (by omega) (by omega), wu (by omega) (by omega)]
    congr 1
    omega
  · rw [tdivE (by omega), d1, wu (n := (q0 : Int)) (by omega) (by omega), d2, wu (n := (P0 : Int)) (by omega) (by omega), wu (by omega) (by omega)]
    simp only
    omega
theorem bits_Div64_is (N hi lo y : Nat) (hN : 10 ≤ N) (h1 : lo < 18446744073709551616) (h2 : y < 18446744073709551616) (h3 : hi < y) :
    bits_Div64 N (hi : Int) (lo : Int) (y : Int) = some ((((hi * 18446744073709551616 + lo) / y : Nat) : Int), (((hi * 18446744073709551616 + lo) % y : Nat) : Int), ()) := by
  refine Tells.get ?_
  unfold bits_Div64 bits_Div64_t
  refine Tells.no (by simp; omega) (Tells.no (by simp; omega) ?_)
  refine Tells.ite (fun c => ?_) (fun c => ?_)
  · have c : hi = 0 := by have : (hi : Int) = 0 := by simpa using c
                          omega
    subst c
    refine Tells.ok (by simp; omega) (Tells.ok (by simp; omega) (Tells.some ?_))
    rw [Nat.zero_mul, Nat.zero_add, tdivE (by omega), tmodE (by omega)]
    have h4 : lo / y ≤ lo := Nat.div_le_self _ _
    rw [show (lo : Int) / (y : Int) = ((lo / y : Nat) : Int) by simp, wrap_nat _ (by omega)]
    simp
  · have h0 : 0 < hi := by
      have : ¬ (hi : Int) = 0 := by simpa using c
      omega
    obtain ⟨s, e0, hs, hy1, hy2⟩ := bits_LeadingZeros64_is N y (by omega) h2
    refine Tells.bindE e0 ?_
    have es : IntKind.u64.wrap (s : Int) = (s : Int) := wrap_nat _ (by omega)
    have es2 : IntKind.u64.wrap (64 - (s : Int)) = ((64 - s : Nat) : Int) := by rw [wu (by omega) (by omega)]; omega
    rw [es, es2]
    obtain ⟨hm, hor, hle, hlt⟩ := div_start hi lo y s h0 h1 h3 hs hy1 hy2
    have hpos : 0 < 2 ^ s := Nat.two_pow_pos s
    have hH : hi * 2 ^ s < 18446744073709551616 := by omega
    have hD : lo / 2 ^ (64 - s) < 18446744073709551616 := Nat.lt_of_le_of_lt (Nat.div_le_self _ _) h1
    rw [iShl_nat y s (by omega), iShl_nat hi s (by omega), iShl_nat lo s (by omega), iShr_nat lo (64 - s) (by omega), wrap_nat _ hy2, wrap_nat _ hH]
    have eL : IntKind.u64.wrap ((lo * 2 ^ s : Nat) : Int) = ((lo * 2 ^ s % 18446744073709551616 : Nat) : Int) := by rw [IntKind.wrap_u64]; omega
    rw [eL, iOr_nat _ _ hH hD, hor]
    have hsplit := Nat.div_add_mod ((hi * 18446744073709551616 + lo) * 2 ^ s) 18446744073709551616
    rw [hm] at hsplit
    obtain ⟨Y, hY⟩ : ∃ Y, Y = y * 2 ^ s := ⟨_, rfl⟩
    obtain ⟨U, hU⟩ : ∃ U, U = (hi * 18446744073709551616 + lo) * 2 ^ s / 18446744073709551616 := ⟨_, rfl⟩
    obtain ⟨M, hM⟩ : ∃ M, M = lo * 2 ^ s % 18446744073709551616 := ⟨_, rfl⟩
    rw [← hY, ← hU] at hlt
    rw [← hU, ← hM] at hsplit
    have hM2 : M < 18446744073709551616 := by omega
    rw [← hY, ← hU, ← hM, iShr32, iShr32, iAnd_low Y (by omega), iAnd_low M hM2]
    obtain ⟨Y1, eY1⟩ : ∃ Y1, Y1 = Y / 4294967296 := ⟨_, rfl⟩
    obtain ⟨Y0, eY0⟩ : ∃ Y0, Y0 = Y % 4294967296 := ⟨_, rfl⟩
    obtain ⟨L1, eL1⟩ : ∃ L1, L1 = M / 4294967296 := ⟨_, rfl⟩
    obtain ⟨L0, eL0⟩ : ∃ L0, L0 = M % 4294967296 := ⟨_, rfl⟩
    rw [← eY1, ← eY0, ← eL1, ← eL0]
    have b1 : Y = Y1 * 4294967296 + Y0 := by omega
    have b2 : 2147483648 ≤ Y1 := by omega
    have b3 : Y1 < 4294967296 := by omega
    have b4 : Y0 < 4294967296 := by omega
    have b5 : L1 < 4294967296 := by omega
    have b6 : L0 < 4294967296 := by omega
    have b7 : (hi * 18446744073709551616 + lo) * 2 ^ s = U * 18446744073709551616 + L1 * 4294967296 + L0 := by omega
    clear hsplit hm hor hle hH hD eL hU hM es es2 e0 c eY1 eY0 eL1 eL0
    refine Tells.ok (by simp) (Tells.ok (by simp) (Tells.ok (by simp) (Tells.ok (by simp) (Tells.ok (by simp; omega) ?_))))
    obtain ⟨q0, P0, d1, d2, d3, d4, d5, d6, d7, d8⟩ := div_first (c := L1) b2 b3 b4 b5 (by rw [← b1]; exact hlt)
    rw [tdivE (by omega), d1, wu (n := (q0 : Int)) (by omega) (by omega), d2, wu (n := (P0 : Int)) (by omega) (by omega), wu (n := (U : Int) - (P0 : Int)) (by omega) (by omega)]
    refine Tells.iter (fun e => ∃ q r : Nat, e = ((q : Int), (r : Int)) ∧ DigI U L1 Y1 Y0 q r) (fun e => ((4294967296 - e.2) / 2147483648).toNat) ?_ N _ ⟨q0, U - P0, by congr 1; omega, ⟨by omega, by omega, d7, d6⟩⟩ (by simp only; omega)
    rintro K ⟨e1, e2⟩ ⟨q, r, he, hI⟩ hK
    cases he
    unfold bits_Div64_B1 bits_Div64_B1t
    simp only
    have hdone : ∀ p : Nat, Div1 U L1 (Y1 * 4294967296 + Y0) p → Tells (bif (decide ((Y1 : Int) ≠ 0) && true) then iter (bits_Div64_B2 N (Y : Int) (s : Int) (Y1 : Int) (Y0 : Int) (L0 : Int) (p : Int) (IntKind.u64.wrap ((IntKind.u64.wrap ((IntKind.u64.wrap ((U : Int) * 4294967296)) + (L1 : Int))) - (IntKind.u64.wrap ((p : Int) * (Y : Int)))))) N
        ((IntKind.u64.wrap ((IntKind.u64.wrap ((IntKind.u64.wrap ((IntKind.u64.wrap ((U : Int) * 4294967296)) + (L1 : Int))) - (IntKind.u64.wrap ((p : Int) * (Y : Int))))) - (IntKind.u64.wrap ((IntKind.u64.wrap (Int.tdiv (IntKind.u64.wrap ((IntKind.u64.wrap ((IntKind.u64.wrap ((U : Int) * 4294967296)) + (L1 : Int))) - (IntKind.u64.wrap ((p : Int) * (Y : Int))))) (Y1 : Int))) * (Y1 : Int))))), (IntKind.u64.wrap (Int.tdiv (IntKind.u64.wrap ((IntKind.u64.wrap ((IntKind.u64.wrap ((U : Int) * 4294967296)) + (L1 : Int))) - (IntKind.u64.wrap ((p : Int) * (Y : Int))))) (Y1 : Int)))) else none) fun r => r = ((((hi * 18446744073709551616 + lo) / y : Nat) : Int), (((hi * 18446744073709551616 + lo) % y : Nat) : Int), ()) := by
      intro p hp
      rw [← b1] at hp
      obtain ⟨t1, t2, t3, t4⟩ := hp.rest (by omega) hlt b5
      obtain ⟨R, hR⟩ : ∃ R, R = U * 4294967296 + L1 - p * Y := ⟨_, rfl⟩
      have hsum : p * Y + R = U * 4294967296 + L1 := by omega
      rw [wrap3 U L1 p Y R hsum (by omega)]
      refine Tells.ok (by simp; omega) (div_second N hN b1 b2 b3 b4 b6 (by omega) hs t3 ?_)
      intro p0 R0 g1 g2 g3
      have hE := div_ends (q1 := p) (q0 := p0) (by omega) h3 h1 b7 (by rw [← hY]; exact hp) (by rw [← hY, ← hR]; exact g1)
      rw [← hY, ← hR] at hE
      exact ⟨hE.1, by rw [← hE.2.2]; congr 1; omega⟩
    have := dig_round (done := fun p => (bif (decide ((Y1 : Int) ≠ 0) && true) then iter (bits_Div64_B2 N (Y : Int) (s : Int) (Y1 : Int) (Y0 : Int) (L0 : Int) p (IntKind.u64.wrap ((IntKind.u64.wrap ((IntKind.u64.wrap ((U : Int) * 4294967296)) + (L1 : Int))) - (IntKind.u64.wrap (p * (Y : Int)))))) N
        ((IntKind.u64.wrap ((IntKind.u64.wrap ((IntKind.u64.wrap ((IntKind.u64.wrap ((U : Int) * 4294967296)) + (L1 : Int))) - (IntKind.u64.wrap (p * (Y : Int))))) - (IntKind.u64.wrap ((IntKind.u64.wrap (Int.tdiv (IntKind.u64.wrap ((IntKind.u64.wrap ((IntKind.u64.wrap ((U : Int) * 4294967296)) + (L1 : Int))) - (IntKind.u64.wrap (p * (Y : Int))))) (Y1 : Int))) * (Y1 : Int))))), (IntKind.u64.wrap (Int.tdiv (IntKind.u64.wrap ((IntKind.u64.wrap ((IntKind.u64.wrap ((U : Int) * 4294967296)) + (L1 : Int))) - (IntKind.u64.wrap (p * (Y : Int))))) (Y1 : Int)))) else none))
      (K := fun p s => K (p, s)) (P := fun r => r = ((((hi * 18446744073709551616 + lo) / y : Nat) : Int), (((hi * 18446744073709551616 + lo) % y : Nat) : Int), ())) b2 b3 b4 b5 d8 hI hdone (fun p t hp ht => hK _ ⟨p, t, rfl, hp⟩ (by simp only; have := hI.r; have := hp.r; omega))
    exact this
end Go.Proofs.Ytgicljncknbgcaa.Abs
