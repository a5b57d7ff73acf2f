/- Lengths of words; division of 128 bits. -/
import Derived.Test.YtgicljncknbgcaaM2
namespace Go.Proofs.Ytgicljncknbgcaa.Abs
open Go
set_option linter.unusedVariables false
set_option linter.unusedSimpArgs false

def blen (x : Nat) : Nat := if x = 0 then 0 else Nat.log2 x + 1
theorem blen_spec (x : Nat) (h : 0 < x) : 1 ≤ blen x ∧ 2 ^ (blen x - 1) ≤ x ∧ x < 2 ^ blen x := by
  unfold blen
  rw [if_neg (by omega)]
  exact ⟨by omega, by simpa using Nat.log2_self_le (by omega), Nat.lt_log2_self⟩
theorem blen_div (x k : Nat) (h : 2 ^ k ≤ x) : k + blen (x / 2 ^ k) = blen x := by
  have hp : 0 < 2 ^ k := Nat.two_pow_pos k
  have h1 : 0 < x / 2 ^ k := Nat.div_pos h hp
  obtain ⟨a1, a2, a3⟩ := blen_spec _ h1
  obtain ⟨b1, b2, b3⟩ := blen_spec x (by omega)
  have c1 : x < 2 ^ (k + blen (x / 2 ^ k)) := by
    rw [Nat.pow_add, Nat.mul_comm]
    exact (Nat.div_lt_iff_lt_mul hp).1 a3
  have c2 : 2 ^ (k + blen (x / 2 ^ k) - 1) ≤ x := by
    rw [show k + blen (x / 2 ^ k) - 1 = (blen (x / 2 ^ k) - 1) + k by omega, Nat.pow_add]
    exact (Nat.le_div_iff_mul_le hp).1 a2
  have d1 : k + blen (x / 2 ^ k) - 1 < blen x := (Nat.pow_lt_pow_iff_right (a := 2) (by omega)).1 (Nat.lt_of_le_of_lt c2 b3)
  have d2 : blen x - 1 < k + blen (x / 2 ^ k) := (Nat.pow_lt_pow_iff_right (a := 2) (by omega)).1 (Nat.lt_of_le_of_lt b2 c1)
  omega
theorem len8 : ∀ i : Fin 256, byteAt lit_tab_0 (i.val : Int) = (blen i.val : Int) := by decide +kernel
theorem len8l : lit_tab_0.length = 256 := by decide +kernel
theorem len8' (i : Nat) (h : i < 256) : byteAt lit_tab_0 (i : Int) = (blen i : Int) := len8 ⟨i, h⟩
theorem wu8 (i : Nat) (h : i < 256) : IntKind.u8.wrap (i : Int) = (i : Int) := by rw [IntKind.wrap_u8]; omega
theorem shr (a s : Nat) (hs : s ≤ 64) : iShr .u64 (a : Int) ((s : Nat) : Int) = ((a / 2 ^ s : Nat) : Int) := iShr_nat a s hs
theorem blen_le (x k : Nat) (h : x < 2 ^ k) : blen x ≤ k := by
  by_cases h0 : x = 0
  · subst h0; simp [blen]
  · obtain ⟨a1, a2, a3⟩ := blen_spec x (by omega)
    have := (Nat.pow_lt_pow_iff_right (a := 2) (by omega)).1 (Nat.lt_of_le_of_lt a2 h)
    omega
theorem len_leaf {tab : List UInt8} {z x : Nat} {q : Int} (k : Nat) (hq : q = (k : Int)) (ht : byteAt tab (z : Int) = (blen z : Int)) (hl : tab.length = 256) (hz : z < 256) (hk : k ≤ 56) (e : k + blen z = blen x) : Tells (bif inR (IntKind.u8.wrap (z : Int)) tab.length then bif inI64 (byteAt tab (IntKind.u8.wrap (z : Int))) then bif inI64 (q + byteAt tab (IntKind.u8.wrap (z : Int))) then some (q + byteAt tab (IntKind.u8.wrap (z : Int))) else none else none else none) (fun r => r = (blen x : Int)) := by
  have hb := blen_le z 8 (by omega)
  rw [wu8 z hz, ht]
  refine Tells.ok (inRt (by omega) (by rw [hl]; omega)) (Tells.ok (inI (by omega) (by omega)) (Tells.ok (inI (by omega) (by omega)) (Tells.some ?_)))
  omega
set_option maxRecDepth 100000 in
set_option maxHeartbeats 2000000 in
theorem bits_Len64_is (N x : Nat) (hx : x < 18446744073709551616) : Tells (bits_Len64 N (x : Int)) fun r => r = (blen x : Int) := by
  have s32 := iShr_nat x 32 (by omega)
  have s16 := fun a => iShr_nat a 16 (by omega)
  have s8 := fun a => iShr_nat a 8 (by omega)
  have s32 : iShr .u64 (x : Int) (32 : Int) = ((x / 4294967296 : Nat) : Int) := s32
  have s16 : ∀ a : Nat, iShr .u64 (a : Int) (16 : Int) = ((a / 65536 : Nat) : Int) := s16
  have s8 : ∀ a : Nat, iShr .u64 (a : Int) (8 : Int) = ((a / 256 : Nat) : Int) := s8
  have b32 : 4294967296 ≤ x → 32 + blen (x / 4294967296) = blen x := fun h => blen_div x 32 h
  have b16 : ∀ a, 65536 ≤ a → 16 + blen (a / 65536) = blen a := fun a h => blen_div a 16 h
  have b8 : ∀ a, 256 ≤ a → 8 + blen (a / 256) = blen a := fun a h => blen_div a 8 h
  unfold bits_Len64
  obtain ⟨tab, htab, htl, ht8⟩ : ∃ tab, tab = lit_tab_0 ∧ tab.length = 256 ∧ ∀ i : Nat, i < 256 → byteAt tab (i : Int) = (blen i : Int) := ⟨lit_tab_0, rfl, len8l, len8'⟩
  rw [← htab]
  clear htab
  rw [s32, s16, s16, s8, s8, s8, s8]
  refine Tells.dec (fun c1 => ?_) (fun c1 => ?_)
  · have h32 := b32 (by omega)
    obtain ⟨y, hy⟩ : ∃ y, y = x / 4294967296 := ⟨_, rfl⟩
    have hy2 : y < 4294967296 := by omega
    rw [← hy] at h32 ⊢
    clear hy s32 s16 s8 b32
    refine Tells.dec (fun c2 => ?_) (fun c2 => ?_)
    · have h16 := b16 y (by omega)
      have h8 := b8 (y / 65536)
      clear b16 b8
      refine Tells.dec (fun c3 => ?_) (fun c3 => ?_)
      · refine len_leaf 56 rfl ?_ htl ?_ (by omega) ?_
        · exact ht8 _ (by omega)
        · omega
        · have := h8 (by omega); omega
      · refine len_leaf 48 rfl ?_ htl ?_ (by omega) ?_
        · exact ht8 _ (by omega)
        · omega
        · omega
    · have h8 := b8 y
      clear b16 b8
      refine Tells.dec (fun c3 => ?_) (fun c3 => ?_)
      · refine len_leaf 40 rfl ?_ htl ?_ (by omega) ?_
        · exact ht8 _ (by omega)
        · omega
        · have := h8 (by omega); omega
      · refine len_leaf 32 rfl ?_ htl ?_ (by omega) ?_
        · exact ht8 _ (by omega)
        · omega
        · omega
  · clear b32 s32 s16 s8
    refine Tells.dec (fun c2 => ?_) (fun c2 => ?_)
    · have h16 := b16 x (by omega)
      have h8 := b8 (x / 65536)
      clear b16 b8
      refine Tells.dec (fun c3 => ?_) (fun c3 => ?_)
      · refine len_leaf 24 rfl ?_ htl ?_ (by omega) ?_
        · exact ht8 _ (by omega)
        · omega
        · have := h8 (by omega); omega
      · refine len_leaf 16 rfl ?_ htl ?_ (by omega) ?_
        · exact ht8 _ (by omega)
        · omega
        · omega
    · have h8 := b8 x
      clear b16 b8
      refine Tells.dec (fun c3 => ?_) (fun c3 => ?_)
      · refine len_leaf 8 rfl ?_ htl ?_ (by omega) ?_
        · exact ht8 _ (by omega)
        · omega
        · have := h8 (by omega); omega
      · refine len_leaf 0 rfl ?_ htl ?_ (by omega) ?_
        · exact ht8 _ (by omega)
        · omega
        · omega
theorem bits_LeadingZeros64_is (N x : Nat) (h0 : 0 < x) (h1 : x < 18446744073709551616) : ∃ s : Nat, bits_LeadingZeros64 N (x : Int) = some (s : Int) ∧ s ≤ 63 ∧ 9223372036854775808 ≤ x * 2 ^ s ∧ x * 2 ^ s < 18446744073709551616 := by
  have hb := blen_spec x h0
  have hle : blen x ≤ 64 := blen_le x 64 h1
  have h1' : 1 ≤ blen x := hb.1
  have e64 : 2 ^ blen x * 2 ^ (64 - blen x) = 18446744073709551616 := by rw [← Nat.pow_add, show blen x + (64 - blen x) = 64 by omega]
  have e63 : 2 ^ (blen x - 1) * 2 ^ (64 - blen x) = 9223372036854775808 := by rw [← Nat.pow_add, show blen x - 1 + (64 - blen x) = 63 by omega]
  refine ⟨64 - blen x, ?_, by omega, ?_, ?_⟩
  · refine Tells.get ?_
    unfold bits_LeadingZeros64
    refine Tells.bind (bits_Len64_is N x h1) fun r hr => ?_
    subst hr
    exact Tells.ok (inI (by omega) (by omega)) (Tells.some (by omega))
  · rw [← e63]; exact Nat.mul_le_mul_right _ hb.2.1
  · rw [← e64]; exact Nat.mul_lt_mul_of_pos_right hb.2.2 (Nat.two_pow_pos _)
end Go.Proofs.Ytgicljncknbgcaa.Abs
namespace Go.Proofs.Ytgicljncknbgcaa.Abs
open Go
set_option linter.unusedVariables false
set_option linter.unusedSimpArgs false

theorem wrap3 (U c q Y R : Nat) (h : q * Y + R = U * 4294967296 + c) (hR : R < 18446744073709551616) :
    IntKind.u64.wrap (IntKind.u64.wrap (IntKind.u64.wrap ((U : Int) * 4294967296) + (c : Int)) - IntKind.u64.wrap ((q : Int) * (Y : Int))) = (R : Int) := by
  simp only [IntKind.wrap_u64]
  have e : (q : Int) * (Y : Int) = ((q * Y : Nat) : Int) := by simp
  rw [e]
  generalize q * Y = a at *
  omega
/-- the search of one digit: where it stands -/
structure DigI (U c Y1 Y0 q r : Nat) : Prop where
  sum : q * Y1 + r = U
  r : r < 4294967296
  le : (U * 4294967296 + c) / (Y1 * 4294967296 + Y0) ≤ q
  lim : q ≤ 4294967297
/-- one round -/
theorem dig_round {β : Type} {P : β → Prop} {U c Y1 Y0 q r : Nat} {done : Int → Option β} {K : Int → Int → Option β} (hY1 : 2147483648 ≤ Y1) (hY1' : Y1 < 4294967296) (hY0 : Y0 < 4294967296) (hc : c < 4294967296) (hQ : (U * 4294967296 + c) / (Y1 * 4294967296 + Y0) < 4294967296) (h : DigI U c Y1 Y0 q r)
    (hd : ∀ p : Nat, Div1 U c (Y1 * 4294967296 + Y0) p → Tells (done (p : Int)) P) (hk : ∀ p s : Nat, DigI U c Y1 Y0 p s → s = r + Y1 → Tells (K (p : Int) (s : Int)) P) :
    Tells (bif decide ((q : Int) ≥ 4294967296) then bif decide (IntKind.u64.wrap ((r : Int) + (Y1 : Int)) ≥ 4294967296) then done (IntKind.u64.wrap ((q : Int) - 1)) else K (IntKind.u64.wrap ((q : Int) - 1)) (IntKind.u64.wrap ((r : Int) + (Y1 : Int)))
      else bif decide (IntKind.u64.wrap ((q : Int) * (Y0 : Int)) > IntKind.u64.wrap (IntKind.u64.wrap (4294967296 * (r : Int)) + (c : Int))) then bif decide (IntKind.u64.wrap ((r : Int) + (Y1 : Int)) ≥ 4294967296) then done (IntKind.u64.wrap ((q : Int) - 1)) else K (IntKind.u64.wrap ((q : Int) - 1)) (IntKind.u64.wrap ((r : Int) + (Y1 : Int)))
      else done (q : Int)) P := by
  obtain ⟨h1, h2, h3, h4⟩ := h
  have hr := wadd (a := r) (b := Y1) (by omega)
  rw [hr]
  have low : (4294967296 ≤ q ∨ 4294967296 * r + c < q * Y0) → Tells (bif decide (((r + Y1 : Nat) : Int) ≥ 4294967296) then done (IntKind.u64.wrap ((q : Int) - 1)) else K (IntKind.u64.wrap ((q : Int) - 1)) ((r + Y1 : Nat) : Int)) P := by
    intro hh
    obtain ⟨t1, t2, t3, t4⟩ := div_down (c := c) hY1 hY0 h1 h4 hc hQ hh
    have e : IntKind.u64.wrap ((q : Int) - 1) = ((q - 1 : Nat) : Int) := by rw [wu (by omega) (by omega)]; omega
    rw [e]
    refine Tells.dec (fun c1 => hd _ (t4 (by omega))) (fun c1 => hk _ _ ⟨t3, by omega, t2, by omega⟩ rfl)
  refine Tells.dec (fun c1 => low (.inl (by omega))) (fun c1 => ?_)
  have hA : q * Y0 ≤ 18446744065119617025 := prod32 (by omega) hY0
  have e1 : IntKind.u64.wrap ((q : Int) * (Y0 : Int)) = ((q * Y0 : Nat) : Int) := by rw [← Int.natCast_mul]; exact wrap_nat _ (by omega)
  have e2 : IntKind.u64.wrap (IntKind.u64.wrap (4294967296 * (r : Int)) + (c : Int)) = ((4294967296 * r + c : Nat) : Int) := by
    rw [wu (n := 4294967296 * (r : Int)) (by omega) (by omega), wu (by omega) (by omega)]
    omega
  rw [e1, e2]
  refine Tells.dec (fun c2 => low (.inr (by omega))) (fun c2 => hd _ (div_here hY1 h1 h3 (by omega)))
/-- the second digit -/
theorem div_second (N : Nat) {U c Y Y1 Y0 s q1 A B : Nat} (hN : 10 ≤ N) (hY : Y = Y1 * 4294967296 + Y0) (hY1 : 2147483648 ≤ Y1) (hY1' : Y1 < 4294967296) (hY0 : Y0 < 4294967296) (hc : c < 4294967296) (hU : U < Y) (hs : s ≤ 63) (hq1 : q1 < 4294967296)
    (hAB : ∀ p R : Nat, Div1 U c Y p → p * Y + R = U * 4294967296 + c → R < Y → q1 * 4294967296 + p = A ∧ R / 2 ^ s = B) :
    Tells (iter (bits_Div64_B2 N (Y : Int) (s : Int) (Y1 : Int) (Y0 : Int) (c : Int) (q1 : Int) (U : Int)) N (IntKind.u64.wrap ((U : Int) - IntKind.u64.wrap (IntKind.u64.wrap (Int.tdiv (U : Int) (Y1 : Int)) * (Y1 : Int))), IntKind.u64.wrap (Int.tdiv (U : Int) (Y1 : Int)))) fun r => r = ((A : Int), (B : Int), ()) := by
  obtain ⟨q0, P0, d1, d2, d3, d4, d5, d6, d7, d8⟩ := div_first (c := c) hY1 hY1' hY0 hc (by rw [← hY]; exact hU)
  have hdone : ∀ p : Nat, Div1 U c (Y1 * 4294967296 + Y0) p → Tells (bif !(decide ((s : Int) < 0)) then some ((IntKind.u64.wrap ((IntKind.u64.wrap ((q1 : Int) * 4294967296)) + (p : Int))), (iShr .u64 (IntKind.u64.wrap ((IntKind.u64.wrap ((IntKind.u64.wrap ((U : Int) * 4294967296)) + (c : Int))) - (IntKind.u64.wrap ((p : Int) * (Y : Int))))) (s : Int)), ()) else none) fun r => r = ((A : Int), (B : Int), ()) := by
    intro p hp
    rw [← hY] at hp
    obtain ⟨t1, t2, t3, t4⟩ := hp.rest (by omega) hU hc
    obtain ⟨R, hR⟩ : ∃ R, R = U * 4294967296 + c - p * Y := ⟨_, rfl⟩
    have hsum : p * Y + R = U * 4294967296 + c := by omega
    obtain ⟨a1, a2⟩ := hAB p R hp hsum (by omega)
    rw [wrap3 U c p Y R hsum (by omega), iShr_nat R s (by omega), a2]
    refine Tells.ok (by simp) (Tells.some ?_)
    rw [wu (n := (q1 : Int) * 4294967296) (by omega) (by omega), wu (by omega) (by omega)]
    rw [show (q1 : Int) * 4294967296 + (p : Int) = (A : Int) by omega]
  refine Tells.iter (fun e => ∃ q r : Nat, e = ((r : Int), (q : Int)) ∧ DigI U c Y1 Y0 q r) (fun e => ((4294967296 - e.1) / 2147483648).toNat) ?_ N _ ⟨q0, U - P0, ?_, ⟨by omega, by omega, d7, d6⟩⟩ ?_
  · rintro K ⟨e1, e2⟩ ⟨q, r, he, hI⟩ hK
    cases he
    unfold bits_Div64_B2
    simp only
    have := dig_round (done := fun p => (bif !(decide ((s : Int) < 0)) then some ((IntKind.u64.wrap ((IntKind.u64.wrap ((q1 : Int) * 4294967296)) + p)), (iShr .u64 (IntKind.u64.wrap ((IntKind.u64.wrap ((IntKind.u64.wrap ((U : Int) * 4294967296)) + (c : Int))) - (IntKind.u64.wrap (p * (Y : Int))))) (s : Int)), ()) else none)) (K := fun p s => K (s, p)) (P := fun r => r = ((A : Int), (B : Int), ())) hY1 hY1' hY0 hc d8 hI hdone (fun p t hp ht => hK _ ⟨p, t, rfl, hp⟩ (by simp only; have := hI.r; have := hp.r; omega))
    exact this
  · rw [tdivE (by omega), d1, wu (n := (q0 : Int)) (by omega) (by omega), d2, wu (n := (P0 : Int)) (by omega) (by omega), wu (by omega) (by omega)]
    congr 1
    omega
  · rw [tdivE (by omega), d1, wu (n := (q0 : Int)) (by omega) (by omega), d2, wu (n := (P0 : Int)) (by omega) (by omega), wu (by omega) (by omega)]
    simp only
    omega
theorem bits_Div64_is (N hi lo y : Nat) (hN : 10 ≤ N) (h1 : lo < 18446744073709551616) (h2 : y < 18446744073709551616) (h3 : hi < y) :
    bits_Div64 N (hi : Int) (lo : Int) (y : Int) = some ((((hi * 18446744073709551616 + lo) / y : Nat) : Int), (((hi * 18446744073709551616 + lo) % y : Nat) : Int), ()) := by
  refine Tells.get ?_
  unfold bits_Div64 bits_Div64_t
  refine Tells.no (by simp; omega) (Tells.no (by simp; omega) ?_)
  refine Tells.ite (fun c => ?_) (fun c => ?_)
  · have c : hi = 0 := by have : (hi : Int) = 0 := by simpa using c
                          omega
    subst c
    refine Tells.ok (by simp; omega) (Tells.ok (by simp; omega) (Tells.some ?_))
    rw [Nat.zero_mul, Nat.zero_add, tdivE (by omega), tmodE (by omega)]
    have h4 : lo / y ≤ lo := Nat.div_le_self _ _
    rw [show (lo : Int) / (y : Int) = ((lo / y : Nat) : Int) by simp, wrap_nat _ (by omega)]
    simp
  · have h0 : 0 < hi := by
      have : ¬ (hi : Int) = 0 := by simpa using c
      omega
    obtain ⟨s, e0, hs, hy1, hy2⟩ := bits_LeadingZeros64_is N y (by omega) h2
    refine Tells.bindE e0 ?_
    have es : IntKind.u64.wrap (s : Int) = (s : Int) := wrap_nat _ (by omega)
    have es2 : IntKind.u64.wrap (64 - (s : Int)) = ((64 - s : Nat) : Int) := by rw [wu (by omega) (by omega)]; omega
    rw [es, es2]
    obtain ⟨hm, hor, hle, hlt⟩ := div_start hi lo y s h0 h1 h3 hs hy1 hy2
    have hpos : 0 < 2 ^ s := Nat.two_pow_pos s
    have hH : hi * 2 ^ s < 18446744073709551616 := by omega
    have hD : lo / 2 ^ (64 - s) < 18446744073709551616 := Nat.lt_of_le_of_lt (Nat.div_le_self _ _) h1
    rw [iShl_nat y s (by omega), iShl_nat hi s (by omega), iShl_nat lo s (by omega), iShr_nat lo (64 - s) (by omega), wrap_nat _ hy2, wrap_nat _ hH]
    have eL : IntKind.u64.wrap ((lo * 2 ^ s : Nat) : Int) = ((lo * 2 ^ s % 18446744073709551616 : Nat) : Int) := by rw [IntKind.wrap_u64]; omega
    rw [eL, iOr_nat _ _ hH hD, hor]
    have hsplit := Nat.div_add_mod ((hi * 18446744073709551616 + lo) * 2 ^ s) 18446744073709551616
    rw [hm] at hsplit
    obtain ⟨Y, hY⟩ : ∃ Y, Y = y * 2 ^ s := ⟨_, rfl⟩
    obtain ⟨U, hU⟩ : ∃ U, U = (hi * 18446744073709551616 + lo) * 2 ^ s / 18446744073709551616 := ⟨_, rfl⟩
    obtain ⟨M, hM⟩ : ∃ M, M = lo * 2 ^ s % 18446744073709551616 := ⟨_, rfl⟩
    rw [← hY, ← hU] at hlt
    rw [← hU, ← hM] at hsplit
    have hM2 : M < 18446744073709551616 := by omega
    rw [← hY, ← hU, ← hM, iShr32, iShr32, iAnd_low Y (by omega), iAnd_low M hM2]
    obtain ⟨Y1, eY1⟩ : ∃ Y1, Y1 = Y / 4294967296 := ⟨_, rfl⟩
    obtain ⟨Y0, eY0⟩ : ∃ Y0, Y0 = Y % 4294967296 := ⟨_, rfl⟩
    obtain ⟨L1, eL1⟩ : ∃ L1, L1 = M / 4294967296 := ⟨_, rfl⟩
    obtain ⟨L0, eL0⟩ : ∃ L0, L0 = M % 4294967296 := ⟨_, rfl⟩
    rw [← eY1, ← eY0, ← eL1, ← eL0]
    have b1 : Y = Y1 * 4294967296 + Y0 := by omega
    have b2 : 2147483648 ≤ Y1 := by omega
    have b3 : Y1 < 4294967296 := by omega
    have b4 : Y0 < 4294967296 := by omega
    have b5 : L1 < 4294967296 := by omega
    have b6 : L0 < 4294967296 := by omega
    have b7 : (hi * 18446744073709551616 + lo) * 2 ^ s = U * 18446744073709551616 + L1 * 4294967296 + L0 := by omega
    clear hsplit hm hor hle hH hD eL hU hM es es2 e0 c eY1 eY0 eL1 eL0
    refine Tells.ok (by simp) (Tells.ok (by simp) (Tells.ok (by simp) (Tells.ok (by simp) (Tells.ok (by simp; omega) ?_))))
    obtain ⟨q0, P0, d1, d2, d3, d4, d5, d6, d7, d8⟩ := div_first (c := L1) b2 b3 b4 b5 (by rw [← b1]; exact hlt)
    rw [tdivE (by omega), d1, wu (n := (q0 : Int)) (by omega) (by omega), d2, wu (n := (P0 : Int)) (by omega) (by omega), wu (n := (U : Int) - (P0 : Int)) (by omega) (by omega)]
    refine Tells.iter (fun e => ∃ q r : Nat, e = ((q : Int), (r : Int)) ∧ DigI U L1 Y1 Y0 q r) (fun e => ((4294967296 - e.2) / 2147483648).toNat) ?_ N _ ⟨q0, U - P0, by congr 1; omega, ⟨by omega, by omega, d7, d6⟩⟩ (by simp only; omega)
    rintro K ⟨e1, e2⟩ ⟨q, r, he, hI⟩ hK
    cases he
    unfold bits_Div64_B1 bits_Div64_B1t
    simp only
    have hdone : ∀ p : Nat, Div1 U L1 (Y1 * 4294967296 + Y0) p → Tells (bif (decide ((Y1 : Int) ≠ 0) && true) then iter (bits_Div64_B2 N (Y : Int) (s : Int) (Y1 : Int) (Y0 : Int) (L0 : Int) (p : Int) (IntKind.u64.wrap ((IntKind.u64.wrap ((IntKind.u64.wrap ((U : Int) * 4294967296)) + (L1 : Int))) - (IntKind.u64.wrap ((p : Int) * (Y : Int)))))) N
        ((IntKind.u64.wrap ((IntKind.u64.wrap ((IntKind.u64.wrap ((IntKind.u64.wrap ((U : Int) * 4294967296)) + (L1 : Int))) - (IntKind.u64.wrap ((p : Int) * (Y : Int))))) - (IntKind.u64.wrap ((IntKind.u64.wrap (Int.tdiv (IntKind.u64.wrap ((IntKind.u64.wrap ((IntKind.u64.wrap ((U : Int) * 4294967296)) + (L1 : Int))) - (IntKind.u64.wrap ((p : Int) * (Y : Int))))) (Y1 : Int))) * (Y1 : Int))))), (IntKind.u64.wrap (Int.tdiv (IntKind.u64.wrap ((IntKind.u64.wrap ((IntKind.u64.wrap ((U : Int) * 4294967296)) + (L1 : Int))) - (IntKind.u64.wrap ((p : Int) * (Y : Int))))) (Y1 : Int)))) else none) fun r => r = ((((hi * 18446744073709551616 + lo) / y : Nat) : Int), (((hi * 18446744073709551616 + lo) % y : Nat) : Int), ()) := by
      intro p hp
      rw [← b1] at hp
      obtain ⟨t1, t2, t3, t4⟩ := hp.rest (by omega) hlt b5
      obtain ⟨R, hR⟩ : ∃ R, R = U * 4294967296 + L1 - p * Y := ⟨_, rfl⟩
      have hsum : p * Y + R = U * 4294967296 + L1 := by omega
      rw [wrap3 U L1 p Y R hsum (by omega)]
      refine Tells.ok (by simp; omega) (div_second N hN b1 b2 b3 b4 b6 (by omega) hs t3 ?_)
      intro p0 R0 g1 g2 g3
      have hE := div_ends (q1 := p) (q0 := p0) (by omega) h3 h1 b7 (by rw [← hY]; exact hp) (by rw [← hY, ← hR]; exact g1)
      rw [← hY, ← hR] at hE
      exact ⟨hE.1, by rw [← hE.2.2]; congr 1; omega⟩
    have := dig_round (done := fun p => (bif (decide ((Y1 : Int) ≠ 0) && true) then iter (bits_Div64_B2 N (Y : Int) (s : Int) (Y1 : Int) (Y0 : Int) (L0 : Int) p (IntKind.u64.wrap ((IntKind.u64.wrap ((IntKind.u64.wrap ((U : Int) * 4294967296)) + (L1 : Int))) - (IntKind.u64.wrap (p * (Y : Int)))))) N
        ((IntKind.u64.wrap ((IntKind.u64.wrap ((IntKind.u64.wrap ((IntKind.u64.wrap ((U : Int) * 4294967296)) + (L1 : Int))) - (IntKind.u64.wrap (p * (Y : Int))))) - (IntKind.u64.wrap ((IntKind.u64.wrap (Int.tdiv (IntKind.u64.wrap ((IntKind.u64.wrap ((IntKind.u64.wrap ((U : Int) * 4294967296)) + (L1 : Int))) - (IntKind.u64.wrap (p * (Y : Int))))) (Y1 : Int))) * (Y1 : Int))))), (IntKind.u64.wrap (Int.tdiv (IntKind.u64.wrap ((IntKind.u64.wrap ((IntKind.u64.wrap ((U : Int) * 4294967296)) + (L1 : Int))) - (IntKind.u64.wrap (p * (Y : Int))))) (Y1 : Int)))) else none))
      (K := fun p s => K (p, s)) (P := fun r => r = ((((hi * 18446744073709551616 + lo) / y : Nat) : Int), (((hi * 18446744073709551616 + lo) % y : Nat) : Int), ())) b2 b3 b4 b5 d8 hI hdone (fun p t hp ht => hK _ ⟨p, t, rfl, hp⟩ (by simp only; have := hI.r; have := hp.r; omega))
    exact this
end Go.Proofs.Ytgicljncknbgcaa.Abs
namespace Go.Proofs.Ytgicljncknbgcaa.Abs
open Go
set_option linter.unusedVariables false
set_option linter.unusedSimpArgs false

abbrev I64 (n : Int) : Prop := -9223372036854775808 ≤ n ∧ n ≤ 9223372036854775807
theorem wi {n : Int} (h1 : -9223372036854775808 ≤ n) (h2 : n ≤ 9223372036854775807) : IntKind.i64.wrap n = n := by rw [IntKind.wrap_i64]; omega
theorem intE_in {v : Int} (h : I64 v) : intE v = (v, 0, ()) := if_pos h
theorem intE_out {v : Int} (h : ¬ I64 v) : intE v = (0, 9, ()) := if_neg h
theorem num_size_is (N : Nat) {n : Int} (h : I64 n) : num_size N n = some (n.natAbs : Int) := by
  refine Tells.get ?_
  unfold num_size
  refine Tells.dec (fun c => Tells.some ?_) (fun c => Tells.some ?_)
  · rw [IntKind.wrap_u64, IntKind.wrap_u64]; omega
  · rw [IntKind.wrap_u64]; omega
theorem num_signed_is (N : Nat) {neg : Bool} {hi lo : Int} (h1 : 0 ≤ hi) (h2 : 0 ≤ lo) (h3 : lo ≤ 18446744073709551615) : num_signed N neg hi lo = some (intE (sg neg (hi * 18446744073709551616 + lo))) := by
  refine Tells.get ?_
  unfold num_signed
  have out : ¬ I64 (sg neg (hi * 18446744073709551616 + lo)) → Tells (some ((0, 9, ()) : Int × Int × Unit)) fun r => r = intE (sg neg (hi * 18446744073709551616 + lo)) := fun h => Tells.some (intE_out h).symm
  have ins : ∀ v : Int, v = sg neg (hi * 18446744073709551616 + lo) → I64 v → Tells (some ((v, 0, ()) : Int × Int × Unit)) fun r => r = intE (sg neg (hi * 18446744073709551616 + lo)) := fun v h hv => Tells.some (by rw [← h, intE_in hv])
  have w1 : lo ≤ 9223372036854775808 → IntKind.i64.wrap (0 - IntKind.i64.wrap lo) = -lo := fun h => by rw [IntKind.wrap_i64, IntKind.wrap_i64]; omega
  refine Tells.dec (fun c => out ?_) (fun c => ?_)
  · unfold sg I64; split <;> omega
  have hz : hi = 0 := by omega
  subst hz
  simp only [Int.zero_mul, Int.zero_add] at out ins ⊢
  refine Tells.dec (fun c => out ?_) (fun c => ?_)
  · unfold sg I64; split <;> omega
  refine Tells.ite (fun c2 => ?_) (fun c2 => ?_)
  · have c2 : lo = 9223372036854775808 := by simpa using c2
    cases neg with
    | true =>
      refine Tells.no rfl (Tells.ok rfl ?_)
      rw [w1 (by omega)]
      exact ins _ rfl ⟨by omega, by omega⟩
    | false => exact Tells.ok rfl (out (by simp only [sg]; rw [if_neg (by simp)]; unfold I64; omega))
  · have c2 : lo ≠ 9223372036854775808 := by simpa using c2
    cases neg with
    | true =>
      refine Tells.ok rfl ?_
      rw [w1 (by omega)]
      exact ins _ rfl ⟨by omega, by omega⟩
    | false =>
      refine Tells.no rfl ?_
      rw [wi (by omega) (by omega)]
      exact ins _ rfl ⟨by omega, by omega⟩
theorem num_Add_is (N : Nat) {a b : Int} (ha : I64 a) (hb : I64 b) : num_Add N a b = some (intE (a + b)) := by
  refine Tells.get ?_
  unfold num_Add
  obtain ⟨a1, a2⟩ := ha
  obtain ⟨b1, b2⟩ := hb
  by_cases h : I64 (a + b)
  · rw [wi h.1 h.2, intE_in h]
    refine Tells.ite (fun c => Tells.ite (fun c2 => ?_) (fun c2 => Tells.some rfl)) (fun c => Tells.some rfl)
    simp only [beq_iff_eq, decide_eq_decide] at c
    exfalso
    simp only [Bool.not_eq_true', beq_eq_false_iff_ne, ne_eq, decide_eq_decide] at c2
    omega
  · have e : IntKind.i64.wrap (a + b) < 0 ↔ ¬ a < 0 := by
      rw [IntKind.wrap_i64]
      unfold I64 at h
      omega
    rw [intE_out h]
    unfold I64 at h
    refine Tells.ok ?_ (Tells.ok ?_ (Tells.some rfl))
    · simp only [beq_iff_eq, decide_eq_decide]; omega
    · simp only [Bool.not_eq_true', beq_eq_false_iff_ne, ne_eq, decide_eq_decide, e]; omega
theorem num_Sub_is (N : Nat) {a b : Int} (ha : I64 a) (hb : I64 b) : num_Sub N a b = some (intE (a - b)) := by
  refine Tells.get ?_
  unfold num_Sub
  obtain ⟨a1, a2⟩ := ha
  obtain ⟨b1, b2⟩ := hb
  by_cases h : I64 (a - b)
  · rw [wi h.1 h.2, intE_in h]
    refine Tells.ite (fun c => Tells.ite (fun c2 => ?_) (fun c2 => Tells.some rfl)) (fun c => Tells.some rfl)
    simp only [Bool.not_eq_true', beq_eq_false_iff_ne, ne_eq, decide_eq_decide] at c c2
    exfalso
    omega
  · have e : IntKind.i64.wrap (a - b) < 0 ↔ ¬ a < 0 := by
      rw [IntKind.wrap_i64]
      unfold I64 at h
      omega
    rw [intE_out h]
    unfold I64 at h
    refine Tells.ok ?_ (Tells.ok ?_ (Tells.some rfl))
    · simp only [Bool.not_eq_true', beq_eq_false_iff_ne, ne_eq, decide_eq_decide]; omega
    · simp only [Bool.not_eq_true', beq_eq_false_iff_ne, ne_eq, decide_eq_decide, e]; omega
theorem I64.nat {n : Int} (h : I64 n) : n.natAbs < 18446744073709551616 := by unfold I64 at h; omega
theorem num_Mul_is (N : Nat) {a b : Int} (ha : I64 a) (hb : I64 b) : num_Mul N a b = some (intE (a * b)) := by
  unfold num_Mul
  rw [num_size_is N ha, num_size_is N hb]
  simp only [Option.bind_some]
  rw [bits_Mul64_is N _ _ ha.nat hb.nat]
  simp only [Option.bind_some]
  rw [num_signed_is N (by omega) (by omega) (by omega)]
  simp only [Option.bind_some]
  congr 2
  rw [← sgn_mul a b _ rfl]
  congr 1
  have := Nat.div_add_mod (a.natAbs * b.natAbs) 18446744073709551616
  omega
theorem num_Scale_is (N : Nat) {a : Int} (ha : I64 a) : num_Scale N a = some (intE (a * 10000)) := by
  unfold num_Scale
  rw [num_Mul_is N ha (by unfold I64; omega)]
  rfl
theorem num_Quo_is (N : Nat) {a b : Int} (ha : I64 a) (hb : I64 b) (h0 : b ≠ 0) : num_Quo N a b = some (intE (a.tdiv b)) := by
  refine Tells.get ?_
  unfold num_Quo
  refine Tells.no (by simpa using h0) ?_
  refine Tells.bindE (num_size_is N ha) (Tells.bindE (num_size_is N hb) ?_)
  refine Tells.ok (by simp; omega) ?_
  rw [tdivE (by omega), show (a.natAbs : Int) / (b.natAbs : Int) = ((a.natAbs / b.natAbs : Nat) : Int) by simp]
  have hle : a.natAbs / b.natAbs ≤ a.natAbs := Nat.div_le_self _ _
  have := ha.nat
  rw [← sgn_tdiv a b]
  generalize a.natAbs / b.natAbs = Q at *
  rw [wrap_nat _ (by omega)]
  refine Tells.bindE (num_signed_is N (by omega) (by omega) (by omega)) (Tells.some ?_)
  congr 1
  simp only [Int.zero_mul, Int.zero_add]
  rfl
theorem num_Mod_is (N : Nat) {a b : Int} (ha : I64 a) (hb : I64 b) (h0 : b ≠ 0) : num_Mod N a b = some (intE (a.tmod b)) := by
  refine Tells.get ?_
  unfold num_Mod
  refine Tells.no (by simpa using h0) ?_
  refine Tells.bindE (num_size_is N ha) (Tells.bindE (num_size_is N hb) ?_)
  refine Tells.ok (by simp; omega) ?_
  rw [tmodE (by omega), show (a.natAbs : Int) % (b.natAbs : Int) = ((a.natAbs % b.natAbs : Nat) : Int) by simp]
  have hle : a.natAbs % b.natAbs ≤ a.natAbs := Nat.mod_le _ _
  have := ha.nat
  rw [← sgn_tmod a b]
  generalize a.natAbs % b.natAbs = Q at *
  refine Tells.bindE (num_signed_is N (by omega) (by omega) (by omega)) (Tells.some ?_)
  congr 1
  simp only [Int.zero_mul, Int.zero_add]
/-- the rounded quotient of a product -/
def overV (a b d : Int) : Int := sg ((decide (a < 0) != decide (b < 0)) != decide (d < 0)) (rneN (a.natAbs * b.natAbs) d.natAbs : Nat)
theorem num_over_is (N : Nat) (hN : 10 ≤ N) {a b d : Int} (ha : I64 a) (hb : I64 b) (hd : I64 d) (h0 : d ≠ 0) : num_over N a b d = some (intE (overV a b d)) := by
  refine Tells.get ?_
  unfold num_over
  refine Tells.bindE (num_size_is N ha) (Tells.bindE (num_size_is N hb) (Tells.bindE (bits_Mul64_is N _ _ ha.nat hb.nat) (Tells.bindE (num_size_is N hd) ?_)))
  obtain ⟨X, hX⟩ : ∃ X, X = a.natAbs * b.natAbs := ⟨_, rfl⟩
  obtain ⟨D, hD⟩ : ∃ D, D = d.natAbs := ⟨_, rfl⟩
  have hD0 : 0 < D := by omega
  have hD1 : D ≤ 9223372036854775808 := by unfold I64 at hd; omega
  have hsplit := Nat.div_add_mod X 18446744073709551616
  simp only [← hX, ← hD]
  obtain ⟨hi, hhi⟩ : ∃ hi, hi = X / 18446744073709551616 := ⟨_, rfl⟩
  obtain ⟨lo, hlo⟩ : ∃ lo, lo = X % 18446744073709551616 := ⟨_, rfl⟩
  rw [← hhi, ← hlo] at hsplit ⊢
  have hlo2 : lo < 18446744073709551616 := by omega
  have hov : overV a b d = sg ((decide (a < 0) != decide (b < 0)) != decide (d < 0)) (rneN X D : Nat) := by unfold overV; rw [hX, hD]
  have hq := Nat.div_add_mod X D
  have hr := Nat.mod_lt X hD0
  refine Tells.dec (fun c => Tells.some ?_) (fun c => ?_)
  · symm
    refine intE_out ?_
    have hbig : 18446744073709551616 ≤ X / D := by
      rw [Nat.le_div_iff_mul_le hD0]
      have : 18446744073709551616 * D ≤ 18446744073709551616 * hi := Nat.mul_le_mul_left _ (by omega)
      omega
    have : X / D ≤ rneN X D := by unfold rneN; split <;> omega
    rw [hov]
    unfold sg I64
    split <;> omega
  have hlt : hi < D := by omega
  have hX2 : hi * 18446744073709551616 + lo = X := by omega
  refine Tells.bindE (bits_Div64_is N hi lo D hN hlo2 (by omega) hlt) ?_
  simp only
  rw [hX2]
  obtain ⟨Q, hQ⟩ : ∃ Q, Q = X / D := ⟨_, rfl⟩
  obtain ⟨R, hR⟩ : ∃ R, R = X % D := ⟨_, rfl⟩
  have hQ1 : Q < 18446744073709551616 := by
    rw [hQ, Nat.div_lt_iff_lt_mul hD0]
    have : (hi + 1) * 18446744073709551616 ≤ D * 18446744073709551616 := Nat.mul_le_mul_right _ hlt
    rw [Nat.mul_comm]
    omega
  rw [← hQ, ← hR] at hq ⊢
  rw [← hR] at hr
  have hrne : rneN X D = if D < 2 * R ∨ (2 * R = D ∧ Q % 2 = 1) then Q + 1 else Q := by unfold rneN; rw [← hQ, ← hR]
  have ew : IntKind.u64.wrap ((D : Int) - (R : Int)) = ((D - R : Nat) : Int) := by rw [wu (by omega) (by omega)]; omega
  have ew2 : IntKind.u64.wrap ((Q : Int) + 1) = if Q = 18446744073709551615 then 0 else ((Q + 1 : Nat) : Int) := by
    rw [IntKind.wrap_u64]; split <;> omega
  rw [ew, ew2, iAnd_one Q hQ1]
  have more : (D < 2 * R ∨ (2 * R = D ∧ Q % 2 = 1)) → Tells (bif ((if Q = 18446744073709551615 then (0 : Int) else ((Q + 1 : Nat) : Int)) == 0) then some ((0, 9, ()) : Int × Int × Unit) else
      ((num_signed N (!((!((decide (a < 0)) == (decide (b < 0)))) == (decide (d < 0)))) 0 (if Q = 18446744073709551615 then (0 : Int) else ((Q + 1 : Nat) : Int))).bind fun (r5 : Int × Int × Unit) => some r5)) fun r => r = intE (overV a b d) := by
    intro h
    rw [if_pos h] at hrne
    by_cases hm : Q = 18446744073709551615
    · rw [if_pos hm]
      refine Tells.ok rfl (Tells.some ?_)
      symm
      refine intE_out ?_
      rw [hov, hrne]
      unfold sg I64
      split <;> omega
    · rw [if_neg hm]
      refine Tells.no (by simp; omega) (Tells.bindE (num_signed_is N (by omega) (by omega) (by omega)) (Tells.some ?_))
      rw [hov, hrne]
      simp only [Int.zero_mul, Int.zero_add]
      rfl
  have same : ¬ (D < 2 * R ∨ (2 * R = D ∧ Q % 2 = 1)) → Tells ((num_signed N (!((!((decide (a < 0)) == (decide (b < 0)))) == (decide (d < 0)))) 0 (Q : Int)).bind fun (r5 : Int × Int × Unit) => some r5) fun r => r = intE (overV a b d) := by
    intro h
    rw [if_neg h] at hrne
    refine Tells.bindE (num_signed_is N (by omega) (by omega) (by omega)) (Tells.some ?_)
    rw [hov, hrne]
    simp only [Int.zero_mul, Int.zero_add]
    rfl
  refine Tells.dec (fun c1 => more (by omega)) (fun c1 => Tells.ite (fun c2 => ?_) (fun c2 => ?_))
  · have c2 : (R : Int) = ((D - R : Nat) : Int) := by simpa using c2
    refine Tells.ite (fun c3 => more ?_) (fun c3 => same ?_)
    · have : ((Q % 2 : Nat) : Int) = 1 := by simpa using c3
      omega
    · have : ¬ ((Q % 2 : Nat) : Int) = 1 := by simpa using c3
      omega
  · have c2 : (R : Int) ≠ ((D - R : Nat) : Int) := by simpa using c2
    exact same (by omega)
theorem num_MulDec_is (N : Nat) (hN : 10 ≤ N) {a b : Int} (ha : I64 a) (hb : I64 b) : num_MulDec N a b = some (intE (overV a b 10000)) := by
  unfold num_MulDec
  rw [num_over_is N hN ha hb (by unfold I64; omega) (by omega)]
  rfl
theorem num_DivDec_is (N : Nat) (hN : 10 ≤ N) {a b : Int} (ha : I64 a) (hb : I64 b) (h0 : b ≠ 0) : num_DivDec N a b = some (intE (overV a 10000 b)) := by
  refine Tells.get ?_
  unfold num_DivDec
  refine Tells.no (by simpa using h0) (Tells.bindE (num_over_is N hN ha (by unfold I64; omega) hb h0) (Tells.some rfl))
theorem rneN_zero {d : Nat} (h : 0 < d) : rneN 0 d = 0 := by
  unfold rneN
  rw [Nat.zero_mod, Nat.zero_div, if_neg (by omega)]
theorem overV_even (a b : Int) {d : Int} (hd : d ≠ 0) : overV a b d = evenV (a * b) d := by
  unfold overV evenV
  rw [Int.natAbs_mul]
  by_cases ha : a = 0
  · subst ha
    rw [Int.natAbs_zero, Nat.zero_mul, rneN_zero (by omega)]
    simp [sg]
  · by_cases hb : b = 0
    · subst hb
      rw [Int.natAbs_zero, Nat.mul_zero, rneN_zero (by omega)]
      simp [sg]
    · have e : decide (a * b < 0) = (decide (a < 0) != decide (b < 0)) := by
        by_cases h1 : a < 0 <;> by_cases h2 : b < 0
        · have := Int.mul_pos_of_neg_of_neg h1 h2
          simp [h1, h2]; omega
        · have := Int.mul_neg_of_neg_of_pos h1 (show 0 < b by omega)
          simp [h1, h2]; omega
        · have := Int.mul_neg_of_pos_of_neg (show 0 < a by omega) h2
          simp [h1, h2]; omega
        · have := Int.mul_pos (show 0 < a by omega) (show 0 < b by omega)
          simp [h1, h2]; omega
      rw [e]
theorem w1_known_is (N : Nat) (hN : 10 ≤ N) : w1_known N = some true := by
  unfold w1_known
  rw [num_Quo_is N (by unfold I64; omega) (by unfold I64; omega) (by omega), num_Mod_is N (by unfold I64; omega) (by unfold I64; omega) (by omega), num_MulDec_is N hN (by unfold I64; omega) (by unfold I64; omega),
    num_DivDec_is N hN (by unfold I64; omega) (by unfold I64; omega) (by omega), num_Quo_is N (a := -9223372036854775808) (by unfold I64; omega) (by unfold I64; omega) (by omega)]
  decide +kernel
theorem w1_NumDoes_is (N : Nat) {M : Nat} {a b : Int} (ha : I64 a) (hb : I64 b) (hN : 100000 ≤ M) (hl : M ≤ N ∧ M ≤ 1000000000) : w1_NumDoes N a b = some true := by
  refine Tells.get ?_
  unfold w1_NumDoes
  refine Tells.bind (r1_Of_tells ha.1 ha.2 (by omega)) fun x hx => Tells.bind (r1_Of_tells hb.1 hb.2 (by omega)) fun y hy => Tells.bind (r1_Of_tells (n := 10000) (by omega) (by omega) (by omega)) fun u hu => ?_
  refine Tells.bindE (num_Add_is N ha hb) (Tells.bindE (num_Sub_is N ha hb) (Tells.bindE (num_Mul_is N ha hb) (Tells.bindE (num_Scale_is N ha) (Tells.bindE (num_MulDec_is N (by omega) ha hb) ?_))))
  have told : ∀ {x : T_N1} {v : Int} {n : Nat}, Can x v n → n ≤ 50 → Tells (w1_told N (intE v).1 (intE v).2.1 x) fun r => r = true := fun hx hn => (w1_told_tells hx (by omega) hl).mono fun r hr => hr.2 rfl
  have go : ∀ {z : Bool} {k : Option Bool}, z = true → Tells k (fun r => r = true) → Tells (bif !z then some false else k) fun r => r = true := fun hz hk => by subst hz; exact hk
  have e10 : (10000 : Int) ≠ 0 := by omega
  refine Tells.bind (r1_Add_tells hx hy (by omega) hl) fun r hr => Tells.bind (told hr (by omega)) fun z hz => go hz ?_
  refine Tells.bind (r1_Sub_tells hx hy (by omega) hl) fun r hr => Tells.bind (told hr (by omega)) fun z hz => go hz ?_
  refine Tells.bind (r1_Mul_tells hx hy (by omega) hl) fun r hr => Tells.bind (told hr (by omega)) fun z hz => go hz ?_
  refine Tells.bind (r1_Mul_tells hx hu (by omega) hl) fun r hr => Tells.bind (told hr (by omega)) fun z hz => go hz ?_
  refine Tells.bind (r1_Mul_tells hx hy (by omega) hl) fun r hr => Tells.bind (r1_Even_tells hr hu e10 (by omega) hl) fun r2 hr2 => ?_
  rw [overV_even a b e10]
  refine Tells.bind (told hr2 (by omega)) fun z hz => go hz ?_
  by_cases h0 : b = 0
  · subst h0
    refine Tells.bindE (r := (0, 10, ())) rfl (Tells.bindE (r := (0, 10, ())) rfl (Tells.bindE (r := (0, 10, ())) rfl ?_))
    refine Tells.bindE (w1_known_is N (by omega)) (Tells.some rfl)
  · refine Tells.bindE (num_Quo_is N ha hb h0) (Tells.bindE (num_Mod_is N ha hb h0) (Tells.bindE (num_DivDec_is N (by omega) ha hb h0) ?_))
    refine Tells.no (by simpa using h0) ?_
    refine Tells.bind (r1_Quo_tells hx hy h0 (by omega) hl) fun q hq => ?_
    refine Tells.bind (told hq.1 (by omega)) fun z hz => ?_
    subst hz
    refine Tells.bind (told hq.2 (by omega)) fun z hz => ?_
    subst hz
    refine Tells.bind (r1_Mul_tells hx hu (by omega) hl) fun r hr => Tells.bind (r1_Even_tells hr hy h0 (by omega) hl) fun r2 hr2 => ?_
    rw [overV_even a 10000 h0]
    refine Tells.bind (told hr2 (by omega)) fun z hz => ?_
    subst hz
    exact Tells.bindE (w1_known_is N (by omega)) (Tells.some rfl)
end Go.Proofs.Ytgicljncknbgcaa.Abs
