/- Lengths of words; division of 128 bits. -/
import Derived.Test.YtgicljncknbgcaaN6
namespace Go.Proofs.Ytgicljncknbgcaa.Abs
open Go
set_option linter.unusedVariables false
set_option linter.unusedSimpArgs false

def blen (x : Nat) : Nat := if x = 0 then 0 else Nat.log2 x + 1
theorem blen_spec (x : Nat) (h : 0 < x) : 1 ≤ blen x ∧ 2 ^ (blen x - 1) ≤ x ∧ x < 2 ^ blen x := by
  unfold blen
  rw [if_neg (by omega)]
  exact ⟨by omega, by simpa using Nat.log2_self_le (by omega), Nat.lt_log2_self⟩
theorem blen_div (x k : Nat) (h : 2 ^ k ≤ x) : k + blen (x / 2 ^ k) = blen x := by
  have hp : 0 < 2 ^ k := Nat.two_pow_pos k
  have h1 : 0 < x / 2 ^ k := Nat.div_pos h hp
  obtain ⟨a1, a2, a3⟩ := blen_spec _ h1
  obtain ⟨b1, b2, b3⟩ := blen_spec x (by omega)
  have c1 : x < 2 ^ (k + blen (x / 2 ^ k)) := by
    rw [Nat.pow_add, Nat.mul_comm]
    exact (Nat.div_lt_iff_lt_mul hp).1 a3
  have c2 : 2 ^ (k + blen (x / 2 ^ k) - 1) ≤ x := by
    rw [show k + blen (x / 2 ^ k) - 1 = (blen (x / 2 ^ k) - 1) + k by omega, Nat.pow_add]
    exact (Nat.le_div_iff_mul_le hp).1 a2
  have d1 : k + blen (x / 2 ^ k) - 1 < blen x := (Nat.pow_lt_pow_iff_right (a := 2) (by omega)).1 (Nat.lt_of_le_of_lt c2 b3)
  have d2 : blen x - 1 < k + blen (x / 2 ^ k) := (Nat.pow_lt_pow_iff_right (a := 2) (by omega)).1 (Nat.lt_of_le_of_lt b2 c1)
  omega
theorem len8 : ∀ i : Fin 256, byteAt lit_tab_0 (i.val : Int) = (blen i.val : Int) := by decide +kernel
theorem len8l : lit_tab_0.length = 256 := by decide +kernel
theorem len8' (i : Nat) (h : i < 256) : byteAt lit_tab_0 (i : Int) = (blen i : Int) := len8 ⟨i, h⟩
theorem wu8 (i : Nat) (h : i < 256) : IntKind.u8.wrap (i : Int) = (i : Int) := by rw [IntKind.wrap_u8]; omega
theorem shr (a s : Nat) (hs : s ≤ 64) : iShr .u64 (a : Int) ((s : Nat) : Int) = ((a / 2 ^ s : Nat) : Int) := iShr_nat a s hs
theorem blen_le (x k : Nat) (h : x < 2 ^ k) : blen x ≤ k := by
  by_cases h0 : x = 0
  · subst h0; simp [blen]
  · obtain ⟨a1, a2, a3⟩ := blen_spec x (by omega)
    have := (Nat.pow_lt_pow_iff_right (a := 2) (by omega)).1 (Nat.lt_of_le_of_lt a2 h)
    omega
theorem len_leaf {tab : List UInt8} {z x : Nat} {q : Int} (k : Nat) (hq : q = (k : Int)) (ht : byteAt tab (z : Int) = (blen z : Int)) (hl : tab.length = 256) (hz : z < 256) (hk : k ≤ 56) (e : k + blen z = blen x) : Tells (bif inR (IntKind.u8.wrap (z : Int)) tab.length then bif inI64 (byteAt tab (IntKind.u8.wrap (z : Int))) then bif inI64 (q + byteAt tab (IntKind.u8.wrap (z : Int))) then some (q + byteAt tab (IntKind.u8.wrap (z : Int))) else none else none else none) (fun r => r = (blen x : Int)) := by
  have hb := blen_le z 8 (by omega)
  rw [wu8 z hz, ht]
  refine Tells.ok (inRt (by omega) (by rw [hl]; omega)) (Tells.ok (inI (by omega) (by omega)) (Tells.ok (inI (by omega) (by omega)) (Tells.some ?_)))
  omega
set_option maxRecDepth 100000 in
set_option maxHeartbeats 2000000 in
theorem bits_Len64_is (N x : Nat) (hx : x < 18446744073709551616) : Tells (bits_Len64 N (x : Int)) fun r => r = (blen x : Int) := by
  have s32 := iShr_nat x 32 (by omega)
  have s16 := fun a => iShr_nat a 16 (by omega)
  have s8 := fun a => iShr_nat a 8 (by omega)
  have s32 : iShr .u64 (x : Int) (32 : Int) = ((x / 4294967296 : Nat) : Int) := s32
  have s16 : ∀ a : Nat, iShr .u64 (a : Int) (16 : Int) = ((a / 65536 : Nat) : Int) := s16
  have s8 : ∀ a : Nat, iShr .u64 (a : Int) (8 : Int) = ((a / 256 : Nat) : Int) := s8
  have b32 : 4294967296 ≤ x → 32 + blen (x / 4294967296) = blen x := fun h => blen_div x 32 h
  have b16 : ∀ a, 65536 ≤ a → 16 + blen (a / 65536) = blen a := fun a h => blen_div a 16 h
  have b8 : ∀ a, 256 ≤ a → 8 + blen (a / 256) = blen a := fun a h => blen_div a 8 h
  unfold bits_Len64
  obtain ⟨tab, htab, htl, ht8⟩ : ∃ tab, tab = lit_tab_0 ∧ tab.length = 256 ∧ ∀ i : Nat, i < 256 → byteAt tab (i : Int) = (blen i : Int) := ⟨lit_tab_0, rfl, len8l, len8'⟩
  rw [← htab]
  clear htab
  rw [s32, s16, s16, s8, s8, s8, s8]
  refine Tells.dec (fun c1 => ?_) (fun c1 => ?_)
  · have h32 := b32 (by omega)
    obtain ⟨y, hy⟩ : ∃ y, y = x / 4294967296 := ⟨_, rfl⟩
    have hy2 : y < 4294967296 := by omega
    rw [← hy] at h32 ⊢
    clear hy s32 s16 s8 b32
    refine Tells.dec (fun c2 => ?_) (fun c2 => ?_)
    · have h16 := b16 y (by omega)
      have h8 := b8 (y / 65536)
      clear b16 b8
      refine Tells.dec (fun c3 => ?_) (fun c3 => ?_)
      · refine len_leaf 56 rfl ?_ htl ?_ (by omega) ?_
        · exact ht8 _ (by omega)
        · omega
        · have := h8 (by omega); omega
      · refine len_leaf 48 rfl ?_ htl ?_ (by omega) ?_
        · exact ht8 _ (by omega)
        · omega
        · omega
    · have h8 := b8 y
      clear b16 b8
      refine Tells.dec (fun c3 => ?_) (fun c3 => ?_)
      · refine len_leaf 40 rfl ?_ htl ?_ (by omega) ?_
        · exact ht8 _ (by omega)
        · omega
        · have := h8 (by omega); omega
      · refine len_leaf 32 rfl ?_ htl ?_ (by omega) ?_
        · exact ht8 _ (by omega)
        · omega
        · omega
  · clear b32 s32 s16 s8
    refine Tells.dec (fun c2 => ?_) (fun c2 => ?_)
    · have h16 := b16 x (by omega)
      have h8 := b8 (x / 65536)
      clear b16 b8
      refine Tells.dec (fun c3 => ?_) (fun c3 => ?_)
      · refine len_leaf 24 rfl ?_ htl ?_ (by omega) ?_
        · exact ht8 _ (by omega)
        · omega
        · have := h8 (by omega); omega
      · refine len_leaf 16 rfl ?_ htl ?_ (by omega) ?_
        · exact ht8 _ (by omega)
        · omega
        · omega
    · have h8 := b8 x
      clear b16 b8
      refine Tells.dec (fun c3 => ?_) (fun c3 => ?_)
      · refine len_leaf 8 rfl ?_ htl ?_ (by omega) ?_
        · exact ht8 _ (by omega)
        · omega
        · have := h8 (by omega); omega
      · refine len_leaf 0 rfl ?_ htl ?_ (by omega) ?_
        · exact ht8 _ (by omega)
        · omega
        · omega
theorem bits_LeadingZeros64_is (N x : Nat) (h0 : 0 < x) (h1 : x < 18446744073709551616) : ∃ s : Nat, bits_LeadingZeros64 N (x : Int) = some (s : Int) ∧ s ≤ 63 ∧ 9223372036854775808 ≤ x * 2 ^ s ∧ x * 2 ^ s < 18446744073709551616 := by
  have hb := blen_spec x h0
  have hle : blen x ≤ 64 := blen_le x 64 h1
  have h1' : 1 ≤ blen x := hb.1
  have e64 : 2 ^ blen x * 2 ^ (64 - blen x) = 18446744073709551616 := by rw [← Nat.pow_add, show blen x + (64 - blen x) = 64 by omega]
  have e63 : 2 ^ (blen x - 1) * 2 ^ (64 - blen x) = 9223372036854775808 := by rw [← Nat.pow_add, show blen x - 1 + (64 - blen x) = 63 by omega]
  refine ⟨64 - blen x, ?_, by omega, ?_, ?_⟩
  · refine Tells.get ?_
    unfold bits_LeadingZeros64
    refine Tells.bind (bits_Len64_is N x h1) fun r hr => ?_
    subst hr
    exact Tells.ok (inI (by omega) (by omega)) (Tells.some (by omega))
  · rw [← e63]; exact Nat.mul_le_mul_right _ hb.2.1
  · rw [← e64]; exact Nat.mul_lt_mul_of_pos_right hb.2.2 (Nat.two_pow_pos _)
end Go.Proofs.Ytgicljncknbgcaa.Abs
