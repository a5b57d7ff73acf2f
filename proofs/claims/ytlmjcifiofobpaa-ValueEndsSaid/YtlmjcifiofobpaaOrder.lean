/- The contracts of cmp's functions, and of package value's Order and Compare. -/
import Derived.Test.YtlmjcifiofobpaaPlain
import Derived.StillTailTactics
import Derived.WalkLawsBesides
namespace Go.Proofs.Ytlmjcifiofobpaa
open Go.ChangeShapes Go.WideShapes Go.ChangeAt Go.RowKit
set_option linter.unusedVariables false
set_option linter.unusedSimpArgs false

def cmpI (x y : Int) : Int := if x < y then -1 else if y < x then 1 else 0
theorem nan8_calls (x : Int) (w : World) : Calls Try.prog 82 #[.int .u8 x] w fun e w' => e = .returned (.bool false) ∧ w = w' := by
  go_enter Try.func82, Try.ntmps82
  go_wp2_with fail
  go_ret
  exact ⟨by simp, rfl⟩
theorem nanU_calls (x : Int) (w : World) : Calls Try.prog 79 #[.int .u64 x] w fun e w' => e = .returned (.bool false) ∧ w = w' := by
  go_enter Try.func79, Try.ntmps79
  go_wp2_with fail
  go_ret
  exact ⟨by simp, rfl⟩
theorem nanI_calls (x : Int) (w : World) : Calls Try.prog 83 #[.int .i64 x] w fun e w' => e = .returned (.bool false) ∧ w = w' := by
  go_enter Try.func83, Try.ntmps83
  go_wp2_with fail
  go_ret
  exact ⟨by simp, rfl⟩
theorem nanS_calls (x : ByteArray) (w : World) : Calls Try.prog 84 #[.string x] w fun e w' => e = .returned (.bool false) ∧ w = w' := by
  go_enter Try.func84, Try.ntmps84
  go_wp2_with fail
  go_ret
  exact ⟨by simp, rfl⟩
theorem cmp8_calls (x y : Int) (w : World) : Calls Try.prog 66 #[.int .u8 x, .int .u8 y] w fun e w' => e = .returned (.int .i64 (cmpI x y)) ∧ w = w' := by
  by_cases h1 : x < y
  · go_enter Try.func66, Try.ntmps66
    go_wp2_with (go_at_call 82; refine (nan8_calls _ _).mono ?_; rintro e w' ⟨rfl, rfl⟩)
    go_ret
    exact ⟨by unfold cmpI; rw [if_pos h1]; rfl, rfl⟩
  · by_cases h2 : y < x
    · go_enter Try.func66, Try.ntmps66
      go_wp2_with (go_at_call 82; refine (nan8_calls _ _).mono ?_; rintro e w' ⟨rfl, rfl⟩)
      go_ret
      exact ⟨by unfold cmpI; rw [if_neg (by omega), if_pos h2]; rfl, rfl⟩
    · go_enter Try.func66, Try.ntmps66
      go_wp2_with (go_at_call 82; refine (nan8_calls _ _).mono ?_; rintro e w' ⟨rfl, rfl⟩)
      go_ret
      exact ⟨by unfold cmpI; rw [if_neg (by omega), if_neg (by omega)]; rfl, rfl⟩
theorem cmpU_calls (x y : Int) (w : World) : Calls Try.prog 63 #[.int .u64 x, .int .u64 y] w fun e w' => e = .returned (.int .i64 (cmpI x y)) ∧ w = w' := by
  by_cases h1 : x < y
  · go_enter Try.func63, Try.ntmps63
    go_wp2_with (go_at_call 79; refine (nanU_calls _ _).mono ?_; rintro e w' ⟨rfl, rfl⟩)
    go_ret
    exact ⟨by unfold cmpI; rw [if_pos h1]; rfl, rfl⟩
  · by_cases h2 : y < x
    · go_enter Try.func63, Try.ntmps63
      go_wp2_with (go_at_call 79; refine (nanU_calls _ _).mono ?_; rintro e w' ⟨rfl, rfl⟩)
      go_ret
      exact ⟨by unfold cmpI; rw [if_neg (by omega), if_pos h2]; rfl, rfl⟩
    · go_enter Try.func63, Try.ntmps63
      go_wp2_with (go_at_call 79; refine (nanU_calls _ _).mono ?_; rintro e w' ⟨rfl, rfl⟩)
      go_ret
      exact ⟨by unfold cmpI; rw [if_neg (by omega), if_neg (by omega)]; rfl, rfl⟩
theorem cmpN_calls (x y : Int) (w : World) : Calls Try.prog 67 #[.int .i64 x, .int .i64 y] w fun e w' => e = .returned (.int .i64 (cmpI x y)) ∧ w = w' := by
  by_cases h1 : x < y
  · go_enter Try.func67, Try.ntmps67
    go_wp2_with (go_at_call 83; refine (nanI_calls _ _).mono ?_; rintro e w' ⟨rfl, rfl⟩)
    go_ret
    exact ⟨by unfold cmpI; rw [if_pos h1]; rfl, rfl⟩
  · by_cases h2 : y < x
    · go_enter Try.func67, Try.ntmps67
      go_wp2_with (go_at_call 83; refine (nanI_calls _ _).mono ?_; rintro e w' ⟨rfl, rfl⟩)
      go_ret
      exact ⟨by unfold cmpI; rw [if_neg (by omega), if_pos h2]; rfl, rfl⟩
    · go_enter Try.func67, Try.ntmps67
      go_wp2_with (go_at_call 83; refine (nanI_calls _ _).mono ?_; rintro e w' ⟨rfl, rfl⟩)
      go_ret
      exact ⟨by unfold cmpI; rw [if_neg (by omega), if_neg (by omega)]; rfl, rfl⟩

def cmpS (x y : ByteArray) : Int := if Op.bytesLess x.toList y.toList then -1 else if x.toList == y.toList then 0 else 1
theorem cmpS_calls (x y : ByteArray) (w : World) : Calls Try.prog 68 #[.string x, .string y] w fun e w' => e = .returned (.int .i64 (cmpS x y)) ∧ w = w' := by
  have fin : ∀ b c : Bool, Op.bytesLess x.toList y.toList = b → (!(x.toList == y.toList)) = c → cmpS x y = if b then -1 else if c then 1 else 0 := by
    intro b c hb hc
    unfold cmpS
    rw [hb]
    cases h : (x.toList == y.toList) <;> rw [h] at hc <;> subst hc <;> cases b <;> rfl
  have HF := hide fin
  clear fin
  go_enter Try.func68, Try.ntmps68
  go_wp2_with (go_at_call 84; refine (nanS_calls _ _).mono ?_; rintro e w' ⟨rfl, rfl⟩)
  · go_ret
    exact ⟨by rw [unhide HF true _ (by assumption) rfl]; rfl, rfl⟩
  · go_ret
    exact ⟨by rw [unhide HF false true (by assumption) (by assumption)]; rfl, rfl⟩
  · go_ret
    exact ⟨by rw [unhide HF false false (by assumption) (by assumption)]; rfl, rfl⟩

def orI : List Int → Int
  | [] => 0
  | x :: l => if x = 0 then orI l else x
theorem or_calls (xs : List Int) (b off cap : Nat) (w : World) (hm : xs.length ≤ 9223372036854775807) (hc : ∀ k, k < xs.length → w.cell? ⟨b, off + k, none⟩ = some (.int .i64 (xs.getD k 0))) :
    Calls Try.prog 62 #[.slice (some ⟨b, off, none⟩) xs.length cap] w fun e w' => e = .returned (.int .i64 (orI xs)) ∧ w = w' := by
  have HC := hide hc
  clear hc
  go_enter Try.func62, Try.ntmps62
  go_wp2_with fail
  go_loop [8] (fun i => ∃ k : Nat, k ≤ xs.length ∧ i = .int .i64 k ∧ orI xs = orI (xs.drop k)) (fun i => xs.length - (intOf i).toNat)
  case atStart => exact ⟨0, Nat.zero_le _, rfl, rfl⟩
  case round =>
    obtain ⟨k, hk, rfl, hor⟩ := hrel
    have HO := hide hor
    clear hor
    by_cases hlt : k < xs.length
    · have hcell := unhide HC k hlt
      have hd : xs.drop k = xs.getD k 0 :: xs.drop (k + 1) := by
        rw [List.drop_eq_getElem_cons hlt, List.getD_eq_getElem?_getD, List.getElem?_eq_getElem hlt]; rfl
      have HD := hide hd
      clear hd
      generalize xs.getD k 0 = x at *
      by_cases hz : x = 0
      · subst hz
        go_wp2_with fail
        go_round
        case rel => exact ⟨k + 1, by omega, by go_num, by rw [HO.out, HD.out]; rfl⟩
        case measure => simp [intOf]; omega
      · have hz1 : (x != 0) = true := by simpa using hz
        have HZ := hide hz
        clear hz
        go_wp2_with fail
        go_ret
        exact ⟨by rw [HO.out, HD.out, orI, if_neg HZ.out]; rfl, rfl⟩
    · go_wp2_with fail
      go_ret
      exact ⟨by rw [HO.out, List.drop_of_length_le (by omega)]; rfl, rfl⟩

/-- a region whose head only reads and calls quietly, the draw outermost -/
theorem still_tail {P : Program} {id : Nat} {Q : Exit → Act → World → Prop} {a : Act} {w : World} {l : List Oper} (n : Nat) (hm : P.follows .mixedOrders = true) (hB : Region.lexTailB .any l.toArray n = true)
    (h : wpStill P l.toArray w.drew (fun a' => wpList P l.toArray Q (l.drop n) a' w.drew) (l.take n) a) : (Code.region id l.toArray true).wp P Q a w := wp_region_still_tail n hm hB h

structure Val where
  k : Int
  n : Int
  s : ByteArray
def Val.enc (v : Val) : Value := .agg #[.int .u8 v.k, .int .i64 v.n, .string v.s]
def Val.ok (v : Val) : Prop := 0 ≤ v.k ∧ v.k ≤ 255 ∧ I64 v.n
def ordV (a b : Val) : Int := orI [cmpI a.k b.k, cmpI a.n b.n, cmpS a.s b.s]

set_option maxRecDepth 100000 in
theorem order_calls (a b : Val) (w : World) : Calls Try.prog 33 #[a.enc, b.enc] w fun e w' => e = .returned (.int .i64 (ordV a b)) ∧ Below w.heap.size w w' := by
  obtain ⟨ak, an, sa⟩ := a
  obtain ⟨bk, bn, sb⟩ := b
  have h1 := hide (fun W => cmp8_calls ak bk W)
  have h2 := hide (fun W => cmpN_calls an bn W)
  have h3 := hide (fun W => cmpS_calls sa sb W)
  unfold Val.enc ordV
  dsimp only
  generalize cmpI ak bk = c1 at *
  generalize cmpI an bn = c2 at *
  generalize cmpS sa sb = c3 at *
  go_enter Try.func33, Try.ntmps33
  go_wp2_with fail
  refine still_tail 15 (by kernel_rfl) (by kernel_rfl) ?_
  simp only [List.take_succ_cons, List.take_zero, List.drop_succ_cons, List.drop_zero]
  repeat still_step
  still_call ((h1.out _).mono fun _ _ h => ⟨h.1, h.2.symm⟩)
  repeat still_step
  still_call ((h2.out _).mono fun _ _ h => ⟨h.1, h.2.symm⟩)
  repeat still_step
  still_call ((h3.out _).mono fun _ _ h => ⟨h.1, h.2.symm⟩)
  refine wpStill_nil ?_
  go_wp2_with fail
  have hor := or_calls [c1, c2, c3] (w.heap.size + 1 + 1) 0 3 ((((w.alloc (.cells #[.int .u8 ak, .int .i64 an, .string sa] 38)).alloc (.cells #[.int .u8 bk, .int .i64 bn, .string sb] 38)).alloc (.cells #[.int .i64 c1, .int .i64 c2, .int .i64 c3] 3)).drew) (by simp) ?_
  · refine hor.mono ?_
    rintro e w' ⟨rfl, rfl⟩
    go_wp2_with fail
    go_ret
    exact ⟨rfl, ((((Below.refl _ _).alloc (Nat.le_refl _) _).alloc (by simp) _).alloc (by simp; omega) _).drew⟩
  · intro k hk
    match k, hk with
    | 0, _ => simp [go_sem]
    | 1, _ => simp [go_sem]
    | 2, _ => simp [go_sem]
end Go.Proofs.Ytlmjcifiofobpaa
