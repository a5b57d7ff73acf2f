/- The contracts of package value's Not and Any, and of witanlaw02's right. -/
import Derived.Test.YtlmjcifiofobpaaEnv
namespace Go.Proofs.Ytlmjcifiofobpaa
open Go.ChangeShapes Go.WideShapes Go.ChangeAt Go.RowKit
set_option linter.unusedVariables false
set_option linter.unusedSimpArgs false

def notF (v : Val) : Val := if v.k = 4 then truthV (decide (v.n = 0)) else Val.zero
theorem not_calls (v : Val) (w : World) : Calls Try.prog 37 #[v.enc] w fun x w' => x = .returned (notF v).enc ∧ Below w.heap.size w w' := by
  obtain ⟨k, n, s⟩ := v
  unfold Val.enc
  dsimp only
  by_cases h : k = 4
  · by_cases h0 : n = 0
    · have h1 : (n == 0) = true := by simpa using h0
      have hk : (k != 4) = false := by simpa using h
      have hf := hide (show notF ⟨k, n, s⟩ = truthV true by unfold notF; rw [if_pos h, decide_eq_true h0])
      clear h h0
      go_enter Try.func37, Try.ntmps37
      go_wp2_with fail
      refine (truth_calls true _).mono ?_
      rintro e w1 ⟨rfl, hn⟩
      have hB := hide ((((below_refl w).alloc (Nat.le_refl _) _).alloc (by simp) _).trans (hn.mono (by simp; omega)))
      obtain ⟨r0, r1, r2, r3, r4, r5⟩ := ((Three.new (w.alloc (.cells #[.int .u8 k, .int .i64 n, .string s] 38)) 38 (.int .u8 0) (.int .i64 0) (.string ⟨#[]⟩)).below hn (by simp)).facts
      rw [World.size_alloc] at r0 r1 r2 r3 r4 r5
      clear hn
      unfold truthV Val.enc
      dsimp only
      go_wp2_with fail
      refine bodyPost_ret (v := .agg #[.int .u8 4, .int .i64 1, .string ⟨#[]⟩]) (by simp [results, Try.results37, go_sem, r0, r1, r2]) rfl ?_
      exact ⟨by rw [hf.out]; rfl, below_set3 hB.out (by omega) _ _ _⟩
    · have h1 : (n == 0) = false := by simpa using h0
      have hk : (k != 4) = false := by simpa using h
      have hf := hide (show notF ⟨k, n, s⟩ = truthV false by unfold notF; rw [if_pos h, decide_eq_false h0])
      clear h h0
      go_enter Try.func37, Try.ntmps37
      go_wp2_with fail
      refine (truth_calls false _).mono ?_
      rintro e w1 ⟨rfl, hn⟩
      have hB := hide ((((below_refl w).alloc (Nat.le_refl _) _).alloc (by simp) _).trans (hn.mono (by simp; omega)))
      obtain ⟨r0, r1, r2, r3, r4, r5⟩ := ((Three.new (w.alloc (.cells #[.int .u8 k, .int .i64 n, .string s] 38)) 38 (.int .u8 0) (.int .i64 0) (.string ⟨#[]⟩)).below hn (by simp)).facts
      rw [World.size_alloc] at r0 r1 r2 r3 r4 r5
      clear hn
      unfold truthV Val.enc
      dsimp only
      go_wp2_with fail
      refine bodyPost_ret (v := .agg #[.int .u8 4, .int .i64 0, .string ⟨#[]⟩]) (by simp [results, Try.results37, go_sem, r0, r1, r2]) rfl ?_
      exact ⟨by rw [hf.out]; rfl, below_set3 hB.out (by omega) _ _ _⟩
  · have hk : (k != 4) = true := by simpa using h
    have hf := hide (show notF ⟨k, n, s⟩ = Val.zero by unfold notF; rw [if_neg h])
    clear h
    go_enter Try.func37, Try.ntmps37
    go_wp2_with fail
    refine bodyPost_ret (v := .agg #[.int .u8 0, .int .i64 0, .string ⟨#[]⟩]) (by simp [results, Try.results37, go_sem]) rfl ?_
    exact ⟨by rw [hf.out]; rfl, ((below_refl w).alloc (Nat.le_refl _) _).alloc (by simp) _⟩

theorem nil_dec {p : Prop} [Decidable p] (h : ¬ p) : decide p = false := decide_eq_false h
theorem all_one (l : List Val) (b cap : Nat) (w : World) (hl : l.length ≤ 60000) (hv : ValsAt w b 0 l) (hbk : b < w.heap.size) (R : Val) (hR : allF l (truthV true) = R) :
    Calls Try.prog 35 #[.slice (some ⟨b, 0, none⟩) l.length cap] w fun x w' => x = .returned R.enc ∧ Below w.heap.size w w' := by
  subst hR
  exact all_calls l b 0 cap w hl hv hbk

theorem vals_of_row {W : World} {base g n cap : Nat} {l : List Val} (ho : W.ownsRow base 38 3 (.slice (some ⟨g, 0, none⟩) n cap) n (cellsOf l)) (hn : l.length = n) : ValsAt W g 0 l := by
  intro k hk
  obtain ⟨c1, c2, c3⟩ := cellsOf_get l k hk
  refine ⟨?_, ?_, ?_⟩
  · rw [Nat.zero_add, ho.cellAt _ (by omega)]; exact c1
  · rw [Nat.zero_add, ho.cellAt _ (by omega)]; exact c2
  · rw [Nat.zero_add, ho.cellAt _ (by omega)]; exact c3
def rowNot (l : List Val) (k : Nat) : List Value := cellsOf ((l.take k).map notF)
def anyF (l : List Val) : Val := notF (allF (l.map notF) (truthV true))
set_option maxRecDepth 100000 in
set_option maxHeartbeats 3200000 in
theorem any_calls (l : List Val) (b off cap : Nat) (w : World) (h0 : 0 < l.length) (hl : l.length ≤ 60000) (hv : ValsAt w b off l) (hbk : b < w.heap.size) :
    Calls Try.prog 36 #[.slice (some ⟨b, off, none⟩) l.length cap] w fun x w' => x = .returned (anyF l).enc ∧ Below w.heap.size w w' := by
  have HV := hide hv
  clear hv
  obtain ⟨i0, hi, hz0, hz1, hz2⟩ := info_parts info38
  go_enter Try.func36, Try.ntmps36
  go_wp2_with fail
  go_loopw [3, 8] (fun o i wr => ∃ k : Nat, k ≤ l.length ∧ i = .int .i64 k ∧ wr.ownsRow (w.heap.size + 1) 38 3 o k (rowNot l k) ∧ Three wr w.heap.size 38 (.int .u8 0) (.int .i64 0) (.string ⟨#[]⟩) ∧ Below w.heap.size w wr) (fun _ i _ => l.length - (intOf i).toNat)
  case atStart => exact ⟨0, Nat.zero_le _, rfl, ⟨by simp [cellsOf, rowNot], .inl ⟨rfl, rfl⟩⟩, Three.new _ _ _ _ _, (below_refl w).alloc (Nat.le_refl _) _⟩
  case round =>
    obtain ⟨k, hk, rfl, hown, hT, hbw⟩ := hrel
    have HM := hide (And.intro hT hbw)
    by_cases hlt : k < l.length
    · obtain ⟨c1, c2, c3⟩ := HV.out.below hbw hbk k hlt
      have HT := hide (take_more l k hlt)
      clear hbw hT
      obtain ⟨v, hvk⟩ : ∃ v, l[k] = v := ⟨_, rfl⟩
      rw [hvk] at c1 c2 c3 HT
      have HD := hide (fun W => not_calls v W)
      clear hvk
      go_wp2_with fail
      refine (HD.out _).mono ?_
      rintro e w1 ⟨rfl, hn⟩
      have hB := hide (((Below.refl wr.heap.size wr).alloc (Nat.le_refl _) _).trans (hn.mono (by simp)))
      have hsz2 : wr.heap.size + 1 ≤ w1.heap.size := by have := hn.size; simp at this; omega
      clear hn
      obtain ⟨⟨nk, nn, ns⟩, hnv⟩ : ∃ r, notF v = r := ⟨_, rfl⟩
      have HN := hide (show rowNot l k ++ [.int .u8 nk, .int .i64 nn, .string ns] = rowNot l (k + 1) by unfold rowNot; rw [HT.out, List.map_append, List.map_cons, List.map_nil, cellsOf_snoc, hnv])
      rw [hnv]
      clear hnv
      unfold Val.enc
      dsimp only
      go_wp2_with (at_builtin; go_must (refine wpList_append_own _ rfl _ _ 72 rfl (w.heap.size + 1) 38 i0 _ 3 32 Try.underlying72 hi hz0 hz1 hz2 rfl (by decide) _ k (rowNot l k) rfl ?_ ⟨w1.heap.size, 0, none⟩ 1 1 [.int .u8 nk, .int .i64 nn, .string ns] rfl rfl ?_ ?_ ?_ ?_ ?_ ?_))
      · exact own_later hown (hB.out.alloc (by omega) _)
      · intro j u hu
        match j, hu with
        | 0, h => cases h; simp [go_sem]
        | 1, h => cases h; simp [go_sem]
        | 2, h => cases h; simp [go_sem]
      · intro u hu
        simp at hu
        rcases hu with rfl | rfl | rfl <;> rfl
      · unfold maxLen; omega
      · omega
      · have := HM.out.2.size; have := HM.out.1.lt; simp; omega
      intro v2 w2 hown2 hgrow2 _
      rw [HN.out] at hown2
      have hw2 := hide (((hB.out.alloc (by omega) (.cells #[.int .u8 nk, .int .i64 nn, .string ns] 38)).mono HM.out.1.lt).grown hgrow2 (by have := HM.out.1.lt; simp; omega) (own_block_ge hown))
      clear hgrow2
      go_wp2_with fail
      go_roundw
      case rel => exact ⟨k + 1, by omega, by go_num, hown2, HM.out.1.below hw2.out (by omega), HM.out.2.trans (hw2.out.mono (by omega))⟩
      case measure => simp [intOf]; omega
    · obtain rfl : k = l.length := by omega
      unfold rowNot at hown
      rw [List.take_of_length_le (Nat.le_refl _)] at hown
      obtain ⟨g, cap2, cur, rfl, hg, hh, -⟩ := hown.2.resolve_left (fun h => by have := h.2; omega)
      have hgl : g < wr.heap.size := by
        rcases Nat.lt_or_ge g wr.heap.size with h1 | h1
        · exact h1
        · rw [Array.getElem?_eq_none h1] at hh; cases hh
      have hva := vals_of_row hown (by simp)
      clear hh hk hown cur hlt
      obtain ⟨⟨rk, rn, rs⟩, hR⟩ : ∃ R, allF (l.map notF) (truthV true) = R := ⟨_, rfl⟩
      obtain ⟨⟨qk, qn, qs⟩, hQ⟩ : ∃ Q, notF ⟨rk, rn, rs⟩ = Q := ⟨_, rfl⟩
      have hA := hide (all_one (l.map notF) g cap2 wr (by simpa using hl) hva hgl _ hR)
      rw [List.length_map] at hA
      have hN := hide (fun W => not_calls ⟨rk, rn, rs⟩ W)
      have hF := hide (show anyF l = ⟨qk, qn, qs⟩ by unfold anyF; rw [hR, hQ])
      rw [hQ] at hN
      clear hR hQ hva
      unfold Val.enc at *
      dsimp only at *
      go_wp2_with fail
      refine hA.out.mono ?_
      rintro e w1 ⟨rfl, hn⟩
      have hB := hide (HM.out.2.trans (hn.mono HM.out.2.size))
      have hT1 := hide (HM.out.1.below hn HM.out.1.lt)
      clear hn
      go_wp2_with fail
      refine (hN.out _).mono ?_
      rintro e w2 ⟨rfl, hn⟩
      have hB2 := hide (hB.out.trans (hn.mono hB.out.size))
      obtain ⟨r0, r1, r2, r3, r4, r5⟩ := (hT1.out.below hn hT1.out.lt).facts
      clear hn
      go_wp2_with fail
      refine bodyPost_ret (v := .agg #[.int .u8 qk, .int .i64 qn, .string qs]) (by simp [results, Try.results36, go_sem, r0, r1, r2]) rfl ?_
      exact ⟨by rw [hF.out]; rfl, below_set3 hB2.out (by omega) _ _ _⟩

/-- of a truth: may it be? -/
def mayB (v : Val) : Bool := decide (v.s.toList = []) && (decide (v.n = 0) || decide (v.n = 1))
theorem may4_calls (n : Int) (s : ByteArray) (w : World) : Calls Try.prog 43 #[.agg #[.int .u8 4, .int .i64 n, .string s]] w fun x w' => x = .returned (.bool (mayB ⟨4, n, s⟩)) ∧ Below w.heap.size w w' := by
  by_cases h1 : s.toList = []
  · have h1' : s.toList.isEmpty = true := by rw [h1]; rfl
    by_cases h2 : n = 0
    · have h2' : (n == 0) = true := by simpa using h2
      have hf := hide (show mayB ⟨4, n, s⟩ = true by unfold mayB; simp [h1, h2])
      clear h2
      go_enter Try.func43, Try.ntmps43
      go_wp2_with fail
      go_ret
      exact ⟨by rw [hf.out]; rfl, (below_refl w).alloc (Nat.le_refl _) _⟩
    · have h2' : (n == 0) = false := by simpa using h2
      by_cases h3 : n = 1
      · have h3' : (n == 1) = true := by simpa using h3
        have hf := hide (show mayB ⟨4, n, s⟩ = true by unfold mayB; simp [h1, h3])
        clear h2 h3
        go_enter Try.func43, Try.ntmps43
        go_wp2_with fail
        go_ret
        exact ⟨by rw [hf.out]; rfl, (below_refl w).alloc (Nat.le_refl _) _⟩
      · have h3' : (n == 1) = false := by simpa using h3
        have hf := hide (show mayB ⟨4, n, s⟩ = false by unfold mayB; simp [h2, h3])
        clear h2 h3
        go_enter Try.func43, Try.ntmps43
        go_wp2_with fail
        go_ret
        exact ⟨by rw [hf.out]; rfl, (below_refl w).alloc (Nat.le_refl _) _⟩
  · have h1' : s.toList.isEmpty = false := by simpa using h1
    have hf := hide (show mayB ⟨4, n, s⟩ = false by unfold mayB; simp [h1])
    clear h1
    go_enter Try.func43, Try.ntmps43
    go_wp2_with fail
    go_ret
    exact ⟨by rw [hf.out]; rfl, (below_refl w).alloc (Nat.le_refl _) _⟩

def rightB (v : Val) : Bool := !(v.k == 4) || mayB v
set_option maxRecDepth 100000 in
set_option maxHeartbeats 3200000 in
theorem right_calls (l : List Val) (b off cap : Nat) (w : World) (hl : l.length ≤ 60000) (hv : ValsAt w b off l) (hbk : b < w.heap.size) :
    Calls Try.prog 32 #[.slice (some ⟨b, off, none⟩) l.length cap] w fun x w' => x = .returned (.bool (l.all rightB)) ∧ Below w.heap.size w w' := by
  have HV := hide hv
  clear hv
  go_enter Try.func32, Try.ntmps32
  go_wp2_with fail
  go_loopw [7] (fun i wr => ∃ k : Nat, k ≤ l.length ∧ i = .int .i64 k ∧ l.all rightB = (l.drop k).all rightB ∧ Below w.heap.size w wr) (fun i _ => l.length - (intOf i).toNat)
  case atStart => exact ⟨0, Nat.zero_le _, rfl, rfl, below_refl w⟩
  case round =>
    obtain ⟨k, hk, rfl, heq, hbw⟩ := hrel
    have HM := hide (And.intro heq hbw)
    clear heq
    by_cases hlt : k < l.length
    · obtain ⟨c1, c2, c3⟩ := HV.out.below hbw hbk k hlt
      have HD := hide (show (l.drop k).all rightB = (rightB l[k] && (l.drop (k + 1)).all rightB) by rw [List.drop_eq_getElem_cons hlt]; rfl)
      clear hbw
      obtain ⟨v, hvk⟩ : ∃ v, l[k] = v := ⟨_, rfl⟩
      rw [hvk] at c1 c2 c3 HD
      clear hvk
      obtain ⟨vk, n, s⟩ := v
      dsimp only at c1 c2 c3
      by_cases h4 : vk = 4
      · subst h4
        cases hm : mayB ⟨4, n, s⟩
        · have hA := hide (fun W => may4_calls n s W)
          rw [hm] at hA
          have hf := hide (show l.all rightB = false by rw [HM.out.1, HD.out]; unfold rightB; rw [hm]; rfl)
          clear hm
          go_wp2_with fail
          refine (hA.out _).mono ?_
          rintro e w1 ⟨rfl, hn⟩
          have hB := hide ((HM.out.2.alloc HM.out.2.size (.cells #[.int .u8 4, .int .i64 n, .string s] 38)).trans (hn.mono (by have := HM.out.2.size; simp; omega)))
          clear hn
          go_wp2_with fail
          go_ret
          exact ⟨by rw [hf.out]; rfl, hB.out⟩
        · have hA := hide (fun W => may4_calls n s W)
          rw [hm] at hA
          have hf := hide (show l.all rightB = (l.drop (k + 1)).all rightB by rw [HM.out.1, HD.out]; unfold rightB; rw [hm]; rfl)
          clear hm
          go_wp2_with fail
          refine (hA.out _).mono ?_
          rintro e w1 ⟨rfl, hn⟩
          have hB := hide ((HM.out.2.alloc HM.out.2.size (.cells #[.int .u8 4, .int .i64 n, .string s] 38)).trans (hn.mono (by have := HM.out.2.size; simp; omega)))
          clear hn
          go_wp2_with fail
          go_roundw
          case rel => exact ⟨k + 1, by omega, by go_num, hf.out, hB.out⟩
          case measure => simp [intOf]; omega
      · have h4' : (vk == 4) = false := by simpa using h4
        have hf := hide (show l.all rightB = (l.drop (k + 1)).all rightB by rw [HM.out.1, HD.out]; unfold rightB; rw [h4']; rfl)
        have hB := hide (HM.out.2.alloc HM.out.2.size (.cells #[.int .u8 vk, .int .i64 n, .string s] 38))
        clear h4
        go_wp2_with fail
        go_roundw
        case rel => exact ⟨k + 1, by omega, by go_num, hf.out, hB.out⟩
        case measure => simp [intOf]; omega
    · obtain rfl : k = l.length := by omega
      have hf := hide (show l.all rightB = true by rw [HM.out.1, List.drop_of_length_le (Nat.le_refl _)]; rfl)
      go_wp2_with fail
      go_ret
      exact ⟨by rw [hf.out]; rfl, HM.out.2⟩
end Go.Proofs.Ytlmjcifiofobpaa
