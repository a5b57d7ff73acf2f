/- The contracts of package value's Neg, first, Least and Most. -/
import Derived.Test.YtlmjcifiofobpaaLogic
namespace Go.Proofs.Ytlmjcifiofobpaa
open Go.ChangeShapes Go.WideShapes Go.ChangeAt Go.RowKit
set_option linter.unusedVariables false
set_option linter.unusedSimpArgs false

def vneg (a : Val) : Val × Int := vsub ⟨max (min a.k 2) 1, 0, ⟨#[]⟩⟩ a
theorem vneg_calls (a : Val) (ha : a.ok) (w : World) : Calls Try.prog 42 #[a.enc] w fun x w' => x = .returned (.tuple #[(vneg a).1.enc, .int .i64 (vneg a).2]) ∧ Below w.heap.size w w' := by
  have hz : Val.ok ⟨max (min a.k 2) 1, 0, ⟨#[]⟩⟩ := by unfold Val.ok I64; dsimp only; omega
  have HD := hide (fun W => vsub_calls ⟨max (min a.k 2) 1, 0, ⟨#[]⟩⟩ a hz ha W)
  have HF := hide (show vneg a = vsub ⟨max (min a.k 2) 1, 0, ⟨#[]⟩⟩ a from rfl)
  obtain ⟨⟨rk, rn, rs⟩, hr⟩ : ∃ r, (vsub ⟨max (min a.k 2) 1, 0, ⟨#[]⟩⟩ a).1 = r := ⟨_, rfl⟩
  obtain ⟨re, hre⟩ : ∃ r, (vsub ⟨max (min a.k 2) 1, 0, ⟨#[]⟩⟩ a).2 = r := ⟨_, rfl⟩
  have HR := hide (And.intro hr hre)
  rw [hr, hre] at HD
  have hB := hide (((below_refl w).alloc (Nat.le_refl _) (.cells #[.int .u8 a.k, .int .i64 a.n, .string a.s] 38)).alloc (by simp) (.cells #[.int .u8 0, .int .i64 0, .string ⟨#[]⟩] 38))
  have hT := hide (Three.new (w.alloc (.cells #[.int .u8 a.k, .int .i64 a.n, .string a.s] 38)) 38 (.int .u8 0) (.int .i64 0) (.string ⟨#[]⟩))
  clear ha hz hr hre
  unfold Val.enc at *
  dsimp only at *
  go_enter Try.func42, Try.ntmps42
  go_wp2_with fail
  refine (HD.out _).mono ?_
  rintro e w1 ⟨rfl, hn⟩
  have hB2 := hide (hB.out.trans (hn.mono (by simp; omega)))
  obtain ⟨r0, r1, r2, r3, r4, r5⟩ := (hT.out.below hn (by simp)).facts
  rw [World.size_alloc] at r0 r1 r2 r3 r4 r5
  clear hn
  go_wp2_with fail
  refine bodyPost_ret (v := .tuple #[.agg #[.int .u8 rk, .int .i64 rn, .string rs], .int .i64 re]) (by simp [results, Try.results42, go_sem, r0, r1, r2]) rfl ?_
  exact ⟨by rw [HF.out, HR.out.1, HR.out.2], below_set3 hB2.out (by omega) _ _ _⟩

/-- the one that compares so with all -/
def pickF (c : Int) : List Val → Val → Val
  | [], out => out
  | v :: l, out => pickF c l (if cmpI v.n out.n = c then v else out)
def firstF (c : Int) (l : List Val) : Val × Int :=
  if (alikeF l).2.1 = true ∨ (alikeF l).2.2 ≠ 0 then (Val.zero, (alikeF l).2.2)
  else match (alikeF l).1 with
    | [] => (Val.zero, 0)
    | x :: r => (pickF c (x :: r) x, 0)

theorem first_start (w w1 : World) (hb : Below (w.alloc (.cells #[.int .u8 0, .int .i64 0, .string ⟨#[]⟩] 38)).heap.size (w.alloc (.cells #[.int .u8 0, .int .i64 0, .string ⟨#[]⟩] 38)) w1) :
    Three w1 w.heap.size 38 (.int .u8 0) (.int .i64 0) (.string ⟨#[]⟩) ∧ Below w.heap.size w w1 ∧ w.heap.size + 1 ≤ w1.heap.size := by
  have h1 := hb.size
  simp at h1
  exact ⟨(Three.new w 38 _ _ _).below hb (by simp), ((below_refl w).alloc (Nat.le_refl _) _).trans (hb.mono (by simp)), by omega⟩

set_option maxRecDepth 100000 in
set_option maxHeartbeats 3200000 in
theorem first_calls (c : Int) (l : List Val) (b off cap : Nat) (w : World) (hl : l.length ≤ 60000) (hv : ValsAt w b off l) (hbk : b < w.heap.size) (hok : ∀ v ∈ l, Val.ok v) :
    Calls Try.prog 71 #[.int .i64 c, .slice (some ⟨b, off, none⟩) l.length cap] w fun x w' => x = .returned (.tuple #[(firstF c l).1.enc, .int .i64 (firstF c l).2]) ∧ Below w.heap.size w w' := by
  have HA := hide (alike_calls l b off cap (w.alloc (.cells #[.int .u8 0, .int .i64 0, .string ⟨#[]⟩] 38)) hl (hv.below ((below_refl w).alloc (Nat.le_refl _) _) hbk) (by simp; omega) hok)
  clear hv hok
  go_enter Try.func71, Try.ntmps71
  go_wp2_with fail
  refine (HA.out).mono ?_
  rintro e w1 ⟨A, n, acap, rfl, hn, hb1, hr⟩
  have HS := hide (first_start w w1 hb1)
  have HN := hide (And.intro hn hr)
  clear hn hr hb1 HA
  obtain ⟨r0, r1, r2, r3, r4, r5⟩ := HS.out.1.facts
  obtain ⟨N, hNN⟩ : ∃ N, (alikeF l).2.1 = N := ⟨_, rfl⟩
  obtain ⟨E, hEE⟩ : ∃ E, (alikeF l).2.2 = E := ⟨_, rfl⟩
  obtain ⟨O, hOO⟩ : ∃ O, (alikeF l).1 = O := ⟨_, rfl⟩
  have HE := hide (And.intro hNN (And.intro hEE hOO))
  rw [hNN, hEE]
  rw [hOO] at HN
  clear hNN hEE hOO
  have fin : ∀ e2 : Int, E = e2 → (N = true ∨ E ≠ 0) ∨ O = [] → firstF c l = (Val.zero, e2) := by
    rintro e2 rfl h
    unfold firstF
    rw [HE.out.1, HE.out.2.1, HE.out.2.2]
    by_cases h1 : N = true ∨ E ≠ 0
    · rw [if_pos h1]
    · rw [if_neg h1]
      have h2 := h.resolve_left h1
      subst h2
      have h3 : E = 0 := by omega
      rw [h3]
  have HF := hide fin
  clear fin
  cases N
  · by_cases hE : E = 0
    · subst hE
      cases O with
      | nil =>
        have hf := hide (unhide HF 0 rfl (.inr rfl))
        have h0 : n = 0 := HN.out.1
        subst h0
        go_wp2_with fail
        refine bodyPost_ret (v := .tuple #[.agg #[.int .u8 0, .int .i64 0, .string ⟨#[]⟩], .int .i64 0]) (by simp [results, Try.results71, go_sem, r0, r1, r2]) rfl ?_
        exact ⟨by rw [hf.out]; rfl, below_set3 HS.out.2.1 (by omega) _ _ _⟩
      | cons x r =>
        have hf := hide (show firstF c l = (pickF c (x :: r) x, 0) by unfold firstF; rw [HE.out.1, HE.out.2.1, HE.out.2.2]; rfl)
        obtain ⟨n1, n2⟩ := HN.out
        have hnl : n = r.length + 1 := n1
        subst hnl
        obtain ⟨g0, rfl, hva, hgl, hgg⟩ := n2.resolve_left (by omega)
        obtain ⟨L, hL⟩ : ∃ L, x :: r = L := ⟨_, rfl⟩
        have hLn : L.length = r.length + 1 := by rw [← hL]; rfl
        have hLl : L.length ≤ 60000 := by
          have h1 := HE.out.2.2
          rw [hL] at h1
          have h2 : (alikeF l).1.length ≤ l.length := by
            unfold alikeF
            (repeat' split) <;> simp
          rw [h1] at h2
          omega
        rw [← hLn]
        rw [hL] at hva
        have hx := hva 0 (by omega)
        have hx0 : L[0]'(by omega) = x := by subst hL; rfl
        rw [hx0] at hx
        rw [hL] at hf
        obtain ⟨x0, x1, x2⟩ := hx
        simp only [Nat.zero_mul, Nat.add_zero, Nat.zero_add] at x0 x1 x2
        have HV := hide hva
        have hLp : 0 < L.length := by omega
        clear hx0 n1 n2 hva HF HN
        clear hL hLn
        have hlz : ((L.length : Int) == 0) = false := by rw [beq_eq_false_iff_ne]; omega
        go_wp2_with fail
        go_loopw [35] (fun i wr => ∃ (k : Nat) (out : Val), k ≤ L.length ∧ i = .int .i64 k ∧ pickF c L x = pickF c (L.drop k) out ∧ Three wr w1.heap.size 38 (.int .u8 out.k) (.int .i64 out.n) (.string out.s) ∧ Below w1.heap.size w1 wr) (fun i _ => L.length - (intOf i).toNat)
        case atStart => exact ⟨0, x, Nat.zero_le _, rfl, rfl, Three.new _ _ _ _ _, (below_refl w1).alloc (Nat.le_refl _) _⟩
        case round =>
          obtain ⟨k, out, hk, rfl, heq, hT, hbw⟩ := hrel
          have HM := hide (And.intro heq (And.intro hT hbw))
          clear heq r0 r1 r2 r3 r4 r5 x0 x1 x2
          by_cases hlt : k < L.length
          · obtain ⟨c1, c2, c3⟩ := HV.out.below hbw hgl k hlt
            simp only [Nat.zero_add] at c1 c2 c3
            have HD := hide (show L.drop k = L[k] :: L.drop (k + 1) from List.drop_eq_getElem_cons hlt)
            obtain ⟨v, hvk⟩ : ∃ v, L[k] = v := ⟨_, rfl⟩
            rw [hvk] at c1 c2 c3 HD
            have HT5 := hide (hT.alloc (.cells #[.int .u8 v.k, .int .i64 v.n, .string v.s] 38))
            have HN5 := hide (Three.new wr 38 (.int .u8 v.k) (.int .i64 v.n) (.string v.s))
            have HB5 := hide (HM.out.2.2.alloc HM.out.2.2.size (.cells #[.int .u8 v.k, .int .i64 v.n, .string v.s] 38))
            have hsz := hT.lt
            clear hvk hT hbw
            go_upto_region 8 with fail
            obtain ⟨W5, hW5⟩ : ∃ W5, wr.alloc (.cells #[.int .u8 v.k, .int .i64 v.n, .string v.s] 38) = W5 := ⟨_, rfl⟩
            rw [hW5] at HT5 HN5 HB5
            rw [hW5]
            clear hW5
            obtain ⟨o1, o2, o3, q1, q2, q3⟩ := HT5.out.facts
            obtain ⟨p1, p2, p3⟩ := HN5.out.cells
            have HC := hide (fun W => cmpN_calls v.n out.n W)
            obtain ⟨z, hz⟩ : ∃ z, cmpI v.n out.n = z := ⟨_, rfl⟩
            rw [hz] at HC
            have HZ := hide hz
            clear hz
            by_cases hc : z = c
            · have hc' : (z == c) = true := by simpa using hc
              have hg := hide (show pickF c L x = pickF c (L.drop (k + 1)) v by rw [HM.out.1, HD.out, pickF, HZ.out, if_pos hc])
              clear hc
              go_wp2_with fail
              refine (HC.out _).mono ?_
              rintro e w2 ⟨rfl, rfl⟩
              go_wp2_with fail
              go_roundw
              case rel => exact ⟨k + 1, v, by omega, by go_num, hg.out, HT5.out.set3 _ _ _, below_set3 HB5.out (Nat.le_refl _) _ _ _⟩
              case measure => simp [intOf]; omega
            · have hc' : (z == c) = false := by simpa using hc
              have hg := hide (show pickF c L x = pickF c (L.drop (k + 1)) out by rw [HM.out.1, HD.out, pickF, HZ.out, if_neg hc])
              clear hc
              go_wp2_with fail
              refine (HC.out _).mono ?_
              rintro e w2 ⟨rfl, rfl⟩
              go_wp2_with fail
              go_roundw
              case rel => exact ⟨k + 1, out, by omega, by go_num, hg.out, HT5.out, HB5.out⟩
              case measure => simp [intOf]; omega
          · obtain rfl : k = L.length := by omega
            obtain ⟨o1, o2, o3⟩ := hT.cells
            have hTz := HS.out.1.below hbw (by have := HS.out.2.2; omega)
            obtain ⟨s0, s1, s2, s3, s4, s5⟩ := hTz.facts
            have hBf := hide (HS.out.2.1.trans (hbw.mono HS.out.2.1.size))
            have hff := hide (show firstF c l = (out, 0) by rw [hf.out, HM.out.1, List.drop_of_length_le (Nat.le_refl _)]; rfl)
            clear hTz hbw hT
            go_wp2_with fail
            refine bodyPost_ret (v := .tuple #[.agg #[.int .u8 out.k, .int .i64 out.n, .string out.s], .int .i64 0]) (by simp [results, Try.results71, go_sem, s0, s1, s2]) rfl ?_
            exact ⟨by rw [hff.out]; rfl, below_set3 hBf.out (by omega) _ _ _⟩
    · have hE' : (E != 0) = true := by simpa using hE
      have hf := hide (unhide HF E rfl (.inl (.inr hE)))
      clear hE HN
      go_wp2_with fail
      refine bodyPost_ret (v := .tuple #[.agg #[.int .u8 0, .int .i64 0, .string ⟨#[]⟩], .int .i64 E]) (by simp [results, Try.results71, go_sem, r0, r1, r2]) rfl ?_
      exact ⟨by rw [hf.out]; rfl, below_set3 HS.out.2.1 (by omega) _ _ _⟩
  · have hf := hide (unhide HF E rfl (.inl (.inl rfl)))
    clear HN
    go_wp2_with fail
    refine bodyPost_ret (v := .tuple #[.agg #[.int .u8 0, .int .i64 0, .string ⟨#[]⟩], .int .i64 E]) (by simp [results, Try.results71, go_sem, r0, r1, r2]) rfl ?_
    exact ⟨by rw [hf.out]; rfl, below_set3 HS.out.2.1 (by omega) _ _ _⟩

set_option maxHeartbeats 800000 in
theorem least_calls (l : List Val) (b off cap : Nat) (w : World) (hl : l.length ≤ 60000) (hv : ValsAt w b off l) (hbk : b < w.heap.size) (hok : ∀ v ∈ l, Val.ok v) :
    Calls Try.prog 39 #[.slice (some ⟨b, off, none⟩) l.length cap] w fun x w' => x = .returned (.tuple #[(firstF (-1) l).1.enc, .int .i64 (firstF (-1) l).2]) ∧ Below w.heap.size w w' := by
  have HA := hide (first_calls (-1) l b off cap (w.alloc (.cells #[.int .u8 0, .int .i64 0, .string ⟨#[]⟩] 38)) hl (hv.below ((below_refl w).alloc (Nat.le_refl _) _) hbk) (by simp; omega) hok)
  obtain ⟨⟨rk, rn, rs⟩, hr⟩ : ∃ r, (firstF (-1) l).1 = r := ⟨_, rfl⟩
  obtain ⟨re, hre⟩ : ∃ r, (firstF (-1) l).2 = r := ⟨_, rfl⟩
  rw [hr, hre] at HA ⊢
  clear hv hok hr hre
  unfold Val.enc at *
  dsimp only at *
  go_enter Try.func39, Try.ntmps39
  go_wp2_with fail
  refine HA.out.mono ?_
  rintro e w1 ⟨rfl, hn⟩
  have HS := hide (first_start w w1 hn)
  obtain ⟨r0, r1, r2, r3, r4, r5⟩ := HS.out.1.facts
  clear hn
  go_wp2_with fail
  refine bodyPost_ret (v := .tuple #[.agg #[.int .u8 rk, .int .i64 rn, .string rs], .int .i64 re]) (by simp [results, Try.results39, go_sem, r0, r1, r2]) rfl ?_
  exact ⟨rfl, below_set3 HS.out.2.1 (by omega) _ _ _⟩

set_option maxHeartbeats 800000 in
theorem most_calls (l : List Val) (b off cap : Nat) (w : World) (hl : l.length ≤ 60000) (hv : ValsAt w b off l) (hbk : b < w.heap.size) (hok : ∀ v ∈ l, Val.ok v) :
    Calls Try.prog 40 #[.slice (some ⟨b, off, none⟩) l.length cap] w fun x w' => x = .returned (.tuple #[(firstF 1 l).1.enc, .int .i64 (firstF 1 l).2]) ∧ Below w.heap.size w w' := by
  have HA := hide (first_calls 1 l b off cap (w.alloc (.cells #[.int .u8 0, .int .i64 0, .string ⟨#[]⟩] 38)) hl (hv.below ((below_refl w).alloc (Nat.le_refl _) _) hbk) (by simp; omega) hok)
  obtain ⟨⟨rk, rn, rs⟩, hr⟩ : ∃ r, (firstF 1 l).1 = r := ⟨_, rfl⟩
  obtain ⟨re, hre⟩ : ∃ r, (firstF 1 l).2 = r := ⟨_, rfl⟩
  rw [hr, hre] at HA ⊢
  clear hv hok hr hre
  unfold Val.enc at *
  dsimp only at *
  go_enter Try.func40, Try.ntmps40
  go_wp2_with fail
  refine HA.out.mono ?_
  rintro e w1 ⟨rfl, hn⟩
  have HS := hide (first_start w w1 hn)
  obtain ⟨r0, r1, r2, r3, r4, r5⟩ := HS.out.1.facts
  clear hn
  go_wp2_with fail
  refine bodyPost_ret (v := .tuple #[.agg #[.int .u8 rk, .int .i64 rn, .string rs], .int .i64 re]) (by simp [results, Try.results40, go_sem, r0, r1, r2]) rfl ?_
  exact ⟨rfl, below_set3 HS.out.2.1 (by omega) _ _ _⟩
end Go.Proofs.Ytlmjcifiofobpaa
