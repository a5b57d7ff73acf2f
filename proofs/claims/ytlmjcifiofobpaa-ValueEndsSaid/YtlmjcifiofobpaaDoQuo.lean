/- The contract of package value's do, with the numbers' functions 20 and 14. -/
import Derived.Test.YtlmjcifiofobpaaTold
namespace Go.Proofs.Ytlmjcifiofobpaa
open Go.ChangeShapes Go.WideShapes Go.ChangeAt Go.RowKit
set_option linter.unusedVariables false
set_option linter.unusedSimpArgs false

set_option maxRecDepth 100000 in
set_option maxHeartbeats 6400000 in
theorem do_quo (F G : Int → Int → Int × Int) (hF : ArithOK 20 F) (hG : ArithOK 14 G) (a b : Val) (ha : a.ok) (hb : b.ok) (w : World) :
    Calls Try.prog 65 #[a.enc, b.enc, .func (.func 20) #[] #[], .func (.func 14) #[] #[]] w fun x w' => x = .returned (.tuple #[(doF F G a b).1.enc, .int .i64 (doF F G a b).2]) ∧ Below w.heap.size w w' := by
  have HF := hide hF
  have HG := hide hG
  have HP := hide (alike_parts a b ha hb)
  have HA := hide (fun (W : World) (hv : ValsAt W (w.heap.size + 1 + 1 + 1) 0 [a, b]) (hs : w.heap.size + 1 + 1 + 1 < W.heap.size) => alike_calls [a, b] (w.heap.size + 1 + 1 + 1) 0 2 W (by simp) hv hs (by simp [ha, hb]))
  obtain ⟨W, hW, hT, hV, hsz, hbw⟩ := do_start w a b
  have HS := hide (And.intro hT (And.intro hV (And.intro hsz hbw)))
  clear hF hG ha hb hT hV hsz hbw
  unfold Val.enc at *
  go_enter Try.func65, Try.ntmps65
  go_wp2_with fail
  rw [← hW]
  clear hW
  refine (HA.out W HS.out.2.1 (by have := HS.out.2.2.1; omega)).mono ?_
  rintro e w1 ⟨A, n, cap, rfl, hn, hb1, hr⟩
  have hB := hide (HS.out.2.2.2.trans (hb1.mono (by have := HS.out.2.2.1; omega)))
  have hT1 := hide (HS.out.1.below hb1 (by have := HS.out.2.2.1; omega))
  have HN := hide (And.intro hn hr)
  have hbig : w.heap.size + 4 ≤ w1.heap.size := by have h1 := HS.out.2.2.1; have h2 := hb1.size; omega
  clear hn hr hb1
  have c0 := fun o => (hT1.out.alloc o).facts.1
  have c1 := fun o => (hT1.out.alloc o).facts.2.1
  have c2 := fun o => (hT1.out.alloc o).facts.2.2.1
  have f0 := fun o => (hT1.out.alloc o).facts.2.2.2.1
  have f1 := fun o => (hT1.out.alloc o).facts.2.2.2.2.1
  have f2 := fun o => (hT1.out.alloc o).facts.2.2.2.2.2
  obtain ⟨N, hNN⟩ : ∃ N, (alikeF [a, b]).2.1 = N := ⟨_, rfl⟩
  obtain ⟨E, hEE⟩ : ∃ E, (alikeF [a, b]).2.2 = E := ⟨_, rfl⟩
  rw [hNN, hEE]
  rcases HP.out with hp | hp
  · rw [hNN, hEE] at hp
    have hf := hide (show doF F G a b = (Val.zero, E) by unfold doF; rw [if_pos (by rw [hNN, hEE]; exact hp), hEE])
    have hp2 := hide hp
    clear hNN hEE hp
    cases N
    · have hE : (E != 0) = true := by simpa using hp2.out
      go_wp2_with fail
      refine bodyPost_ret (v := .tuple #[.agg #[.int .u8 0, .int .i64 0, .string ⟨#[]⟩], .int .i64 E]) (by simp [results, Try.results65, go_sem, c0, c1, c2]) rfl ?_
      exact ⟨by rw [hf.out]; rfl, below_set3 (hB.out.alloc hB.out.size _) (by omega) _ _ _⟩
    · go_wp2_with fail
      refine bodyPost_ret (v := .tuple #[.agg #[.int .u8 0, .int .i64 0, .string ⟨#[]⟩], .int .i64 E]) (by simp [results, Try.results65, go_sem, c0, c1, c2]) rfl ?_
      exact ⟨by rw [hf.out]; rfl, below_set3 (hB.out.alloc hB.out.size _) (by omega) _ _ _⟩
  · obtain ⟨p1, p2, x, y, p3, p4, p5, p6, p7⟩ := hp
    obtain rfl : N = false := by rw [← hNN, p1]
    obtain rfl : E = 0 := by rw [← hEE, p2]
    have hfx := hide (show doF F G a b = toldF x.k (if x.k = 2 then G x.n y.n else F x.n y.n) by unfold doF; rw [if_neg (by rw [p1, p2]; simp), p3])
    obtain ⟨n1, n2⟩ := HN.out
    rw [p3] at n1 n2
    obtain rfl : n = 2 := n1
    obtain ⟨g0, rfl, hva, hgl, hgg⟩ := n2.resolve_left (by omega)
    have hgg2 : w.heap.size + 4 ≤ g0 := by have := HS.out.2.2.1; omega
    have hx := hva 0 (by simp)
    have hy := hva 1 (by simp)
    simp only [List.getElem_cons_zero, List.getElem_cons_succ, Nat.zero_mul, Nat.add_zero, Nat.zero_add, Nat.one_mul] at hx hy
    have x0 := fun o => (World.cell?_alloc_lt w1 o ⟨g0, 0, none⟩ hgl).trans hx.1
    have x1 := fun o => (World.cell?_alloc_lt w1 o ⟨g0, 1, none⟩ hgl).trans hx.2.1
    have y1 := fun o => (World.cell?_alloc_lt w1 o ⟨g0, 4, none⟩ hgl).trans hy.2.1
    have Q := hide (And.intro p4 (And.intro p5 p7))
    clear hNN hEE p1 p2 p3 p4 p5 p6 p7 n2 hva hx hy
    by_cases hk : (x.k == 2) = true
    · have hfk := hide (show doF F G a b = toldF x.k (G x.n y.n) by rw [hfx.out, if_pos (by simpa using hk)])
      go_wp2_with fail
      have S0 : (w1.alloc (.cells #[.slice (some ⟨g0, 0, none⟩) 2 cap] 72)).drew.cell? ⟨w1.heap.size, 0, none⟩ = some (.slice (some ⟨g0, 0, none⟩) 2 cap) ∧ (w1.alloc (.cells #[.slice (some ⟨g0, 0, none⟩) 2 cap] 72)).drew.cell? ⟨g0, 0, none⟩ = some (.int .u8 x.k) ∧ (w1.alloc (.cells #[.slice (some ⟨g0, 0, none⟩) 2 cap] 72)).drew.cell? ⟨g0, 1, none⟩ = some (.int .i64 x.n) ∧ (w1.alloc (.cells #[.slice (some ⟨g0, 0, none⟩) 2 cap] 72)).drew.cell? ⟨g0, 4, none⟩ = some (.int .i64 y.n) := ⟨by simp [go_sem], x0 _, x1 _, y1 _⟩
      have hT3 : Hid (Three (w1.alloc (.cells #[.slice (some ⟨g0, 0, none⟩) 2 cap] 72)).drew (w.heap.size + 1 + 1) 38 (.int .u8 0) (.int .i64 0) (.string ⟨#[]⟩)) := hide (hT1.out.alloc _)
      clear c0 c1 c2 f0 f1 f2 x0 x1 y1
      go_region_held3 (fun w' => w'.cell? ⟨w1.heap.size, 0, none⟩ = some (.slice (some ⟨g0, 0, none⟩) 2 cap) ∧ w'.cell? ⟨g0, 0, none⟩ = some (.int .u8 x.k) ∧ w'.cell? ⟨g0, 1, none⟩ = some (.int .i64 x.n) ∧ w'.cell? ⟨g0, 4, none⟩ = some (.int .i64 y.n))
        (first | exact S0 | exact do_keep S0 hb2 (by simp) (by simp; omega) | exact do_keep (do_keep S0 hb2 (by simp) (by simp; omega)) hb3 (by have := hb2.size; simp at this; omega) (by have := hb2.size; simp at this; omega) | exact do_keep_set _ _ _ (do_keep (do_keep S0 hb2 (by simp) (by simp; omega)) hb3 (by have := hb2.size; simp at this; omega) (by have := hb2.size; simp at this; omega)) (by omega) (by omega))
        (first | (go_at_call 14; refine (unhide HG x.n y.n Q.out.1 Q.out.2.1 _).mono ?_; rintro e w2 ⟨rfl, hb2⟩) | (go_at_call 81; refine (told_held (xk := x.k) (xn := x.n) (yn := y.n) _ _ (by assumption)).mono ?_; rintro e w3 ⟨rfl, hb3⟩; obtain ⟨r0, r1, r2, r3, r4, r5⟩ := ((hT3.out.below (W' := w2) hb2 (by simp; omega)).below hb3 (by have := hb2.size; simp at this; omega)).facts))
      clear S0 hT3
      go_wp2_with fail
      refine bodyPost_ret (v := .tuple #[.agg #[.int .u8 (toldF x.k (G x.n y.n)).1.k, .int .i64 (toldF x.k (G x.n y.n)).1.n, .string (toldF x.k (G x.n y.n)).1.s], .int .i64 (toldF x.k (G x.n y.n)).2]) (by simp [results, Try.results65, go_sem, r0, r1, r2]) rfl ?_
      refine ⟨by rw [hfk.out], below_set3 ?_ (by omega) _ _ _⟩
      exact (((hB.out.alloc hB.out.size _).drew).trans (hb2.mono (by simp; omega))).trans (hb3.mono (by have := hb2.size; simp at this; omega))
    · have hk' : (x.k == 2) = false := by simpa using hk
      have hfk := hide (show doF F G a b = toldF x.k (F x.n y.n) by rw [hfx.out, if_neg (by simpa using hk)])
      clear hk
      go_wp2_with fail
      have S0 : (w1.alloc (.cells #[.slice (some ⟨g0, 0, none⟩) 2 cap] 72)).drew.cell? ⟨w1.heap.size, 0, none⟩ = some (.slice (some ⟨g0, 0, none⟩) 2 cap) ∧ (w1.alloc (.cells #[.slice (some ⟨g0, 0, none⟩) 2 cap] 72)).drew.cell? ⟨g0, 0, none⟩ = some (.int .u8 x.k) ∧ (w1.alloc (.cells #[.slice (some ⟨g0, 0, none⟩) 2 cap] 72)).drew.cell? ⟨g0, 1, none⟩ = some (.int .i64 x.n) ∧ (w1.alloc (.cells #[.slice (some ⟨g0, 0, none⟩) 2 cap] 72)).drew.cell? ⟨g0, 4, none⟩ = some (.int .i64 y.n) := ⟨by simp [go_sem], x0 _, x1 _, y1 _⟩
      have hT3 : Hid (Three (w1.alloc (.cells #[.slice (some ⟨g0, 0, none⟩) 2 cap] 72)).drew (w.heap.size + 1 + 1) 38 (.int .u8 0) (.int .i64 0) (.string ⟨#[]⟩)) := hide (hT1.out.alloc _)
      clear c0 c1 c2 f0 f1 f2 x0 x1 y1
      go_region_held3 (fun w' => w'.cell? ⟨w1.heap.size, 0, none⟩ = some (.slice (some ⟨g0, 0, none⟩) 2 cap) ∧ w'.cell? ⟨g0, 0, none⟩ = some (.int .u8 x.k) ∧ w'.cell? ⟨g0, 1, none⟩ = some (.int .i64 x.n) ∧ w'.cell? ⟨g0, 4, none⟩ = some (.int .i64 y.n))
        (first | exact S0 | exact do_keep S0 hb2 (by simp) (by simp; omega) | exact do_keep (do_keep S0 hb2 (by simp) (by simp; omega)) hb3 (by have := hb2.size; simp at this; omega) (by have := hb2.size; simp at this; omega) | exact do_keep_set _ _ _ (do_keep (do_keep S0 hb2 (by simp) (by simp; omega)) hb3 (by have := hb2.size; simp at this; omega) (by have := hb2.size; simp at this; omega)) (by omega) (by omega))
        (first | (go_at_call 20; refine (unhide HF x.n y.n Q.out.1 Q.out.2.1 _).mono ?_; rintro e w2 ⟨rfl, hb2⟩) | (go_at_call 81; refine (told_held (xk := x.k) (xn := x.n) (yn := y.n) _ _ (by assumption)).mono ?_; rintro e w3 ⟨rfl, hb3⟩; obtain ⟨r0, r1, r2, r3, r4, r5⟩ := ((hT3.out.below (W' := w2) hb2 (by simp; omega)).below hb3 (by have := hb2.size; simp at this; omega)).facts))
      clear S0 hT3
      go_wp2_with fail
      refine bodyPost_ret (v := .tuple #[.agg #[.int .u8 (toldF x.k (F x.n y.n)).1.k, .int .i64 (toldF x.k (F x.n y.n)).1.n, .string (toldF x.k (F x.n y.n)).1.s], .int .i64 (toldF x.k (F x.n y.n)).2]) (by simp [results, Try.results65, go_sem, r0, r1, r2]) rfl ?_
      refine ⟨by rw [hfk.out], below_set3 ?_ (by omega) _ _ _⟩
      exact (((hB.out.alloc hB.out.size _).drew).trans (hb2.mono (by simp; omega))).trans (hb3.mono (by have := hb2.size; simp at this; omega))
end Go.Proofs.Ytlmjcifiofobpaa
