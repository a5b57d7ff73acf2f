/- The walk of ValueWorth. -/
import Derived.Test.YtlmjcifiofobpaaKnown
namespace Go.Proofs.Ytlmjcifiofobpaa
open Go.ChangeShapes Go.WideShapes Go.ChangeAt Go.RowKit
set_option linter.unusedVariables false
set_option linter.unusedSimpArgs false

/-- three boxes -/
def Tri (w : World) (a b c : Val) (W : World) : Prop := Boxed W w.heap.size a ∧ Boxed W (w.heap.size + 1) b ∧ Boxed W (w.heap.size + 1 + 1) c ∧ Below w.heap.size w W ∧ w.heap.size + 3 ≤ W.heap.size
theorem Tri.below {w W W' : World} {a b c : Val} (h : Tri w a b c W) (hb : Below W.heap.size W W') : Tri w a b c W' :=
  ⟨h.1.below hb (by have := h.2.2.2.2; omega), h.2.1.below hb (by have := h.2.2.2.2; omega), h.2.2.1.below hb (by have := h.2.2.2.2; omega), h.2.2.2.1.trans (hb.mono h.2.2.2.1.size), Nat.le_trans h.2.2.2.2 hb.size⟩
theorem Tri.start (w : World) (a b c : Val) : Tri w a b c (((w.alloc (.cells #[.int .u8 a.k, .int .i64 a.n, .string a.s] 38)).alloc (.cells #[.int .u8 b.k, .int .i64 b.n, .string b.s] 38)).alloc (.cells #[.int .u8 c.k, .int .i64 c.n, .string c.s] 38)) := by
  refine ⟨⟨?_, ?_, ?_⟩, ⟨?_, ?_, ?_⟩, ⟨?_, ?_, ?_⟩, (((below_refl w).alloc (Nat.le_refl _) _).alloc (by simp) _).alloc (by simp; omega) _, by simp⟩ <;> simp [go_sem]

/-- Compare as the law meets it -/
def CmpIs (a b : Val) (x : Int) (p : Bool) : Prop := ∀ W : World, Calls Try.prog 29 #[a.enc, b.enc] W fun e w' => e = .returned (.tuple #[.int .i64 x, .bool p]) ∧ Below W.heap.size W w'
theorem cmp_is (a b : Val) (ha : a.ok) (hb : b.ok) : CmpIs a b (cmpV a b).1 (cmpV a b).2 := fun W => compare_calls a b W ha.2.2 hb.2.2

set_option maxRecDepth 100000 in
set_option maxHeartbeats 6400000 in
theorem worth_walk (a b c : Val) (x y z : Int) (p q r self : Bool) (w : World) (k1' : CmpIs a b x p) (k2' : CmpIs b c y q) (k3' : CmpIs a c z r) (k4' : CmpIs a a 0 self)
    (h1' : (p = false) ∨ (p = true ∧ q = false) ∨ (p = true ∧ q = true ∧ r = true ∧ (x ≤ 0 → y ≤ 0 → z ≤ 0) ∧ (0 ≤ x → 0 ≤ y → 0 ≤ z)))
    (h2' : self = (decide (1 ≤ a.k) && decide (a.k ≤ 5)))
    (k5' : (a.k == 1) = true → (∃ m : Int, (∀ W : World, Calls Try.prog 31 #[a.enc, .agg #[.int .u8 2, .int .i64 0, .string ⟨#[]⟩]] W fun e w' => e = .returned (.tuple #[.agg #[.int .u8 2, .int .i64 m, .string ⟨#[]⟩], .int .i64 0]) ∧ Below W.heap.size W w') ∧
        (∀ W : World, Calls Try.prog 29 #[a.enc, .agg #[.int .u8 2, .int .i64 m, .string ⟨#[]⟩]] W fun e w' => e = .returned (.tuple #[.int .i64 0, .bool true]) ∧ Below W.heap.size W w') ∧ m = a.n * 10000 ∧ I64 m) ∨
        (∀ W : World, Calls Try.prog 31 #[a.enc, .agg #[.int .u8 2, .int .i64 0, .string ⟨#[]⟩]] W fun e w' => e = .returned (.tuple #[.agg #[.int .u8 0, .int .i64 0, .string ⟨#[]⟩], .int .i64 9]) ∧ Below W.heap.size W w')) :
    Calls Try.prog 8 #[a.enc, b.enc, c.enc] w fun x w' => x = .returned (.bool true) ∧ Below w.heap.size w w' := by
  have k1 := hide k1'
  have k2 := hide k2'
  have k3 := hide k3'
  have k4 := hide k4'
  have h1 := hide h1'
  have h2 := hide h2'
  have k5 := hide k5'
  clear k1' k2' k3' k4' h1' h2' k5'
  unfold CmpIs Val.enc at *
  go_enter Try.func8, Try.ntmps8
  go_upto_region 1 with fail
  have hI := hide (Tri.start w a b c)
  generalize ((w.alloc (.cells #[.int .u8 a.k, .int .i64 a.n, .string a.s] 38)).alloc (.cells #[.int .u8 b.k, .int .i64 b.n, .string b.s] 38)).alloc (.cells #[.int .u8 c.k, .int .i64 c.n, .string c.s] 38) = W0 at *
  obtain ⟨⟨x1, x2, x3⟩, ⟨y1, y2, y3⟩, ⟨z1, z2, z3⟩, -, -⟩ := hI.out
  go_wp2_with fail
  clear x1 x2 x3 y1 y2 y3 z1 z2 z3
  refine (k1.out _).mono ?_
  rintro e w1 ⟨rfl, hn⟩
  replace hI := hide (Tri.below hI.out hn)
  clear hn
  obtain ⟨⟨x1, x2, x3⟩, ⟨y1, y2, y3⟩, ⟨z1, z2, z3⟩, -, -⟩ := hI.out
  go_wp2_with fail
  clear x1 x2 x3 y1 y2 y3 z1 z2 z3
  refine (k2.out _).mono ?_
  rintro e w1 ⟨rfl, hn⟩
  replace hI := hide (Tri.below hI.out hn)
  clear hn
  obtain ⟨⟨x1, x2, x3⟩, ⟨y1, y2, y3⟩, ⟨z1, z2, z3⟩, -, -⟩ := hI.out
  go_wp2_with fail
  clear x1 x2 x3 y1 y2 y3 z1 z2 z3
  refine (k3.out _).mono ?_
  rintro e w1 ⟨rfl, hn⟩
  replace hI := hide (Tri.below hI.out hn)
  clear hn
  obtain ⟨⟨x1, x2, x3⟩, ⟨y1, y2, y3⟩, ⟨z1, z2, z3⟩, -, -⟩ := hI.out
  go_upto_region 4 with fail
  go_cut [8, 10, 12, 68] (fun s8 s10 s12 s wx => s = .bool false ∧ wx = w1)
  case first =>
    clear x1 x2 x3 y1 y2 y3 z1 z2 z3
    go_wp2_with fail
    all_goals
      go_meet
      refine ⟨?_, rfl⟩
      first
        | rfl
        | (rcases unhide h1 with e1 | ⟨e1, e2⟩ | ⟨e1, e2, e3, e4, e5⟩ <;> first | (exfalso; omega) | (exfalso; simp_all; done) | (refine congrArg Value.bool ?_; simp; omega))
  case rest =>
    obtain ⟨rfl, rfl⟩ := hcut
    go_wp2_with fail
    clear x1 x2 x3 y1 y2 y3 z1 z2 z3
    refine (k4.out _).mono ?_
    rintro e w1 ⟨rfl, hn⟩
    replace hI := hide (Tri.below hI.out hn)
    clear hn
    obtain ⟨⟨x1, x2, x3⟩, ⟨y1, y2, y3⟩, ⟨z1, z2, z3⟩, -, -⟩ := hI.out
    have hs2 := h2.out
    by_cases g1 : 1 ≤ a.k
    · by_cases g2 : a.k ≤ 5
      · have hs : self = true := by rw [hs2]; simp [g1, g2]
        have HS := hide hs
        clear hs2
        subst hs
        by_cases g3 : (a.k == 1) = true
        · have g4 : (a.k != 1) = false := by simpa using g3
          rcases unhide k5 g3 with ⟨m, m1, m2, m3, m4⟩ | m1
          · have M1 := hide m1
            have M2 := hide m2
            have M3 := hide (And.intro m3 m4)
            clear m1 m2 m3 m4
            go_wp2_with fail
            clear x1 x2 x3 y1 y2 y3 z1 z2 z3
            refine (M1.out _).mono ?_
            rintro e w1 ⟨rfl, hn⟩
            replace hI := hide (Tri.below hI.out hn)
            clear hn
            obtain ⟨⟨x1, x2, x3⟩, ⟨y1, y2, y3⟩, ⟨z1, z2, z3⟩, -, -⟩ := hI.out
            have hT : Three (w1.alloc (.cells #[.int .u8 2, .int .i64 m, .string ⟨#[]⟩] 38)) w1.heap.size 38 (.int .u8 2) (.int .i64 m) (.string ⟨#[]⟩) := Three.new w1 38 _ _ _
            have HT := hide hT
            replace hI := hide (Tri.below hI.out ((Below.refl w1.heap.size w1).alloc (Nat.le_refl _) (.cells #[.int .u8 2, .int .i64 m, .string ⟨#[]⟩] 38)))
            clear hT x1 x2 x3 y1 y2 y3 z1 z2 z3
            obtain ⟨⟨x1, x2, x3⟩, ⟨y1, y2, y3⟩, ⟨z1, z2, z3⟩, -, -⟩ := hI.out
            go_wp2_with fail
            clear x1 x2 x3 y1 y2 y3 z1 z2 z3
            refine (M2.out _).mono ?_
            rintro e w2 ⟨rfl, hn⟩
            obtain ⟨t1, t2, t3, -, -, -⟩ := (HT.out.below hn (by simp)).facts
            replace hI := hide (Tri.below hI.out hn)
            clear hn
            obtain ⟨⟨x1, x2, x3⟩, ⟨y1, y2, y3⟩, ⟨z1, z2, z3⟩, -, -⟩ := hI.out
            have u1 : (m.tdiv 10000 == a.n) = true := by rw [M3.out.1, Int.mul_tdiv_cancel _ (by omega)]; simp
            have u3 : (wrap64 (m.tdiv 10000) == a.n) = true := by rw [M3.out.1, Int.mul_tdiv_cancel _ (by omega)]; have := M3.out.2; rw [M3.out.1] at this; unfold I64 at this; rw [beq_iff_eq]; unfold wrap64; omega
            have u2 : (m.tmod 10000 == 0) = true := by rw [M3.out.1, Int.mul_tmod_left]; rfl
            go_wp2_with fail
            refine (known2_calls _).mono ?_
            rintro e w1 ⟨rfl, hn⟩
            replace hI := hide (Tri.below hI.out hn)
            clear hn x1 x2 x3 y1 y2 y3 z1 z2 z3
            go_wp2_with fail
            go_ret
            exact ⟨rfl, hI.out.2.2.2.1⟩
          · have M1 := hide m1
            clear m1
            go_wp2_with fail
            clear x1 x2 x3 y1 y2 y3 z1 z2 z3
            refine (M1.out _).mono ?_
            rintro e w1 ⟨rfl, hn⟩
            replace hI := hide (Tri.below hI.out hn)
            clear hn
            obtain ⟨⟨x1, x2, x3⟩, ⟨y1, y2, y3⟩, ⟨z1, z2, z3⟩, -, -⟩ := hI.out
            replace hI := hide (Tri.below hI.out ((Below.refl w1.heap.size w1).alloc (Nat.le_refl _) (.cells #[.int .u8 0, .int .i64 0, .string ⟨#[]⟩] 38)))
            go_wp2_with fail
            refine (known2_calls _).mono ?_
            rintro e w1 ⟨rfl, hn⟩
            replace hI := hide (Tri.below hI.out hn)
            clear hn x1 x2 x3 y1 y2 y3 z1 z2 z3
            go_wp2_with fail
            go_ret
            exact ⟨rfl, hI.out.2.2.2.1⟩
        · have g4 : (a.k != 1) = true := by simpa using g3
          clear g3
          go_wp2_with fail
          refine (known2_calls _).mono ?_
          rintro e w1 ⟨rfl, hn⟩
          replace hI := hide (Tri.below hI.out hn)
          clear hn x1 x2 x3 y1 y2 y3 z1 z2 z3
          go_wp2_with fail
          go_ret
          exact ⟨rfl, hI.out.2.2.2.1⟩
      · have hs : self = false := by rw [hs2]; simp [g2]
        clear hs2
        subst hs
        have g4 : (a.k != 1) = true := by simp; omega
        go_wp2_with fail
        refine (known2_calls _).mono ?_
        rintro e w1 ⟨rfl, hn⟩
        replace hI := hide (Tri.below hI.out hn)
        clear hn x1 x2 x3 y1 y2 y3 z1 z2 z3
        go_wp2_with fail
        go_ret
        exact ⟨rfl, hI.out.2.2.2.1⟩
    · have hs : self = false := by rw [hs2]; simp [g1]
      clear hs2
      subst hs
      have g4 : (a.k != 1) = true := by simp; omega
      go_wp2_with fail
      refine (known2_calls _).mono ?_
      rintro e w1 ⟨rfl, hn⟩
      replace hI := hide (Tri.below hI.out hn)
      clear hn x1 x2 x3 y1 y2 y3 z1 z2 z3
      go_wp2_with fail
      go_ret
      exact ⟨rfl, hI.out.2.2.2.1⟩
end Go.Proofs.Ytlmjcifiofobpaa
