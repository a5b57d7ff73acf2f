/- The walk of ValueSums. -/
import Derived.Test.YtlmjcifiofobpaaMay
import Derived.Test.YtlmjcifiofobpaaFirst
namespace Go.Proofs.Ytlmjcifiofobpaa
open Go.ChangeShapes Go.WideShapes Go.ChangeAt Go.RowKit
set_option linter.unusedVariables false
set_option linter.unusedSimpArgs false

theorem neq38_self (R : Val) (W : World) : (binOp .neq 38 (.agg #[.int .u8 R.k, .int .i64 R.n, .string R.s]) (.agg #[.int .u8 R.k, .int .i64 R.n, .string R.s])).run Try.prog W = .ok (.bool false) W := by
  go_simp
theorem eql38_self (R : Val) (W : World) : (binOp .eql 38 (.agg #[.int .u8 R.k, .int .i64 R.n, .string R.s]) (.agg #[.int .u8 R.k, .int .i64 R.n, .string R.s])).run Try.prog W = .ok (.bool true) W := by
  go_simp
/-- two values in, a value out -/
def Gives2 (f : Nat) (a b r : Val) (e : Int) : Prop := ∀ W : World, Calls Try.prog f #[a.enc, b.enc] W fun x w' => x = .returned (.tuple #[r.enc, .int .i64 e]) ∧ Below W.heap.size W w'
def Gives1 (f : Nat) (a r : Val) (e : Int) : Prop := ∀ W : World, Calls Try.prog f #[a.enc] W fun x w' => x = .returned (.tuple #[r.enc, .int .i64 e]) ∧ Below W.heap.size W w'
def Tells1 (f : Nat) (a : Val) (q : Bool) : Prop := ∀ W : World, Calls Try.prog f #[a.enc] W fun x w' => x = .returned (.bool q) ∧ Below W.heap.size W w'

set_option maxRecDepth 100000 in
set_option maxHeartbeats 6400000 in
theorem sums_walk (a b s p m d : Val) (ma mb : Bool) (e g i j : Int) (w : World) (ka' : Tells1 38 a ma) (kb' : Tells1 38 b mb)
    (a1' : Gives2 31 a b s e) (a2' : Gives2 31 b a s e) (m1' : Gives2 41 a b p g) (m2' : Gives2 41 b a p g) (ks' : ma = true → mb = true → Tells1 38 s true) (kp' : ma = true → mb = true → Tells1 38 p true)
    (hz' : a.k = 0 ∨ b.k = 0 → s = Val.zero ∧ (e = 0 ∨ e = 8)) (n1' : Gives1 42 b m i) (hi' : i = 0 ∨ m = Val.zero ∧ (i = 8 ∨ i = 9))
    (s1' : Gives2 34 a b d j) (s2' : i = 0 → Gives2 31 a m d j) (n2' : ma = true → mb = true → i = 0 → Gives1 42 m b 0) :
    Calls Try.prog 11 #[a.enc, b.enc] w fun x w' => x = .returned (.bool true) ∧ Below w.heap.size w w' := by
  have ka := hide ka'
  have kb := hide kb'
  have a1 := hide a1'
  have a2 := hide a2'
  have m1 := hide m1'
  have m2 := hide m2'
  have ks := hide ks'
  have kp := hide kp'
  have hz := hide hz'
  have n1 := hide n1'
  have hi := hide hi'
  have s1 := hide s1'
  have s2 := hide s2'
  have n2 := hide n2'
  clear ka' kb' a1' a2' m1' m2' ks' kp' hz' n1' hi' s1' s2' n2'
  unfold Gives2 Gives1 Tells1 Val.enc at *
  go_enter Try.func11, Try.ntmps11
  go_upto_region 1 with fail
  have hI := hide (((Env.start w).alloc a).alloc b)
  obtain ⟨W0, hW0⟩ : ∃ W0, (w.alloc (.cells #[.int .u8 a.k, .int .i64 a.n, .string a.s] 38)).alloc (.cells #[.int .u8 b.k, .int .i64 b.n, .string b.s] 38) = W0 := ⟨_, rfl⟩
  rw [hW0, World.size_alloc] at hI
  rw [hW0]
  clear hW0
  obtain ⟨y1, y2, y3⟩ := Env.get hI.out 0 rfl
  obtain ⟨x1, x2, x3⟩ := Env.get hI.out 1 rfl
  go_wp2_with fail
  clear y1 y2 y3 x1 x2 x3
  refine (ka.out _).mono ?_
  rintro e1 w1 ⟨rfl, hn⟩
  replace hI := hide (Env.below hI.out hn)
  clear hn
  obtain ⟨y1, y2, y3⟩ := Env.get hI.out 0 rfl
  obtain ⟨x1, x2, x3⟩ := Env.get hI.out 1 rfl
  cases ma
  · go_wp2_with fail
    clear y1 y2 y3 x1 x2 x3
    refine (known2_calls _).mono ?_
    rintro e1 w1 ⟨rfl, hn⟩
    replace hI := hide (Env.below hI.out hn)
    clear hn
    go_wp2_with fail
    go_ret
    exact ⟨rfl, hI.out.1⟩
  · go_wp2_with fail
    clear y1 y2 y3 x1 x2 x3
    refine (kb.out _).mono ?_
    rintro e1 w1 ⟨rfl, hn⟩
    replace hI := hide (Env.below hI.out hn)
    clear hn
    obtain ⟨y1, y2, y3⟩ := Env.get hI.out 0 rfl
    obtain ⟨x1, x2, x3⟩ := Env.get hI.out 1 rfl
    cases mb
    · go_wp2_with fail
      clear y1 y2 y3 x1 x2 x3
      refine (known2_calls _).mono ?_
      rintro e1 w1 ⟨rfl, hn⟩
      replace hI := hide (Env.below hI.out hn)
      clear hn
      go_wp2_with fail
      go_ret
      exact ⟨rfl, hI.out.1⟩
    · have KS := hide (unhide ks (by simp) (by simp))
      have KP := hide (unhide kp (by simp) (by simp))
      have N2 := hide (unhide n2 (by simp) (by simp))
      clear ks kp n2
      go_wp2_with fail
      clear y1 y2 y3 x1 x2 x3
      refine (a1.out _).mono ?_
      rintro e1 w1 ⟨rfl, hn⟩
      replace hI := hide (Env.below hI.out hn)
      clear hn
      replace hI := hide (Env.alloc hI.out s)
      go_upto_region 4 with fail
      obtain ⟨W0, hW0⟩ : ∃ W0, w1.alloc (.cells #[.int .u8 s.k, .int .i64 s.n, .string s.s] 38) = W0 := ⟨_, rfl⟩
      rw [hW0] at hI
      rw [hW0]
      clear hW0
      obtain ⟨gs, hgs⟩ : ∃ g, w1.heap.size = g := ⟨_, rfl⟩
      rw [hgs] at hI
      rw [hgs]
      clear hgs
      obtain ⟨s1, s2, s3⟩ := Env.get hI.out 0 rfl
      obtain ⟨y1, y2, y3⟩ := Env.get hI.out 1 rfl
      obtain ⟨x1, x2, x3⟩ := Env.get hI.out 2 rfl
      go_wp2_with fail
      clear s1 s2 s3 y1 y2 y3 x1 x2 x3
      refine (a2.out _).mono ?_
      rintro e1 w1 ⟨rfl, hn⟩
      replace hI := hide (Env.below hI.out hn)
      clear hn
      replace hI := hide (Env.alloc hI.out s)
      go_upto_region 5 with fail
      obtain ⟨W0, hW0⟩ : ∃ W0, w1.alloc (.cells #[.int .u8 s.k, .int .i64 s.n, .string s.s] 38) = W0 := ⟨_, rfl⟩
      rw [hW0] at hI
      rw [hW0]
      clear hW0
      obtain ⟨gt, hgt⟩ : ∃ g, w1.heap.size = g := ⟨_, rfl⟩
      rw [hgt] at hI
      rw [hgt]
      clear hgt
      obtain ⟨t1, t2, t3⟩ := Env.get hI.out 0 rfl
      obtain ⟨s1, s2, s3⟩ := Env.get hI.out 1 rfl
      obtain ⟨y1, y2, y3⟩ := Env.get hI.out 2 rfl
      obtain ⟨x1, x2, x3⟩ := Env.get hI.out 3 rfl
      go_wp2_with fail
      clear t1 t2 t3 s1 s2 s3 y1 y2 y3 x1 x2 x3
      refine (m1.out _).mono ?_
      rintro e1 w1 ⟨rfl, hn⟩
      replace hI := hide (Env.below hI.out hn)
      clear hn
      replace hI := hide (Env.alloc hI.out p)
      go_upto_region 6 with fail
      obtain ⟨W0, hW0⟩ : ∃ W0, w1.alloc (.cells #[.int .u8 p.k, .int .i64 p.n, .string p.s] 38) = W0 := ⟨_, rfl⟩
      rw [hW0] at hI
      rw [hW0]
      clear hW0
      obtain ⟨gp, hgp⟩ : ∃ g, w1.heap.size = g := ⟨_, rfl⟩
      rw [hgp] at hI
      rw [hgp]
      clear hgp
      obtain ⟨p1, p2, p3⟩ := Env.get hI.out 0 rfl
      obtain ⟨t1, t2, t3⟩ := Env.get hI.out 1 rfl
      obtain ⟨s1, s2, s3⟩ := Env.get hI.out 2 rfl
      obtain ⟨y1, y2, y3⟩ := Env.get hI.out 3 rfl
      obtain ⟨x1, x2, x3⟩ := Env.get hI.out 4 rfl
      go_wp2_with fail
      clear p1 p2 p3 t1 t2 t3 s1 s2 s3 y1 y2 y3 x1 x2 x3
      refine (m2.out _).mono ?_
      rintro e1 w1 ⟨rfl, hn⟩
      replace hI := hide (Env.below hI.out hn)
      clear hn
      replace hI := hide (Env.alloc hI.out p)
      go_upto_region 7 with fail
      obtain ⟨W0, hW0⟩ : ∃ W0, w1.alloc (.cells #[.int .u8 p.k, .int .i64 p.n, .string p.s] 38) = W0 := ⟨_, rfl⟩
      rw [hW0] at hI
      rw [hW0]
      clear hW0
      obtain ⟨gq, hgq⟩ : ∃ g, w1.heap.size = g := ⟨_, rfl⟩
      rw [hgq] at hI
      rw [hgq]
      clear hgq
      obtain ⟨q1, q2, q3⟩ := Env.get hI.out 0 rfl
      obtain ⟨p1, p2, p3⟩ := Env.get hI.out 1 rfl
      obtain ⟨t1, t2, t3⟩ := Env.get hI.out 2 rfl
      obtain ⟨s1, s2, s3⟩ := Env.get hI.out 3 rfl
      obtain ⟨y1, y2, y3⟩ := Env.get hI.out 4 rfl
      obtain ⟨x1, x2, x3⟩ := Env.get hI.out 5 rfl
      have e1 := fun W => neq38_self s W
      have e2 := fun W => neq38_self p W
      go_wp2_with fail
      clear q1 q2 q3 p1 p2 p3 t1 t2 t3 s1 s2 s3 y1 y2 y3 x1 x2 x3
      refine (KS.out _).mono ?_
      rintro e1 w1 ⟨rfl, hn⟩
      replace hI := hide (Env.below hI.out hn)
      clear hn
      obtain ⟨q1, q2, q3⟩ := Env.get hI.out 0 rfl
      obtain ⟨p1, p2, p3⟩ := Env.get hI.out 1 rfl
      obtain ⟨t1, t2, t3⟩ := Env.get hI.out 2 rfl
      obtain ⟨s1, s2, s3⟩ := Env.get hI.out 3 rfl
      obtain ⟨y1, y2, y3⟩ := Env.get hI.out 4 rfl
      obtain ⟨x1, x2, x3⟩ := Env.get hI.out 5 rfl
      go_wp2_with fail
      clear q1 q2 q3 p1 p2 p3 t1 t2 t3 s1 s2 s3 y1 y2 y3 x1 x2 x3
      refine (KP.out _).mono ?_
      rintro e1 w1 ⟨rfl, hn⟩
      replace hI := hide (Env.below hI.out hn)
      clear hn
      obtain ⟨q1, q2, q3⟩ := Env.get hI.out 0 rfl
      obtain ⟨p1, p2, p3⟩ := Env.get hI.out 1 rfl
      obtain ⟨t1, t2, t3⟩ := Env.get hI.out 2 rfl
      obtain ⟨s1, s2, s3⟩ := Env.get hI.out 3 rfl
      obtain ⟨y1, y2, y3⟩ := Env.get hI.out 4 rfl
      obtain ⟨x1, x2, x3⟩ := Env.get hI.out 5 rfl
      clear e1 e2
      go_upto_region 9 with fail
      go_cut [102] (fun r wx => r = .bool false ∧ wx = w1)
      case first =>
        by_cases z1 : a.k = 0 ∨ b.k = 0
        · obtain ⟨h1, h2⟩ := hz.out z1
          subst h1
          have z1' : (a.k == 0) = true ∨ (a.k == 0) = false ∧ (b.k == 0) = true := by
            by_cases h : a.k = 0
            · exact .inl (by simpa using h)
            · exact .inr ⟨by simpa using h, by simpa using z1.resolve_left h⟩
          clear z1 hz
          have f1 := fun W => neq38_self Val.zero W
          unfold Val.zero at *
          dsimp only at *
          rcases z1' with z1 | ⟨z1, z2⟩ <;> rcases h2 with rfl | rfl
          all_goals
            go_wp2_with fail
            go_meet
            exact ⟨rfl, rfl⟩
        · have z2 : (a.k == 0) = false := by simp; omega
          have z3 : (b.k == 0) = false := by simp; omega
          clear z1 hz
          go_wp2_with fail
          go_meet
          exact ⟨rfl, rfl⟩
      case rest =>
        obtain ⟨rfl, rfl⟩ := hcut
        go_wp2_with fail
        clear q1 q2 q3 p1 p2 p3 t1 t2 t3 s1 s2 s3 y1 y2 y3 x1 x2 x3
        refine (n1.out _).mono ?_
        rintro e1 w1 ⟨rfl, hn⟩
        replace hI := hide (Env.below hI.out hn)
        clear hn
        replace hI := hide (Env.alloc hI.out m)
        go_upto_region 12 with fail
        obtain ⟨W0, hW0⟩ : ∃ W0, w1.alloc (.cells #[.int .u8 m.k, .int .i64 m.n, .string m.s] 38) = W0 := ⟨_, rfl⟩
        rw [hW0] at hI
        rw [hW0]
        clear hW0
        obtain ⟨gm, hgm⟩ : ∃ g, w1.heap.size = g := ⟨_, rfl⟩
        rw [hgm] at hI
        rw [hgm]
        clear hgm
        obtain ⟨m1, m2, m3⟩ := Env.get hI.out 0 rfl
        obtain ⟨q1, q2, q3⟩ := Env.get hI.out 1 rfl
        obtain ⟨p1, p2, p3⟩ := Env.get hI.out 2 rfl
        obtain ⟨t1, t2, t3⟩ := Env.get hI.out 3 rfl
        obtain ⟨s1, s2, s3⟩ := Env.get hI.out 4 rfl
        obtain ⟨y1, y2, y3⟩ := Env.get hI.out 5 rfl
        obtain ⟨x1, x2, x3⟩ := Env.get hI.out 6 rfl
        by_cases hi0 : i = 0
        · subst hi0
          have S2 := hide (unhide s2 rfl)
          have N3 := hide (unhide N2 rfl)
          clear s2 N2
          go_wp2_with fail
          clear m1 m2 m3 q1 q2 q3 p1 p2 p3 t1 t2 t3 s1 s2 s3 y1 y2 y3 x1 x2 x3
          refine (s1.out _).mono ?_
          rintro e1 w1 ⟨rfl, hn⟩
          replace hI := hide (Env.below hI.out hn)
          clear hn
          replace hI := hide (Env.alloc hI.out d)
          go_upto_region 15 with fail
          obtain ⟨W0, hW0⟩ : ∃ W0, w1.alloc (.cells #[.int .u8 d.k, .int .i64 d.n, .string d.s] 38) = W0 := ⟨_, rfl⟩
          rw [hW0] at hI
          rw [hW0]
          clear hW0
          obtain ⟨gd, hgd⟩ : ∃ g, w1.heap.size = g := ⟨_, rfl⟩
          rw [hgd] at hI
          rw [hgd]
          clear hgd
          obtain ⟨d1, d2, d3⟩ := Env.get hI.out 0 rfl
          obtain ⟨m1, m2, m3⟩ := Env.get hI.out 1 rfl
          obtain ⟨q1, q2, q3⟩ := Env.get hI.out 2 rfl
          obtain ⟨p1, p2, p3⟩ := Env.get hI.out 3 rfl
          obtain ⟨t1, t2, t3⟩ := Env.get hI.out 4 rfl
          obtain ⟨s1, s2, s3⟩ := Env.get hI.out 5 rfl
          obtain ⟨y1, y2, y3⟩ := Env.get hI.out 6 rfl
          obtain ⟨x1, x2, x3⟩ := Env.get hI.out 7 rfl
          go_wp2_with fail
          clear d1 d2 d3 m1 m2 m3 q1 q2 q3 p1 p2 p3 t1 t2 t3 s1 s2 s3 y1 y2 y3 x1 x2 x3
          refine (S2.out _).mono ?_
          rintro e1 w1 ⟨rfl, hn⟩
          replace hI := hide (Env.below hI.out hn)
          clear hn
          replace hI := hide (Env.alloc hI.out d)
          go_upto_region 16 with fail
          obtain ⟨W0, hW0⟩ : ∃ W0, w1.alloc (.cells #[.int .u8 d.k, .int .i64 d.n, .string d.s] 38) = W0 := ⟨_, rfl⟩
          rw [hW0] at hI
          rw [hW0]
          clear hW0
          obtain ⟨gu, hgu⟩ : ∃ g, w1.heap.size = g := ⟨_, rfl⟩
          rw [hgu] at hI
          rw [hgu]
          clear hgu
          obtain ⟨u1, u2, u3⟩ := Env.get hI.out 0 rfl
          obtain ⟨d1, d2, d3⟩ := Env.get hI.out 1 rfl
          obtain ⟨m1, m2, m3⟩ := Env.get hI.out 2 rfl
          obtain ⟨q1, q2, q3⟩ := Env.get hI.out 3 rfl
          obtain ⟨p1, p2, p3⟩ := Env.get hI.out 4 rfl
          obtain ⟨t1, t2, t3⟩ := Env.get hI.out 5 rfl
          obtain ⟨s1, s2, s3⟩ := Env.get hI.out 6 rfl
          obtain ⟨y1, y2, y3⟩ := Env.get hI.out 7 rfl
          obtain ⟨x1, x2, x3⟩ := Env.get hI.out 8 rfl
          go_wp2_with fail
          clear u1 u2 u3 d1 d2 d3 m1 m2 m3 q1 q2 q3 p1 p2 p3 t1 t2 t3 s1 s2 s3 y1 y2 y3 x1 x2 x3
          refine (N3.out _).mono ?_
          rintro e1 w1 ⟨rfl, hn⟩
          replace hI := hide (Env.below hI.out hn)
          clear hn
          replace hI := hide (Env.alloc hI.out b)
          go_upto_region 17 with fail
          obtain ⟨W0, hW0⟩ : ∃ W0, w1.alloc (.cells #[.int .u8 b.k, .int .i64 b.n, .string b.s] 38) = W0 := ⟨_, rfl⟩
          rw [hW0] at hI
          rw [hW0]
          clear hW0
          obtain ⟨gn, hgn⟩ : ∃ g, w1.heap.size = g := ⟨_, rfl⟩
          rw [hgn] at hI
          rw [hgn]
          clear hgn
          obtain ⟨n1, n2, n3⟩ := Env.get hI.out 0 rfl
          obtain ⟨u1, u2, u3⟩ := Env.get hI.out 1 rfl
          obtain ⟨d1, d2, d3⟩ := Env.get hI.out 2 rfl
          obtain ⟨m1, m2, m3⟩ := Env.get hI.out 3 rfl
          obtain ⟨q1, q2, q3⟩ := Env.get hI.out 4 rfl
          obtain ⟨p1, p2, p3⟩ := Env.get hI.out 5 rfl
          obtain ⟨t1, t2, t3⟩ := Env.get hI.out 6 rfl
          obtain ⟨s1, s2, s3⟩ := Env.get hI.out 7 rfl
          obtain ⟨y1, y2, y3⟩ := Env.get hI.out 8 rfl
          obtain ⟨x1, x2, x3⟩ := Env.get hI.out 9 rfl
          have e1 := fun W => eql38_self d W
          have e2 := fun W => eql38_self b W
          go_wp2_with fail
          clear n1 n2 n3 u1 u2 u3 d1 d2 d3 m1 m2 m3 q1 q2 q3 p1 p2 p3 t1 t2 t3 s1 s2 s3 y1 y2 y3 x1 x2 x3
          refine (known2_calls _).mono ?_
          rintro e1 w1 ⟨rfl, hn⟩
          replace hI := hide (Env.below hI.out hn)
          clear hn
          go_wp2_with fail
          go_ret
          exact ⟨rfl, hI.out.1⟩
        · have hi1 := hi.out.resolve_left hi0
          obtain ⟨h1, h2⟩ := hi1
          subst h1
          have f1 := fun W => eql38_self Val.zero W
          have i1 : (i != 0) = true := by simpa using hi0
          clear hi hi0 s2 N2
          unfold Val.zero at *
          dsimp only at *
          rcases h2 with rfl | rfl
          all_goals
            go_wp2_with fail
            clear m1 m2 m3 q1 q2 q3 p1 p2 p3 t1 t2 t3 s1 s2 s3 y1 y2 y3 x1 x2 x3
            refine (known2_calls _).mono ?_
            rintro e1 w1 ⟨rfl, hn⟩
            replace hI := hide (Env.below hI.out hn)
            clear hn
            go_wp2_with fail
            go_ret
            exact ⟨rfl, hI.out.1⟩
end Go.Proofs.Ytlmjcifiofobpaa
