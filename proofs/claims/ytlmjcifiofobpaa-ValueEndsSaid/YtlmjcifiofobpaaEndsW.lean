/- The walk of ValueEnds. -/
import Derived.Test.YtlmjcifiofobpaaSums
import Derived.Test.YtlmjcifiofobpaaLogical
namespace Go.Proofs.Ytlmjcifiofobpaa
open Go.ChangeShapes Go.WideShapes Go.ChangeAt Go.RowKit
set_option linter.unusedVariables false
set_option linter.unusedSimpArgs false

/-- values of a row that was just made in, a value out -/
def GivesR (f : Nat) (l : List Val) (r : Val) (e : Int) : Prop := ∀ W : World, Calls Try.prog f #[.slice (some ⟨W.heap.size, 0, none⟩) l.length l.length] (W.alloc (.cells (cellsOf l).toArray 38)) fun x w' => x = .returned (.tuple #[r.enc, .int .i64 e]) ∧ Below W.heap.size W w'
def Comp (a b : Val) (n : Int) : Prop := ∀ W : World, Calls Try.prog 29 #[a.enc, b.enc] W fun e w' => e = .returned (.tuple #[.int .i64 n, .bool true]) ∧ Below W.heap.size W w'
theorem eql_zero (x : Val) (q : Bool) (h : vEq x Val.zero = q) (W : World) : (binOp .eql 38 (.agg #[.int .u8 x.k, .int .i64 x.n, .string x.s]) (.agg #[.int .u8 0, .int .i64 0, .string ⟨#[]⟩])).run Try.prog W = .ok (.bool q) W := by
  subst h
  exact eql38 x Val.zero W

def lowF (n0 n1 n2 : Int) : Nat → Bool
  | 0 => false
  | 1 => n0 == 0
  | 2 => n0 == 0 || n1 == 0
  | _ => n0 == 0 || n1 == 0 || n2 == 0

set_option maxRecDepth 100000 in
set_option maxHeartbeats 6400000 in
theorem ends_walk (a b c x y one : Val) (ma mb mc : Bool) (e i n0 n1 n2 m0 m1 m2 : Int) (w : World) (ka' : Tells1 38 a ma) (kb' : Tells1 38 b mb) (kc' : Tells1 38 c mc)
    (l1' : GivesR 39 [a, b, c] x e) (l2' : GivesR 40 [a, b, c] y e) (l3' : GivesR 39 [c, a, b] x e) (l4' : GivesR 40 [b, c, a] y e) (l5' : GivesR 39 [a] one i)
    (ho' : ma = true → a.k = 1 ∨ a.k = 2 → one = a ∧ i = 0)
    (hz' : e ≠ 0 ∨ x = Val.zero → x = Val.zero ∧ y = Val.zero)
    (hc' : ma = true → mb = true → mc = true → e = 0 → x ≠ Val.zero → Comp x a n0 ∧ Comp x b n1 ∧ Comp x c n2 ∧ Comp y a m0 ∧ Comp y b m1 ∧ Comp y c m2 ∧ n0 ≤ 0 ∧ n1 ≤ 0 ∧ n2 ≤ 0 ∧ 0 ≤ m0 ∧ 0 ≤ m1 ∧ 0 ≤ m2 ∧ (n0 = 0 ∨ n1 = 0 ∨ n2 = 0) ∧ (m0 = 0 ∨ m1 = 0 ∨ m2 = 0) ∧ x.k = y.k) :
    Calls Try.prog 10 #[a.enc, b.enc, c.enc] w fun x w' => x = .returned (.bool true) ∧ Below w.heap.size w w' := by
  have ka := hide ka'
  have kb := hide kb'
  have kc := hide kc'
  have l1 := hide l1'
  have l2 := hide l2'
  have l3 := hide l3'
  have l4 := hide l4'
  have l5 := hide l5'
  have ho := hide ho'
  have hz := hide hz'
  have hc := hide hc'
  clear ka' kb' kc' l1' l2' l3' l4' l5' ho' hz' hc'
  have l1 : Hid (∀ W : World, Calls Try.prog 39 #[.slice (some ⟨W.heap.size, 0, none⟩) 3 3] (W.alloc (.cells #[.int .u8 a.k, .int .i64 a.n, .string a.s, .int .u8 b.k, .int .i64 b.n, .string b.s, .int .u8 c.k, .int .i64 c.n, .string c.s] 38)) fun o1 w' => o1 = .returned (.tuple #[.agg #[.int .u8 x.k, .int .i64 x.n, .string x.s], .int .i64 e]) ∧ Below W.heap.size W w') := l1
  have l2 : Hid (∀ W : World, Calls Try.prog 40 #[.slice (some ⟨W.heap.size, 0, none⟩) 3 3] (W.alloc (.cells #[.int .u8 a.k, .int .i64 a.n, .string a.s, .int .u8 b.k, .int .i64 b.n, .string b.s, .int .u8 c.k, .int .i64 c.n, .string c.s] 38)) fun o1 w' => o1 = .returned (.tuple #[.agg #[.int .u8 y.k, .int .i64 y.n, .string y.s], .int .i64 e]) ∧ Below W.heap.size W w') := l2
  have l3 : Hid (∀ W : World, Calls Try.prog 39 #[.slice (some ⟨W.heap.size, 0, none⟩) 3 3] (W.alloc (.cells #[.int .u8 c.k, .int .i64 c.n, .string c.s, .int .u8 a.k, .int .i64 a.n, .string a.s, .int .u8 b.k, .int .i64 b.n, .string b.s] 38)) fun o1 w' => o1 = .returned (.tuple #[.agg #[.int .u8 x.k, .int .i64 x.n, .string x.s], .int .i64 e]) ∧ Below W.heap.size W w') := l3
  have l4 : Hid (∀ W : World, Calls Try.prog 40 #[.slice (some ⟨W.heap.size, 0, none⟩) 3 3] (W.alloc (.cells #[.int .u8 b.k, .int .i64 b.n, .string b.s, .int .u8 c.k, .int .i64 c.n, .string c.s, .int .u8 a.k, .int .i64 a.n, .string a.s] 38)) fun o1 w' => o1 = .returned (.tuple #[.agg #[.int .u8 y.k, .int .i64 y.n, .string y.s], .int .i64 e]) ∧ Below W.heap.size W w') := l4
  have l5 : Hid (∀ W : World, Calls Try.prog 39 #[.slice (some ⟨W.heap.size, 0, none⟩) 1 1] (W.alloc (.cells #[.int .u8 a.k, .int .i64 a.n, .string a.s] 38)) fun o1 w' => o1 = .returned (.tuple #[.agg #[.int .u8 one.k, .int .i64 one.n, .string one.s], .int .i64 i]) ∧ Below W.heap.size W w') := l5
  unfold Comp Tells1 Val.enc at *
  go_enter Try.func10, Try.ntmps10
  go_upto_region 1 with fail
  have hI := hide ((((Env.start w).alloc a).alloc b).alloc c)
  obtain ⟨W0, hW0⟩ : ∃ W0, ((w.alloc (.cells #[.int .u8 a.k, .int .i64 a.n, .string a.s] 38)).alloc (.cells #[.int .u8 b.k, .int .i64 b.n, .string b.s] 38)).alloc (.cells #[.int .u8 c.k, .int .i64 c.n, .string c.s] 38) = W0 := ⟨_, rfl⟩
  rw [hW0, World.size_alloc, World.size_alloc] at hI
  rw [hW0]
  clear hW0
  obtain ⟨z1, z2, z3⟩ := Env.get hI.out 0 rfl
  obtain ⟨y1, y2, y3⟩ := Env.get hI.out 1 rfl
  obtain ⟨x1, x2, x3⟩ := Env.get hI.out 2 rfl
  go_wp2_with fail
  clear z1 z2 z3 y1 y2 y3 x1 x2 x3
  refine (ka.out _).mono ?_
  rintro e1 w1 ⟨rfl, hn⟩
  replace hI := hide (Env.below hI.out hn)
  clear hn
  obtain ⟨z1, z2, z3⟩ := Env.get hI.out 0 rfl
  obtain ⟨y1, y2, y3⟩ := Env.get hI.out 1 rfl
  obtain ⟨x1, x2, x3⟩ := Env.get hI.out 2 rfl
  cases ma
  · go_wp2_with fail
    clear z1 z2 z3 y1 y2 y3 x1 x2 x3
    refine (known2_calls _).mono ?_
    rintro e1 w1 ⟨rfl, hn⟩
    replace hI := hide (Env.below hI.out hn)
    clear hn
    go_wp2_with fail
    go_ret
    exact ⟨rfl, hI.out.1⟩
  · go_wp2_with fail
    clear z1 z2 z3 y1 y2 y3 x1 x2 x3
    refine (kb.out _).mono ?_
    rintro e1 w1 ⟨rfl, hn⟩
    replace hI := hide (Env.below hI.out hn)
    clear hn
    obtain ⟨z1, z2, z3⟩ := Env.get hI.out 0 rfl
    obtain ⟨y1, y2, y3⟩ := Env.get hI.out 1 rfl
    obtain ⟨x1, x2, x3⟩ := Env.get hI.out 2 rfl
    cases mb
    · go_wp2_with fail
      clear z1 z2 z3 y1 y2 y3 x1 x2 x3
      refine (known2_calls _).mono ?_
      rintro e1 w1 ⟨rfl, hn⟩
      replace hI := hide (Env.below hI.out hn)
      clear hn
      go_wp2_with fail
      go_ret
      exact ⟨rfl, hI.out.1⟩
    · go_wp2_with fail
      clear z1 z2 z3 y1 y2 y3 x1 x2 x3
      refine (kc.out _).mono ?_
      rintro e1 w1 ⟨rfl, hn⟩
      replace hI := hide (Env.below hI.out hn)
      clear hn
      obtain ⟨z1, z2, z3⟩ := Env.get hI.out 0 rfl
      obtain ⟨y1, y2, y3⟩ := Env.get hI.out 1 rfl
      obtain ⟨x1, x2, x3⟩ := Env.get hI.out 2 rfl
      cases mc
      · go_wp2_with fail
        clear z1 z2 z3 y1 y2 y3 x1 x2 x3
        refine (known2_calls _).mono ?_
        rintro e1 w1 ⟨rfl, hn⟩
        replace hI := hide (Env.below hI.out hn)
        clear hn
        go_wp2_with fail
        go_ret
        exact ⟨rfl, hI.out.1⟩
      · have HO := hide (unhide ho (by simp))
        have HC := hide (unhide hc (by simp) (by simp) (by simp))
        clear ho hc
        go_wp2_with fail
        clear z1 z2 z3 y1 y2 y3 x1 x2 x3
        refine (l1.out _).mono ?_
        rintro e1 w1 ⟨rfl, hn⟩
        replace hI := hide (Env.below hI.out hn)
        clear hn
        replace hI := hide (Env.alloc hI.out x)
        go_upto_region 4 with fail
        obtain ⟨W0, hW0⟩ : ∃ W0, w1.alloc (.cells #[.int .u8 x.k, .int .i64 x.n, .string x.s] 38) = W0 := ⟨_, rfl⟩
        rw [hW0] at hI
        rw [hW0]
        clear hW0
        obtain ⟨gp, hgp⟩ : ∃ g, w1.heap.size = g := ⟨_, rfl⟩
        rw [hgp] at hI
        rw [hgp]
        clear hgp
        obtain ⟨p1, p2, p3⟩ := Env.get hI.out 0 rfl
        obtain ⟨z1, z2, z3⟩ := Env.get hI.out 1 rfl
        obtain ⟨y1, y2, y3⟩ := Env.get hI.out 2 rfl
        obtain ⟨x1, x2, x3⟩ := Env.get hI.out 3 rfl
        go_wp2_with fail
        clear p1 p2 p3 z1 z2 z3 y1 y2 y3 x1 x2 x3
        refine (l2.out _).mono ?_
        rintro e1 w1 ⟨rfl, hn⟩
        replace hI := hide (Env.below hI.out hn)
        clear hn
        replace hI := hide (Env.alloc hI.out y)
        go_upto_region 5 with fail
        obtain ⟨W0, hW0⟩ : ∃ W0, w1.alloc (.cells #[.int .u8 y.k, .int .i64 y.n, .string y.s] 38) = W0 := ⟨_, rfl⟩
        rw [hW0] at hI
        rw [hW0]
        clear hW0
        obtain ⟨gq, hgq⟩ : ∃ g, w1.heap.size = g := ⟨_, rfl⟩
        rw [hgq] at hI
        rw [hgq]
        clear hgq
        obtain ⟨q1, q2, q3⟩ := Env.get hI.out 0 rfl
        obtain ⟨p1, p2, p3⟩ := Env.get hI.out 1 rfl
        obtain ⟨z1, z2, z3⟩ := Env.get hI.out 2 rfl
        obtain ⟨y1, y2, y3⟩ := Env.get hI.out 3 rfl
        obtain ⟨x1, x2, x3⟩ := Env.get hI.out 4 rfl
        go_wp2_with fail
        clear q1 q2 q3 p1 p2 p3 z1 z2 z3 y1 y2 y3 x1 x2 x3
        refine (l3.out _).mono ?_
        rintro e1 w1 ⟨rfl, hn⟩
        replace hI := hide (Env.below hI.out hn)
        clear hn
        replace hI := hide (Env.alloc hI.out x)
        go_upto_region 6 with fail
        obtain ⟨W0, hW0⟩ : ∃ W0, w1.alloc (.cells #[.int .u8 x.k, .int .i64 x.n, .string x.s] 38) = W0 := ⟨_, rfl⟩
        rw [hW0] at hI
        rw [hW0]
        clear hW0
        obtain ⟨gr, hgr⟩ : ∃ g, w1.heap.size = g := ⟨_, rfl⟩
        rw [hgr] at hI
        rw [hgr]
        clear hgr
        obtain ⟨r1, r2, r3⟩ := Env.get hI.out 0 rfl
        obtain ⟨q1, q2, q3⟩ := Env.get hI.out 1 rfl
        obtain ⟨p1, p2, p3⟩ := Env.get hI.out 2 rfl
        obtain ⟨z1, z2, z3⟩ := Env.get hI.out 3 rfl
        obtain ⟨y1, y2, y3⟩ := Env.get hI.out 4 rfl
        obtain ⟨x1, x2, x3⟩ := Env.get hI.out 5 rfl
        go_wp2_with fail
        clear r1 r2 r3 q1 q2 q3 p1 p2 p3 z1 z2 z3 y1 y2 y3 x1 x2 x3
        refine (l4.out _).mono ?_
        rintro e1 w1 ⟨rfl, hn⟩
        replace hI := hide (Env.below hI.out hn)
        clear hn
        replace hI := hide (Env.alloc hI.out y)
        go_upto_region 7 with fail
        obtain ⟨W0, hW0⟩ : ∃ W0, w1.alloc (.cells #[.int .u8 y.k, .int .i64 y.n, .string y.s] 38) = W0 := ⟨_, rfl⟩
        rw [hW0] at hI
        rw [hW0]
        clear hW0
        obtain ⟨gs, hgs⟩ : ∃ g, w1.heap.size = g := ⟨_, rfl⟩
        rw [hgs] at hI
        rw [hgs]
        clear hgs
        obtain ⟨s1, s2, s3⟩ := Env.get hI.out 0 rfl
        obtain ⟨r1, r2, r3⟩ := Env.get hI.out 1 rfl
        obtain ⟨q1, q2, q3⟩ := Env.get hI.out 2 rfl
        obtain ⟨p1, p2, p3⟩ := Env.get hI.out 3 rfl
        obtain ⟨z1, z2, z3⟩ := Env.get hI.out 4 rfl
        obtain ⟨y1, y2, y3⟩ := Env.get hI.out 5 rfl
        obtain ⟨x1, x2, x3⟩ := Env.get hI.out 6 rfl
        have e1 := fun W => neq38_self x W
        have e2 := fun W => neq38_self y W
        go_wp2_with fail
        clear s1 s2 s3 r1 r2 r3 q1 q2 q3 p1 p2 p3 z1 z2 z3 y1 y2 y3 x1 x2 x3
        refine (l5.out _).mono ?_
        rintro e1 w1 ⟨rfl, hn⟩
        replace hI := hide (Env.below hI.out hn)
        clear hn
        replace hI := hide (Env.alloc hI.out one)
        go_upto_region 10 with fail
        obtain ⟨W0, hW0⟩ : ∃ W0, w1.alloc (.cells #[.int .u8 one.k, .int .i64 one.n, .string one.s] 38) = W0 := ⟨_, rfl⟩
        rw [hW0] at hI
        rw [hW0]
        clear hW0
        obtain ⟨gt, hgt⟩ : ∃ g, w1.heap.size = g := ⟨_, rfl⟩
        rw [hgt] at hI
        rw [hgt]
        clear hgt
        obtain ⟨t1, t2, t3⟩ := Env.get hI.out 0 rfl
        obtain ⟨s1, s2, s3⟩ := Env.get hI.out 1 rfl
        obtain ⟨r1, r2, r3⟩ := Env.get hI.out 2 rfl
        obtain ⟨q1, q2, q3⟩ := Env.get hI.out 3 rfl
        obtain ⟨p1, p2, p3⟩ := Env.get hI.out 4 rfl
        obtain ⟨z1, z2, z3⟩ := Env.get hI.out 5 rfl
        obtain ⟨y1, y2, y3⟩ := Env.get hI.out 6 rfl
        obtain ⟨x1, x2, x3⟩ := Env.get hI.out 7 rfl
        clear e1 e2
        obtain ⟨num, hnum⟩ : ∃ num, (a.k == 1 || a.k == 2) = num := ⟨_, rfl⟩
        have HN := hide hnum
        clear hnum
        go_cut [17] (fun r wx => r = .bool num ∧ wx = W0)
        case first =>
          have hn := HN.out
          cases z4 : (a.k == 1) <;> cases z5 : (a.k == 2) <;> rw [z4, z5] at hn <;> subst hn
          all_goals
            go_wp2_with fail
            go_meet
            exact ⟨rfl, rfl⟩
        case rest =>
          obtain ⟨rfl, rfl⟩ := hcut
          go_upto_region 11 with fail
          go_cut [118] (fun r wx => r = .bool false ∧ wx = wc)
          case first =>
            cases num
            · go_wp2_with fail
              go_meet
              exact ⟨rfl, rfl⟩
            · obtain ⟨h1, h2⟩ := HO.out (by have := HN.out; simpa using this)
              subst h2
              obtain rfl : a = one := h1.symm
              have g1 := fun W => neq38_self a W
              go_wp2_with fail
              go_meet
              exact ⟨rfl, rfl⟩
          case rest =>
            obtain ⟨rfl, rfl⟩ := hcut
            clear HN HO
            by_cases he : e = 0
            · subst he
              cases hxz : vEq x Val.zero
              · have XZ := hide (fun W => eql_zero x false hxz W)
                obtain ⟨k0, k1, k2, j0, j1, j2, b0, b1, b2, d0, d1, d2, lo, hi, hk⟩ := HC.out rfl (fun h => by rw [h] at hxz; exact absurd hxz (by decide +kernel))
                clear HC hz hxz
                have K0 := hide k0
                have K1 := hide k1
                have K2 := hide k2
                have J0 := hide j0
                have J1 := hide j1
                have J2 := hide j2
                have LO := hide (And.intro lo hi)
                have HK := hide hk
                clear k0 k1 k2 j0 j1 j2 lo hi hk
                have xz := XZ.out
                have I0 : ∀ W, (Instr.index 50 (.agg #[.int .u8 a.k, .int .i64 a.n, .string a.s, .int .u8 b.k, .int .i64 b.n, .string b.s, .int .u8 c.k, .int .i64 c.n, .string c.s]) (.int .i64 0)).run Try.prog W = .ok (.agg #[.int .u8 a.k, .int .i64 a.n, .string a.s]) W := fun _ => by kernel_rfl
                have I1 : ∀ W, (Instr.index 50 (.agg #[.int .u8 a.k, .int .i64 a.n, .string a.s, .int .u8 b.k, .int .i64 b.n, .string b.s, .int .u8 c.k, .int .i64 c.n, .string c.s]) (.int .i64 1)).run Try.prog W = .ok (.agg #[.int .u8 b.k, .int .i64 b.n, .string b.s]) W := fun _ => by kernel_rfl
                have I2 : ∀ W, (Instr.index 50 (.agg #[.int .u8 a.k, .int .i64 a.n, .string a.s, .int .u8 b.k, .int .i64 b.n, .string b.s, .int .u8 c.k, .int .i64 c.n, .string c.s]) (.int .i64 2)).run Try.prog W = .ok (.agg #[.int .u8 c.k, .int .i64 c.n, .string c.s]) W := fun _ => by kernel_rfl
                go_wp2_with fail
                go_loopw [18, 19, 145] (fun l h i wr => ∃ k : Nat, k ≤ 3 ∧ i = .int .i64 k ∧ l = .bool (lowF n0 n1 n2 k) ∧ h = .bool (lowF m0 m1 m2 k) ∧ Hid (Env w [(gt, one), (gs, y), (gr, x), (gq, y), (gp, x), (w.heap.size + 1 + 1, c), (w.heap.size + 1, b), (w.heap.size, a)] wr)) (fun _ _ i _ => 3 - (intOf i).toNat)
                case atStart => exact ⟨0, by omega, rfl, rfl, rfl, hI⟩
                case round =>
                  obtain ⟨k, hk, rfl, rfl, rfl, hJ⟩ := hrel
                  clear t1 t2 t3 s1 s2 s3 r1 r2 r3 q1 q2 q3 p1 p2 p3 z1 z2 z3 y1 y2 y3 x1 x2 x3
                  clear hI
                  have hI := hJ
                  clear hJ
                  obtain rfl | rfl | rfl | rfl : k = 0 ∨ k = 1 ∨ k = 2 ∨ k = 3 := by omega
                  · have hl0 : lowF n0 n1 n2 0 = false := rfl
                    have hh0 : lowF m0 m1 m2 0 = false := rfl
                    have hl1 := hide (show lowF n0 n1 n2 1 = (lowF n0 n1 n2 0 || n0 == 0) by rw [hl0]; simp [lowF])
                    have hh1 := hide (show lowF m0 m1 m2 1 = (lowF m0 m1 m2 0 || m0 == 0) by rw [hh0]; simp [lowF])
                    clear hl0 hh0
                    obtain ⟨lk, hlk⟩ : ∃ l, lowF n0 n1 n2 0 = l := ⟨_, rfl⟩
                    obtain ⟨hk2, hhk⟩ : ∃ l, lowF m0 m1 m2 0 = l := ⟨_, rfl⟩
                    rw [hlk] at hl1 ⊢
                    rw [hhk] at hh1 ⊢
                    clear hlk hhk
                    obtain ⟨z, hz1⟩ : ∃ z, (n0 == 0) = z := ⟨_, rfl⟩
                    obtain ⟨y0, hy0⟩ : ∃ z, (m0 == 0) = z := ⟨_, rfl⟩
                    rw [hz1] at hl1
                    rw [hy0] at hh1
                    obtain ⟨t1, t2, t3⟩ := Env.get hI.out 0 rfl
                    obtain ⟨s1, s2, s3⟩ := Env.get hI.out 1 rfl
                    obtain ⟨r1, r2, r3⟩ := Env.get hI.out 2 rfl
                    obtain ⟨q1, q2, q3⟩ := Env.get hI.out 3 rfl
                    obtain ⟨p1, p2, p3⟩ := Env.get hI.out 4 rfl
                    obtain ⟨z1, z2, z3⟩ := Env.get hI.out 5 rfl
                    obtain ⟨y1, y2, y3⟩ := Env.get hI.out 6 rfl
                    obtain ⟨x1, x2, x3⟩ := Env.get hI.out 7 rfl
                    
                    go_upto_region 19 with fail
                    replace hI := hide (Env.alloc hI.out a)
                    obtain ⟨W1, hW1⟩ : ∃ W1, wr.alloc (.cells #[.int .u8 a.k, .int .i64 a.n, .string a.s] 38) = W1 := ⟨_, rfl⟩
                    rw [hW1] at hI
                    rw [hW1]
                    clear hW1
                    obtain ⟨gv, hgv⟩ : ∃ g, wr.heap.size = g := ⟨_, rfl⟩
                    rw [hgv] at hI
                    rw [hgv]
                    clear hgv
                    clear t1 t2 t3 s1 s2 s3 r1 r2 r3 q1 q2 q3 p1 p2 p3 z1 z2 z3 y1 y2 y3 x1 x2 x3
                    obtain ⟨v1, v2, v3⟩ := Env.get hI.out 0 rfl
                    obtain ⟨t1, t2, t3⟩ := Env.get hI.out 1 rfl
                    obtain ⟨s1, s2, s3⟩ := Env.get hI.out 2 rfl
                    obtain ⟨r1, r2, r3⟩ := Env.get hI.out 3 rfl
                    obtain ⟨q1, q2, q3⟩ := Env.get hI.out 4 rfl
                    obtain ⟨p1, p2, p3⟩ := Env.get hI.out 5 rfl
                    obtain ⟨z1, z2, z3⟩ := Env.get hI.out 6 rfl
                    obtain ⟨y1, y2, y3⟩ := Env.get hI.out 7 rfl
                    obtain ⟨x1, x2, x3⟩ := Env.get hI.out 8 rfl
                    go_wp2_with fail
                    clear v1 v2 v3 t1 t2 t3 s1 s2 s3 r1 r2 r3 q1 q2 q3 p1 p2 p3 z1 z2 z3 y1 y2 y3 x1 x2 x3
                    refine (K0.out _).mono ?_
                    rintro e1 w1 ⟨rfl, hn⟩
                    replace hI := hide (Env.below hI.out hn)
                    clear hn
                    obtain ⟨v1, v2, v3⟩ := Env.get hI.out 0 rfl
                    obtain ⟨t1, t2, t3⟩ := Env.get hI.out 1 rfl
                    obtain ⟨s1, s2, s3⟩ := Env.get hI.out 2 rfl
                    obtain ⟨r1, r2, r3⟩ := Env.get hI.out 3 rfl
                    obtain ⟨q1, q2, q3⟩ := Env.get hI.out 4 rfl
                    obtain ⟨p1, p2, p3⟩ := Env.get hI.out 5 rfl
                    obtain ⟨z1, z2, z3⟩ := Env.get hI.out 6 rfl
                    obtain ⟨y1, y2, y3⟩ := Env.get hI.out 7 rfl
                    obtain ⟨x1, x2, x3⟩ := Env.get hI.out 8 rfl
                    go_wp2_with fail
                    clear v1 v2 v3 t1 t2 t3 s1 s2 s3 r1 r2 r3 q1 q2 q3 p1 p2 p3 z1 z2 z3 y1 y2 y3 x1 x2 x3
                    refine (J0.out _).mono ?_
                    rintro e1 w1 ⟨rfl, hn⟩
                    replace hI := hide (Env.below hI.out hn)
                    clear hn
                    have hI8 := hide (show Env w [(gt, one), (gs, y), (gr, x), (gq, y), (gp, x), (w.heap.size + 1 + 1, c), (w.heap.size + 1, b), (w.heap.size, a)] w1 from ⟨hI.out.1, fun p hp => hI.out.2 p (List.mem_cons_of_mem _ hp)⟩)
                    clear hI
                    cases lk <;> cases hk2 <;> cases z <;> cases y0
                    all_goals
                      go_wp2_with fail
                      go_roundw
                      case rel => exact ⟨1, by omega, by go_num, by rw [hl1.out]; rfl, by rw [hh1.out]; rfl, hI8⟩
                      case measure => simp [intOf]
                  · have hl0 : lowF n0 n1 n2 1 = (n0 == 0) := rfl
                    have hh0 : lowF m0 m1 m2 1 = (m0 == 0) := rfl
                    have hl1 := hide (show lowF n0 n1 n2 2 = (lowF n0 n1 n2 1 || n1 == 0) by rw [hl0]; simp [lowF])
                    have hh1 := hide (show lowF m0 m1 m2 2 = (lowF m0 m1 m2 1 || m1 == 0) by rw [hh0]; simp [lowF])
                    clear hl0 hh0
                    obtain ⟨lk, hlk⟩ : ∃ l, lowF n0 n1 n2 1 = l := ⟨_, rfl⟩
                    obtain ⟨hk2, hhk⟩ : ∃ l, lowF m0 m1 m2 1 = l := ⟨_, rfl⟩
                    rw [hlk] at hl1 ⊢
                    rw [hhk] at hh1 ⊢
                    clear hlk hhk
                    obtain ⟨z, hz1⟩ : ∃ z, (n1 == 0) = z := ⟨_, rfl⟩
                    obtain ⟨y0, hy0⟩ : ∃ z, (m1 == 0) = z := ⟨_, rfl⟩
                    rw [hz1] at hl1
                    rw [hy0] at hh1
                    obtain ⟨t1, t2, t3⟩ := Env.get hI.out 0 rfl
                    obtain ⟨s1, s2, s3⟩ := Env.get hI.out 1 rfl
                    obtain ⟨r1, r2, r3⟩ := Env.get hI.out 2 rfl
                    obtain ⟨q1, q2, q3⟩ := Env.get hI.out 3 rfl
                    obtain ⟨p1, p2, p3⟩ := Env.get hI.out 4 rfl
                    obtain ⟨z1, z2, z3⟩ := Env.get hI.out 5 rfl
                    obtain ⟨y1, y2, y3⟩ := Env.get hI.out 6 rfl
                    obtain ⟨x1, x2, x3⟩ := Env.get hI.out 7 rfl
                    
                    go_upto_region 19 with fail
                    replace hI := hide (Env.alloc hI.out b)
                    obtain ⟨W1, hW1⟩ : ∃ W1, wr.alloc (.cells #[.int .u8 b.k, .int .i64 b.n, .string b.s] 38) = W1 := ⟨_, rfl⟩
                    rw [hW1] at hI
                    rw [hW1]
                    clear hW1
                    obtain ⟨gv, hgv⟩ : ∃ g, wr.heap.size = g := ⟨_, rfl⟩
                    rw [hgv] at hI
                    rw [hgv]
                    clear hgv
                    clear t1 t2 t3 s1 s2 s3 r1 r2 r3 q1 q2 q3 p1 p2 p3 z1 z2 z3 y1 y2 y3 x1 x2 x3
                    obtain ⟨v1, v2, v3⟩ := Env.get hI.out 0 rfl
                    obtain ⟨t1, t2, t3⟩ := Env.get hI.out 1 rfl
                    obtain ⟨s1, s2, s3⟩ := Env.get hI.out 2 rfl
                    obtain ⟨r1, r2, r3⟩ := Env.get hI.out 3 rfl
                    obtain ⟨q1, q2, q3⟩ := Env.get hI.out 4 rfl
                    obtain ⟨p1, p2, p3⟩ := Env.get hI.out 5 rfl
                    obtain ⟨z1, z2, z3⟩ := Env.get hI.out 6 rfl
                    obtain ⟨y1, y2, y3⟩ := Env.get hI.out 7 rfl
                    obtain ⟨x1, x2, x3⟩ := Env.get hI.out 8 rfl
                    go_wp2_with fail
                    clear v1 v2 v3 t1 t2 t3 s1 s2 s3 r1 r2 r3 q1 q2 q3 p1 p2 p3 z1 z2 z3 y1 y2 y3 x1 x2 x3
                    refine (K1.out _).mono ?_
                    rintro e1 w1 ⟨rfl, hn⟩
                    replace hI := hide (Env.below hI.out hn)
                    clear hn
                    obtain ⟨v1, v2, v3⟩ := Env.get hI.out 0 rfl
                    obtain ⟨t1, t2, t3⟩ := Env.get hI.out 1 rfl
                    obtain ⟨s1, s2, s3⟩ := Env.get hI.out 2 rfl
                    obtain ⟨r1, r2, r3⟩ := Env.get hI.out 3 rfl
                    obtain ⟨q1, q2, q3⟩ := Env.get hI.out 4 rfl
                    obtain ⟨p1, p2, p3⟩ := Env.get hI.out 5 rfl
                    obtain ⟨z1, z2, z3⟩ := Env.get hI.out 6 rfl
                    obtain ⟨y1, y2, y3⟩ := Env.get hI.out 7 rfl
                    obtain ⟨x1, x2, x3⟩ := Env.get hI.out 8 rfl
                    go_wp2_with fail
                    clear v1 v2 v3 t1 t2 t3 s1 s2 s3 r1 r2 r3 q1 q2 q3 p1 p2 p3 z1 z2 z3 y1 y2 y3 x1 x2 x3
                    refine (J1.out _).mono ?_
                    rintro e1 w1 ⟨rfl, hn⟩
                    replace hI := hide (Env.below hI.out hn)
                    clear hn
                    have hI8 := hide (show Env w [(gt, one), (gs, y), (gr, x), (gq, y), (gp, x), (w.heap.size + 1 + 1, c), (w.heap.size + 1, b), (w.heap.size, a)] w1 from ⟨hI.out.1, fun p hp => hI.out.2 p (List.mem_cons_of_mem _ hp)⟩)
                    clear hI
                    cases lk <;> cases hk2 <;> cases z <;> cases y0
                    all_goals
                      go_wp2_with fail
                      go_roundw
                      case rel => exact ⟨2, by omega, by go_num, by rw [hl1.out]; rfl, by rw [hh1.out]; rfl, hI8⟩
                      case measure => simp [intOf]
                  · have hl0 : lowF n0 n1 n2 2 = (n0 == 0 || n1 == 0) := rfl
                    have hh0 : lowF m0 m1 m2 2 = (m0 == 0 || m1 == 0) := rfl
                    have hl1 := hide (show lowF n0 n1 n2 3 = (lowF n0 n1 n2 2 || n2 == 0) by rw [hl0]; simp [lowF])
                    have hh1 := hide (show lowF m0 m1 m2 3 = (lowF m0 m1 m2 2 || m2 == 0) by rw [hh0]; simp [lowF])
                    clear hl0 hh0
                    obtain ⟨lk, hlk⟩ : ∃ l, lowF n0 n1 n2 2 = l := ⟨_, rfl⟩
                    obtain ⟨hk2, hhk⟩ : ∃ l, lowF m0 m1 m2 2 = l := ⟨_, rfl⟩
                    rw [hlk] at hl1 ⊢
                    rw [hhk] at hh1 ⊢
                    clear hlk hhk
                    obtain ⟨z, hz1⟩ : ∃ z, (n2 == 0) = z := ⟨_, rfl⟩
                    obtain ⟨y0, hy0⟩ : ∃ z, (m2 == 0) = z := ⟨_, rfl⟩
                    rw [hz1] at hl1
                    rw [hy0] at hh1
                    obtain ⟨t1, t2, t3⟩ := Env.get hI.out 0 rfl
                    obtain ⟨s1, s2, s3⟩ := Env.get hI.out 1 rfl
                    obtain ⟨r1, r2, r3⟩ := Env.get hI.out 2 rfl
                    obtain ⟨q1, q2, q3⟩ := Env.get hI.out 3 rfl
                    obtain ⟨p1, p2, p3⟩ := Env.get hI.out 4 rfl
                    obtain ⟨z1, z2, z3⟩ := Env.get hI.out 5 rfl
                    obtain ⟨y1, y2, y3⟩ := Env.get hI.out 6 rfl
                    obtain ⟨x1, x2, x3⟩ := Env.get hI.out 7 rfl
                    
                    go_upto_region 19 with fail
                    replace hI := hide (Env.alloc hI.out c)
                    obtain ⟨W1, hW1⟩ : ∃ W1, wr.alloc (.cells #[.int .u8 c.k, .int .i64 c.n, .string c.s] 38) = W1 := ⟨_, rfl⟩
                    rw [hW1] at hI
                    rw [hW1]
                    clear hW1
                    obtain ⟨gv, hgv⟩ : ∃ g, wr.heap.size = g := ⟨_, rfl⟩
                    rw [hgv] at hI
                    rw [hgv]
                    clear hgv
                    clear t1 t2 t3 s1 s2 s3 r1 r2 r3 q1 q2 q3 p1 p2 p3 z1 z2 z3 y1 y2 y3 x1 x2 x3
                    obtain ⟨v1, v2, v3⟩ := Env.get hI.out 0 rfl
                    obtain ⟨t1, t2, t3⟩ := Env.get hI.out 1 rfl
                    obtain ⟨s1, s2, s3⟩ := Env.get hI.out 2 rfl
                    obtain ⟨r1, r2, r3⟩ := Env.get hI.out 3 rfl
                    obtain ⟨q1, q2, q3⟩ := Env.get hI.out 4 rfl
                    obtain ⟨p1, p2, p3⟩ := Env.get hI.out 5 rfl
                    obtain ⟨z1, z2, z3⟩ := Env.get hI.out 6 rfl
                    obtain ⟨y1, y2, y3⟩ := Env.get hI.out 7 rfl
                    obtain ⟨x1, x2, x3⟩ := Env.get hI.out 8 rfl
                    go_wp2_with fail
                    clear v1 v2 v3 t1 t2 t3 s1 s2 s3 r1 r2 r3 q1 q2 q3 p1 p2 p3 z1 z2 z3 y1 y2 y3 x1 x2 x3
                    refine (K2.out _).mono ?_
                    rintro e1 w1 ⟨rfl, hn⟩
                    replace hI := hide (Env.below hI.out hn)
                    clear hn
                    obtain ⟨v1, v2, v3⟩ := Env.get hI.out 0 rfl
                    obtain ⟨t1, t2, t3⟩ := Env.get hI.out 1 rfl
                    obtain ⟨s1, s2, s3⟩ := Env.get hI.out 2 rfl
                    obtain ⟨r1, r2, r3⟩ := Env.get hI.out 3 rfl
                    obtain ⟨q1, q2, q3⟩ := Env.get hI.out 4 rfl
                    obtain ⟨p1, p2, p3⟩ := Env.get hI.out 5 rfl
                    obtain ⟨z1, z2, z3⟩ := Env.get hI.out 6 rfl
                    obtain ⟨y1, y2, y3⟩ := Env.get hI.out 7 rfl
                    obtain ⟨x1, x2, x3⟩ := Env.get hI.out 8 rfl
                    go_wp2_with fail
                    clear v1 v2 v3 t1 t2 t3 s1 s2 s3 r1 r2 r3 q1 q2 q3 p1 p2 p3 z1 z2 z3 y1 y2 y3 x1 x2 x3
                    refine (J2.out _).mono ?_
                    rintro e1 w1 ⟨rfl, hn⟩
                    replace hI := hide (Env.below hI.out hn)
                    clear hn
                    have hI8 := hide (show Env w [(gt, one), (gs, y), (gr, x), (gq, y), (gp, x), (w.heap.size + 1 + 1, c), (w.heap.size + 1, b), (w.heap.size, a)] w1 from ⟨hI.out.1, fun p hp => hI.out.2 p (List.mem_cons_of_mem _ hp)⟩)
                    clear hI
                    cases lk <;> cases hk2 <;> cases z <;> cases y0
                    all_goals
                      go_wp2_with fail
                      go_roundw
                      case rel => exact ⟨3, by omega, by go_num, by rw [hl1.out]; rfl, by rw [hh1.out]; rfl, hI8⟩
                      case measure => simp [intOf]
                  · have hl1 : lowF n0 n1 n2 3 = true := by have := LO.out.1; simp [lowF]; omega
                    have hh1 : lowF m0 m1 m2 3 = true := by have := LO.out.2; simp [lowF]; omega
                    have hk1 : (x.k == y.k) = true := by simpa using HK.out
                    rw [hl1, hh1]
                    clear hl1 hh1
                    obtain ⟨t1, t2, t3⟩ := Env.get hI.out 0 rfl
                    obtain ⟨s1, s2, s3⟩ := Env.get hI.out 1 rfl
                    obtain ⟨r1, r2, r3⟩ := Env.get hI.out 2 rfl
                    obtain ⟨q1, q2, q3⟩ := Env.get hI.out 3 rfl
                    obtain ⟨p1, p2, p3⟩ := Env.get hI.out 4 rfl
                    obtain ⟨z1, z2, z3⟩ := Env.get hI.out 5 rfl
                    obtain ⟨y1, y2, y3⟩ := Env.get hI.out 6 rfl
                    obtain ⟨x1, x2, x3⟩ := Env.get hI.out 7 rfl
                    go_wp2_with fail
                    clear t1 t2 t3 s1 s2 s3 r1 r2 r3 q1 q2 q3 p1 p2 p3 z1 z2 z3 y1 y2 y3 x1 x2 x3
                    refine (known2_calls _).mono ?_
                    rintro e1 w1 ⟨rfl, hn⟩
                    replace hI := hide (Env.below hI.out hn)
                    clear hn
                    go_wp2_with fail
                    go_ret
                    exact ⟨rfl, hI.out.1⟩
              · have hx := (vEq_iff _ _).1 hxz
                obtain ⟨h3, h4⟩ := hz.out (.inr hx)
                subst h3 h4
                have f1 := fun W => eql38_self Val.zero W
                clear hz HC hx hxz
                unfold Val.zero at *
                dsimp only at *
                go_wp2_with fail
                clear t1 t2 t3 s1 s2 s3 r1 r2 r3 q1 q2 q3 p1 p2 p3 z1 z2 z3 y1 y2 y3 x1 x2 x3
                refine (known2_calls _).mono ?_
                rintro e1 w1 ⟨rfl, hn⟩
                replace hI := hide (Env.below hI.out hn)
                clear hn
                go_wp2_with fail
                go_ret
                exact ⟨rfl, hI.out.1⟩
            · obtain ⟨h3, h4⟩ := hz.out (.inl he)
              subst h3 h4
              have f1 := fun W => eql38_self Val.zero W
              have he' : (e == 0) = false := by simpa using he
              have he2 : (e != 0) = true := by simpa using he
              clear hz HC he
              unfold Val.zero at *
              dsimp only at *
              go_wp2_with fail
              clear t1 t2 t3 s1 s2 s3 r1 r2 r3 q1 q2 q3 p1 p2 p3 z1 z2 z3 y1 y2 y3 x1 x2 x3
              refine (known2_calls _).mono ?_
              rintro e1 w1 ⟨rfl, hn⟩
              replace hI := hide (Env.below hI.out hn)
              clear hn
              go_wp2_with fail
              go_ret
              exact ⟨rfl, hI.out.1⟩
end Go.Proofs.Ytlmjcifiofobpaa
