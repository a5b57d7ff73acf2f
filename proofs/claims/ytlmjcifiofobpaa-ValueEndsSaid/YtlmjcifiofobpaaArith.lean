/- The contracts of package value's Add, Sub, Mul, Div, Truth, Not. -/
import Derived.Test.YtlmjcifiofobpaaDoAdd
import Derived.Test.YtlmjcifiofobpaaDoSub
import Derived.Test.YtlmjcifiofobpaaDoMul
import Derived.Test.YtlmjcifiofobpaaDoQuo
namespace Go.Proofs.Ytlmjcifiofobpaa
open Go.ChangeShapes Go.WideShapes Go.ChangeAt Go.RowKit
set_option linter.unusedVariables false
set_option linter.unusedSimpArgs false

def nAdd (a b : Int) : Int × Int := (toldV (a + b), toldE (a + b))
def nSub (a b : Int) : Int × Int := (toldV (a - b), toldE (a - b))
def nMul (a b : Int) : Int × Int := (toldV (a * b), toldE (a * b))
def nMulD (a b : Int) : Int × Int := (toldV (overV a b 10000), toldE (overV a b 10000))
def nQuo (a b : Int) : Int × Int := if b = 0 then (0, 10) else (toldV (a.tdiv b), toldE (a.tdiv b))
def nQuoD (a b : Int) : Int × Int := if b = 0 then (0, 10) else (toldV (overV a 10000 b), toldE (overV a 10000 b))
theorem ok_add : ArithOK 17 nAdd := fun a b ha hb => add_tells a b ha hb
theorem ok_sub : ArithOK 19 nSub := fun a b ha hb => sub_tells a b ha hb
theorem ok_mul : ArithOK 18 nMul := fun a b ha hb => mul_tells a b ha hb
theorem ok_muld : ArithOK 13 nMulD := fun a b ha hb => muldec_tells a b ha hb
theorem ok_quo : ArithOK 20 nQuo := fun a b ha hb => by
  unfold nQuo
  split
  · subst b; exact quo_tells0 a
  · exact quo_tells a b ha hb (by assumption)
theorem ok_quod : ArithOK 14 nQuoD := fun a b ha hb => by
  unfold nQuoD
  split
  · subst b; exact divdec_tells0 a
  · exact divdec_tells a b ha hb (by assumption)

/-- two boxes and the result's block -/
theorem arith_start (w : World) (a b : Val) : ∃ W : World, W = (((w.alloc (.cells #[.int .u8 a.k, .int .i64 a.n, .string a.s] 38)).alloc (.cells #[.int .u8 b.k, .int .i64 b.n, .string b.s] 38)).alloc
      (.cells #[.int .u8 0, .int .i64 0, .string ⟨#[]⟩] 38)) ∧
    Three W (w.heap.size + 1 + 1) 38 (.int .u8 0) (.int .i64 0) (.string ⟨#[]⟩) ∧ W.heap.size = w.heap.size + 3 ∧ Below w.heap.size w W := by
  refine ⟨_, rfl, ?_, by simp, ?_⟩
  · have h := Three.new ((w.alloc (.cells #[.int .u8 a.k, .int .i64 a.n, .string a.s] 38)).alloc (.cells #[.int .u8 b.k, .int .i64 b.n, .string b.s] 38)) 38 (.int .u8 0) (.int .i64 0) (.string ⟨#[]⟩)
    simp only [World.size_alloc] at h
    exact h
  · exact (((below_refl w).alloc (Nat.le_refl _) _).alloc (by simp) _).alloc (by simp; omega) _

def vadd (a b : Val) : Val × Int := doF nAdd nAdd a b
set_option maxHeartbeats 800000 in
theorem vadd_calls (a b : Val) (ha : a.ok) (hb : b.ok) (w : World) : Calls Try.prog 31 #[a.enc, b.enc] w fun x w' => x = .returned (.tuple #[(vadd a b).1.enc, .int .i64 (vadd a b).2]) ∧ Below w.heap.size w w' := by
  have HD := hide (fun W => do_add nAdd nAdd ok_add ok_add a b ha hb W)
  have HF := hide (show vadd a b = doF nAdd nAdd a b from rfl)
  obtain ⟨⟨rk, rn, rs⟩, hr⟩ : ∃ r, (doF nAdd nAdd a b).1 = r := ⟨_, rfl⟩
  obtain ⟨re, hre⟩ : ∃ r, (doF nAdd nAdd a b).2 = r := ⟨_, rfl⟩
  have HR := hide (And.intro hr hre)
  have HD2 : Hid (∀ W : World, Calls Try.prog 65 #[a.enc, b.enc, .func (.func 17) #[] #[], .func (.func 17) #[] #[]] W fun x w' => x = .returned (.tuple #[.agg #[.int .u8 rk, .int .i64 rn, .string rs], .int .i64 re]) ∧ Below W.heap.size W w') := by
    intro W
    have h := HD.out W
    rw [hr, hre] at h
    exact h
  obtain ⟨W, hW, hT, hsz, hbw⟩ := arith_start w a b
  have HS := hide (And.intro hT (And.intro hsz hbw))
  clear ha hb hr hre HD hT hsz hbw
  unfold Val.enc at *
  go_enter Try.func31, Try.ntmps31
  go_wp2_with fail
  rw [← hW]
  clear hW
  refine (HD2.out W).mono ?_
  rintro e w1 ⟨rfl, hn⟩
  obtain ⟨r0, r1, r2, r3, r4, r5⟩ := (HS.out.1.below hn (by have := HS.out.2.1; omega)).facts
  have hB := hide (HS.out.2.2.trans (hn.mono (by have := HS.out.2.1; omega)))
  clear hn
  go_wp2_with fail
  refine bodyPost_ret (v := .tuple #[.agg #[.int .u8 rk, .int .i64 rn, .string rs], .int .i64 re]) (by simp [results, Try.results31, go_sem, r0, r1, r2]) rfl ?_
  exact ⟨by rw [HF.out, HR.out.1, HR.out.2], below_set3 hB.out (by omega) _ _ _⟩

def vsub (a b : Val) : Val × Int := doF nSub nSub a b
set_option maxHeartbeats 800000 in
theorem vsub_calls (a b : Val) (ha : a.ok) (hb : b.ok) (w : World) : Calls Try.prog 34 #[a.enc, b.enc] w fun x w' => x = .returned (.tuple #[(vsub a b).1.enc, .int .i64 (vsub a b).2]) ∧ Below w.heap.size w w' := by
  have HD := hide (fun W => do_sub nSub nSub ok_sub ok_sub a b ha hb W)
  have HF := hide (show vsub a b = doF nSub nSub a b from rfl)
  obtain ⟨⟨rk, rn, rs⟩, hr⟩ : ∃ r, (doF nSub nSub a b).1 = r := ⟨_, rfl⟩
  obtain ⟨re, hre⟩ : ∃ r, (doF nSub nSub a b).2 = r := ⟨_, rfl⟩
  have HR := hide (And.intro hr hre)
  have HD2 : Hid (∀ W : World, Calls Try.prog 65 #[a.enc, b.enc, .func (.func 19) #[] #[], .func (.func 19) #[] #[]] W fun x w' => x = .returned (.tuple #[.agg #[.int .u8 rk, .int .i64 rn, .string rs], .int .i64 re]) ∧ Below W.heap.size W w') := by
    intro W
    have h := HD.out W
    rw [hr, hre] at h
    exact h
  obtain ⟨W, hW, hT, hsz, hbw⟩ := arith_start w a b
  have HS := hide (And.intro hT (And.intro hsz hbw))
  clear ha hb hr hre HD hT hsz hbw
  unfold Val.enc at *
  go_enter Try.func34, Try.ntmps34
  go_wp2_with fail
  rw [← hW]
  clear hW
  refine (HD2.out W).mono ?_
  rintro e w1 ⟨rfl, hn⟩
  obtain ⟨r0, r1, r2, r3, r4, r5⟩ := (HS.out.1.below hn (by have := HS.out.2.1; omega)).facts
  have hB := hide (HS.out.2.2.trans (hn.mono (by have := HS.out.2.1; omega)))
  clear hn
  go_wp2_with fail
  refine bodyPost_ret (v := .tuple #[.agg #[.int .u8 rk, .int .i64 rn, .string rs], .int .i64 re]) (by simp [results, Try.results34, go_sem, r0, r1, r2]) rfl ?_
  exact ⟨by rw [HF.out, HR.out.1, HR.out.2], below_set3 hB.out (by omega) _ _ _⟩

def vmul (a b : Val) : Val × Int := doF nMul nMulD a b
set_option maxHeartbeats 800000 in
theorem vmul_calls (a b : Val) (ha : a.ok) (hb : b.ok) (w : World) : Calls Try.prog 41 #[a.enc, b.enc] w fun x w' => x = .returned (.tuple #[(vmul a b).1.enc, .int .i64 (vmul a b).2]) ∧ Below w.heap.size w w' := by
  have HD := hide (fun W => do_mul nMul nMulD ok_mul ok_muld a b ha hb W)
  have HF := hide (show vmul a b = doF nMul nMulD a b from rfl)
  obtain ⟨⟨rk, rn, rs⟩, hr⟩ : ∃ r, (doF nMul nMulD a b).1 = r := ⟨_, rfl⟩
  obtain ⟨re, hre⟩ : ∃ r, (doF nMul nMulD a b).2 = r := ⟨_, rfl⟩
  have HR := hide (And.intro hr hre)
  have HD2 : Hid (∀ W : World, Calls Try.prog 65 #[a.enc, b.enc, .func (.func 18) #[] #[], .func (.func 13) #[] #[]] W fun x w' => x = .returned (.tuple #[.agg #[.int .u8 rk, .int .i64 rn, .string rs], .int .i64 re]) ∧ Below W.heap.size W w') := by
    intro W
    have h := HD.out W
    rw [hr, hre] at h
    exact h
  obtain ⟨W, hW, hT, hsz, hbw⟩ := arith_start w a b
  have HS := hide (And.intro hT (And.intro hsz hbw))
  clear ha hb hr hre HD hT hsz hbw
  unfold Val.enc at *
  go_enter Try.func41, Try.ntmps41
  go_wp2_with fail
  rw [← hW]
  clear hW
  refine (HD2.out W).mono ?_
  rintro e w1 ⟨rfl, hn⟩
  obtain ⟨r0, r1, r2, r3, r4, r5⟩ := (HS.out.1.below hn (by have := HS.out.2.1; omega)).facts
  have hB := hide (HS.out.2.2.trans (hn.mono (by have := HS.out.2.1; omega)))
  clear hn
  go_wp2_with fail
  refine bodyPost_ret (v := .tuple #[.agg #[.int .u8 rk, .int .i64 rn, .string rs], .int .i64 re]) (by simp [results, Try.results41, go_sem, r0, r1, r2]) rfl ?_
  exact ⟨by rw [HF.out, HR.out.1, HR.out.2], below_set3 hB.out (by omega) _ _ _⟩

def vdiv (a b : Val) : Val × Int := doF nQuo nQuoD a b
set_option maxHeartbeats 800000 in
theorem vdiv_calls (a b : Val) (ha : a.ok) (hb : b.ok) (w : World) : Calls Try.prog 47 #[a.enc, b.enc] w fun x w' => x = .returned (.tuple #[(vdiv a b).1.enc, .int .i64 (vdiv a b).2]) ∧ Below w.heap.size w w' := by
  have HD := hide (fun W => do_quo nQuo nQuoD ok_quo ok_quod a b ha hb W)
  have HF := hide (show vdiv a b = doF nQuo nQuoD a b from rfl)
  obtain ⟨⟨rk, rn, rs⟩, hr⟩ : ∃ r, (doF nQuo nQuoD a b).1 = r := ⟨_, rfl⟩
  obtain ⟨re, hre⟩ : ∃ r, (doF nQuo nQuoD a b).2 = r := ⟨_, rfl⟩
  have HR := hide (And.intro hr hre)
  have HD2 : Hid (∀ W : World, Calls Try.prog 65 #[a.enc, b.enc, .func (.func 20) #[] #[], .func (.func 14) #[] #[]] W fun x w' => x = .returned (.tuple #[.agg #[.int .u8 rk, .int .i64 rn, .string rs], .int .i64 re]) ∧ Below W.heap.size W w') := by
    intro W
    have h := HD.out W
    rw [hr, hre] at h
    exact h
  obtain ⟨W, hW, hT, hsz, hbw⟩ := arith_start w a b
  have HS := hide (And.intro hT (And.intro hsz hbw))
  clear ha hb hr hre HD hT hsz hbw
  unfold Val.enc at *
  go_enter Try.func47, Try.ntmps47
  go_wp2_with fail
  rw [← hW]
  clear hW
  refine (HD2.out W).mono ?_
  rintro e w1 ⟨rfl, hn⟩
  obtain ⟨r0, r1, r2, r3, r4, r5⟩ := (HS.out.1.below hn (by have := HS.out.2.1; omega)).facts
  have hB := hide (HS.out.2.2.trans (hn.mono (by have := HS.out.2.1; omega)))
  clear hn
  go_wp2_with fail
  refine bodyPost_ret (v := .tuple #[.agg #[.int .u8 rk, .int .i64 rn, .string rs], .int .i64 re]) (by simp [results, Try.results47, go_sem, r0, r1, r2]) rfl ?_
  exact ⟨by rw [HF.out, HR.out.1, HR.out.2], below_set3 hB.out (by omega) _ _ _⟩

def truthV (b : Bool) : Val := ⟨4, if b then 1 else 0, ⟨#[]⟩⟩
theorem truth_calls (b : Bool) (w : World) : Calls Try.prog 64 #[.bool b] w fun x w' => x = .returned (truthV b).enc ∧ Below w.heap.size w w' := by
  cases b
  · go_enter Try.func64, Try.ntmps64
    go_wp2_with fail
    refine bodyPost_ret (v := .agg #[.int .u8 4, .int .i64 0, .string ⟨#[]⟩]) (by simp [results, Try.results64, go_sem]) rfl ?_
    exact ⟨rfl, (below_refl w).alloc (Nat.le_refl _) _⟩
  · go_enter Try.func64, Try.ntmps64
    go_wp2_with fail
    refine bodyPost_ret (v := .agg #[.int .u8 4, .int .i64 1, .string ⟨#[]⟩]) (by simp [results, Try.results64, go_sem]) rfl ?_
    exact ⟨rfl, (below_refl w).alloc (Nat.le_refl _) _⟩
end Go.Proofs.Ytlmjcifiofobpaa
