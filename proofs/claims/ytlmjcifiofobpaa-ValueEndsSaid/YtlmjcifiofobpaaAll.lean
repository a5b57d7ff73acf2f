/- The contract of package value's All. -/
import Derived.Test.YtlmjcifiofobpaaArith
namespace Go.Proofs.Ytlmjcifiofobpaa
open Go.ChangeShapes Go.WideShapes Go.ChangeAt Go.RowKit
set_option linter.unusedVariables false
set_option linter.unusedSimpArgs false

/-- the walk's '==' on two values -/
def vEq (a b : Val) : Bool := a.k == b.k && (a.n == b.n && (a.s.toList == b.s.toList))
def allF : List Val → Val → Val
  | [], out => out
  | v :: l, out => if vEq v (truthV false) then v else allF l (if v.k = 4 then out else Val.zero)

theorem eql38 (a b : Val) (W : World) : (binOp .eql 38 (.agg #[.int .u8 a.k, .int .i64 a.n, .string a.s]) (.agg #[.int .u8 b.k, .int .i64 b.n, .string b.s])).run Try.prog W = .ok (.bool (vEq a b)) W := by
  go_simp
  unfold vEq
  by_cases h1 : a.k = b.k <;> by_cases h2 : a.n = b.n <;> by_cases h3 : a.s.toList = b.s.toList <;> simp [h1, h2, h3]
theorem truthF_calls (w : World) : Calls Try.prog 64 #[.bool false] w fun x w' => x = .returned (.agg #[.int .u8 4, .int .i64 0, .string ⟨#[]⟩]) ∧ Below w.heap.size w w' := truth_calls false w
theorem Three.drew {W : World} {g : Nat} {t : TypeId} {a b c : Value} (h : Three W g t a b c) : Three W.drew g t a b c := h
theorem Three.set3 {W : World} {g : Nat} {t : TypeId} {a b c : Value} (h : Three W g t a b c) (x y z : Value) : Three (((W.setCell ⟨g, 0, none⟩ x).setCell ⟨g, 1, none⟩ y).setCell ⟨g, 2, none⟩ z) g t x y z := by
  unfold Three at *
  simp [World.setCell, Array.getElem?_modify, h]
theorem Three.far3 {W : World} {g p : Nat} {t : TypeId} {a b c : Value} (h : Three W g t a b c) (hne : g ≠ p) (x y z : Value) : Three (((W.setCell ⟨p, 0, none⟩ x).setCell ⟨p, 1, none⟩ y).setCell ⟨p, 2, none⟩ z) g t a b c := by
  unfold Three at *
  rw [Below.heap_setCell _ _ _ _ hne, Below.heap_setCell _ _ _ _ hne, Below.heap_setCell _ _ _ _ hne]
  exact h
theorem all_start (w w1 : World) (hb : Below (w.alloc (.cells #[.int .u8 0, .int .i64 0, .string ⟨#[]⟩] 38)).heap.size (w.alloc (.cells #[.int .u8 0, .int .i64 0, .string ⟨#[]⟩] 38)) w1) (o : Obj) :
    Three (w1.alloc o) w.heap.size 38 (.int .u8 0) (.int .i64 0) (.string ⟨#[]⟩) ∧ Below w.heap.size w (w1.alloc o) ∧ w.heap.size + 1 ≤ w1.heap.size := by
  have h1 := hb.size
  simp at h1
  exact ⟨((Three.new w 38 _ _ _).below hb (by simp)).alloc _, (((below_refl w).alloc (Nat.le_refl _) _).trans (hb.mono (by simp))).alloc (by omega) _, by omega⟩

set_option maxRecDepth 100000 in
set_option maxHeartbeats 3200000 in
theorem all_calls (l : List Val) (b off cap : Nat) (w : World) (hl : l.length ≤ 60000) (hv : ValsAt w b off l) (hbk : b < w.heap.size) :
    Calls Try.prog 35 #[.slice (some ⟨b, off, none⟩) l.length cap] w fun x w' => x = .returned (allF l (truthV true)).enc ∧ Below w.heap.size w w' := by
  have HV := hide hv
  clear hv
  go_enter Try.func35, Try.ntmps35
  go_wp2_with fail
  refine (truth_calls true _).mono ?_
  rintro e w1 ⟨rfl, hn⟩
  have HS := hide (all_start w w1 hn)
  clear hn
  unfold Val.enc truthV
  dsimp only
  go_wp2_with fail
  go_loopw [9] (fun i wr => ∃ (k : Nat) (out : Val), k ≤ l.length ∧ i = .int .i64 k ∧ allF l (truthV true) = allF (l.drop k) out ∧ Three wr w1.heap.size 38 (.int .u8 out.k) (.int .i64 out.n) (.string out.s) ∧
    Three wr w.heap.size 38 (.int .u8 0) (.int .i64 0) (.string ⟨#[]⟩) ∧ Below w.heap.size w wr) (fun i _ => l.length - (intOf i).toNat)
  case atStart => exact ⟨0, truthV true, Nat.zero_le _, rfl, rfl, Three.new _ _ _ _ _, (HS.out _).1, (HS.out _).2.1⟩
  case round =>
    obtain ⟨k, out, hk, rfl, heq, hT3, hT2, hbw⟩ := hrel
    have HR := hide (And.intro heq (And.intro hT3 (And.intro hT2 hbw)))
    clear heq
    by_cases hlt : k < l.length
    · obtain ⟨c1, c2, c3⟩ := HV.out.below hbw hbk k hlt
      have hd : l.drop k = l[k] :: l.drop (k + 1) := List.drop_eq_getElem_cons hlt
      have HD := hide hd
      clear hd hT3 hT2 hbw
      obtain ⟨v, hvk⟩ : ∃ v, l[k] = v := ⟨_, rfl⟩
      rw [hvk] at c1 c2 c3 HD
      clear hvk
      go_upto_region 5 with fail
      have hT5 : Three (wr.alloc (.cells #[.int .u8 v.k, .int .i64 v.n, .string v.s] 38)).drew wr.heap.size 38 (.int .u8 v.k) (.int .i64 v.n) (.string v.s) := Three.new wr 38 _ _ _
      obtain ⟨d1, d2, d3, -, -, -⟩ := hT5.facts
      have he := fun W => eql38 v (truthV false) W
      unfold truthV at he
      dsimp only at he
      generalize hq : vEq v ⟨4, if false = true then 1 else 0, ⟨#[]⟩⟩ = q at he
      have HQ := hide hq
      clear hq
      simp only [Bool.false_eq_true, if_false] at he
      go_region_held3 (fun w' => w'.cell? ⟨wr.heap.size, 0, none⟩ = some (.int .u8 v.k) ∧ w'.cell? ⟨wr.heap.size, 1, none⟩ = some (.int .i64 v.n) ∧ w'.cell? ⟨wr.heap.size, 2, none⟩ = some (.string v.s))
        (first | exact ⟨d1, d2, d3⟩ | exact ⟨(hT5.below (W' := w2) hb2 (by simp)).facts.1, (hT5.below (W' := w2) hb2 (by simp)).facts.2.1, (hT5.below (W' := w2) hb2 (by simp)).facts.2.2.1⟩)
        (first | (go_at_call 64; refine (truthF_calls _).mono ?_; rintro e w2 ⟨rfl, hb2⟩))
      have hsz := hb2.size
      simp at hsz
      have G2 := hide ((HR.out.2.2.1.alloc (.cells #[.int .u8 v.k, .int .i64 v.n, .string v.s] 38)).drew.below (W' := w2) hb2 (by have := HR.out.2.2.1.lt; simp; omega))
      have G3 := hide ((HR.out.2.1.alloc (.cells #[.int .u8 v.k, .int .i64 v.n, .string v.s] 38)).drew.below (W' := w2) hb2 (by have := HR.out.2.1.lt; simp; omega))
      obtain ⟨p1, p2, p3, -, -, -⟩ := (hT5.below (W' := w2) hb2 (by simp)).facts
      have GB := hide (((HR.out.2.2.2.alloc HR.out.2.2.2.size _).drew).trans (hb2.mono (by have := HR.out.2.2.2.size; simp; omega)))
      have hs1 := (HS.out (.cells #[] 0)).2.2
      clear hb2 hT5 d1 d2 d3 c1 c2 c3 he
      cases q
      · by_cases h4 : (v.k != 4) = true
        · obtain ⟨r0, r1, r2, r3, r4, r5⟩ := G3.out.facts
          have H4 := hide (show ¬ v.k = 4 by simpa using h4)
          go_wp2_with fail
          go_roundw
          case rel => exact ⟨k + 1, Val.zero, by omega, by go_num, by rw [HR.out.1, HD.out, allF, if_neg (by have := HQ.out; unfold truthV; rw [this]; simp), if_neg H4.out], G3.out.set3 _ _ _, G2.out.far3 (by omega) _ _ _, below_set3 GB.out (by omega) _ _ _⟩
          case measure => simp [intOf]; omega
        · have h4' : (v.k != 4) = false := by simpa using h4
          have H4 := hide (show v.k = 4 by simpa using h4)
          clear h4
          go_wp2_with fail
          go_roundw
          case rel => exact ⟨k + 1, out, by omega, by go_num, by rw [HR.out.1, HD.out, allF, if_neg (by have := HQ.out; unfold truthV; rw [this]; simp), if_pos H4.out], G3.out, G2.out, GB.out⟩
          case measure => simp [intOf]; omega
      · obtain ⟨r0, r1, r2, r3, r4, r5⟩ := G2.out.facts
        go_wp2_with fail
        refine bodyPost_ret (v := .agg #[.int .u8 v.k, .int .i64 v.n, .string v.s]) (by simp [results, Try.results35, go_sem, r0, r1, r2]) rfl ?_
        exact ⟨by rw [HR.out.1, HD.out, allF, if_pos (by have := HQ.out; unfold truthV; rw [this])]; rfl, below_set3 GB.out (by omega) _ _ _⟩
    · obtain ⟨r0, r1, r2, r3, r4, r5⟩ := hT2.facts
      obtain ⟨q0, q1, q2, -, -, -⟩ := hT3.facts
      clear hT2 hT3 hbw
      go_wp2_with fail
      refine bodyPost_ret (v := .agg #[.int .u8 out.k, .int .i64 out.n, .string out.s]) (by simp [results, Try.results35, go_sem, r0, r1, r2]) rfl ?_
      exact ⟨by rw [HR.out.1, List.drop_of_length_le (by omega)]; rfl, below_set3 HR.out.2.2.2 (by omega) _ _ _⟩
end Go.Proofs.Ytlmjcifiofobpaa
