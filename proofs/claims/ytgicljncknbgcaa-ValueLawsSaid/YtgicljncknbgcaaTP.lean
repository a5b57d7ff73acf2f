/- Regions whose order is open: what is told of them holds. -/
import Derived.Test.YtgicljncknbgcaaTL
namespace Go.Proofs.Ytgicljncknbgcaa.Abs
open Go Go.ChangeShapes Go.WideShapes Go.ChangeAt Go.RowKit
set_option linter.unusedVariables false
set_option linter.unusedSimpArgs false

def ltL (i : Nat) : Nat → Bool := fun j => decide (j < i)
theorem ancB_lt {A : Array Oper} (h : ∀ (i : Nat) (o : Oper), A[i]? = some o → ∀ e ∈ o.after, Region.binds .any e = true → e.on < i) : ∀ (f j i : Nat), ancB A f j i = true → i < j
  | 0, _, _, h0 => by simp [ancB] at h0
  | f + 1, j, i, h0 => by
    cases hj : A[j]? with
    | none => simp [ancB, hj] at h0
    | some o =>
      simp only [ancB, hj, List.any_eq_true] at h0
      obtain ⟨e, he, hb⟩ := h0
      simp only [Bool.and_eq_true, Bool.or_eq_true, beq_iff_eq] at hb
      have h1 := h j o hj e (by simpa using he) hb.1
      rcases hb.2 with h2 | h2
      · omega
      · have := ancB_lt h f e.on i h2; omega
theorem lookN_mem {α : Type} : ∀ {l : List (Nat × α)} {i : Nat} {x : α}, lookN l i = some x → (i, x) ∈ l
  | [], i, x, h => by simp [lookN] at h
  | (a, y) :: l, i, x, h => by
    simp only [lookN] at h
    split at h
    · rename_i e; cases h; subst e; simp
    · exact List.mem_cons_of_mem _ (lookN_mem h)
section
variable {A : Array Oper} {nb n0 i : Nat}
theorem dead_mem : ∀ {ws : List (Nat × TW)} {j : Nat} {w : TW}, (j, w) ∈ ws → j ≠ i → ancq A i j = false → ancq A j i = false → ∀ x ∈ w.dead nb n0, x ∈ deadOf nb n0 A i ws
  | (j', w') :: l, j, w, h, h1, h2, h3, x, hx => by
    simp only [deadOf]
    rcases List.mem_cons.1 h with e | e
    · cases e
      have : (Nat.beq j' i || ancq A i j' || ancq A j' i) = false := by
        rw [h2, h3]
        have : Nat.beq j' i = false := by
          cases hb : Nat.beq j' i with
          | false => rfl
          | true => exact absurd (Nat.eq_of_beq_eq_true hb) h1
        rw [this]; rfl
      rw [this]
      exact List.mem_append.2 (.inl hx)
    · have ih := dead_mem (ws := l) e h1 h2 h3 x hx
      split
      · exact ih
      · exact List.mem_append.2 (.inr ih)
theorem ts_mem : ∀ {ws : List (Nat × TW)} {j : Nat} {w : TW}, (j, w) ∈ ws → j ≠ i → ancq A j i = false → ∀ x ∈ w.ts, x ∈ tsOf A i ws
  | (j', w') :: l, j, w, h, h1, h3, x, hx => by
    simp only [tsOf]
    rcases List.mem_cons.1 h with e | e
    · cases e
      have : (Nat.beq j' i || ancq A j' i) = false := by
        rw [h3]
        have : Nat.beq j' i = false := by
          cases hb : Nat.beq j' i with
          | false => rfl
          | true => exact absurd (Nat.eq_of_beq_eq_true hb) h1
        rw [this]; rfl
      rw [this]
      exact List.mem_append.2 (.inl hx)
    · have ih := ts_mem (ws := l) e h1 h3 x hx
      split
      · exact ih
      · exact List.mem_append.2 (.inr ih)
end
theorem tsAll_mem : ∀ {ws : List (Nat × TW)} {j : Nat} {w : TW}, (j, w) ∈ ws → ∀ x ∈ w.ts, x ∈ tsAll ws
  | (j', w') :: l, j, w, h, x, hx => by
    simp only [tsAll]
    rcases List.mem_cons.1 h with e | e
    · cases e; exact List.mem_append.2 (.inl hx)
    · exact List.mem_append.2 (.inr (tsAll_mem e x hx))
theorem frAt_congr {A : Array Oper} {fr : List AV} {val val' : Nat → AV} : ∀ i, (∀ j, j < i → val' j = val j) → frAt A fr val' i = frAt A fr val i
  | 0, _ => rfl
  | i + 1, h => by simp only [frAt, frAt_congr i fun j hj => h j (by omega), h i (by omega)]
theorem SR_wcongr {wr wr' : Nat → Option HW} {s0 : List Ob} {K n i : Nat} (h : ∀ j, j < i → wr' j = wr j) : ∀ m, SR wr' s0 K n (ltL i) m = SR wr s0 K n (ltL i) m := by
  have hb : ∀ m, baseR wr' s0 K (ltL i) m = baseR wr s0 K (ltL i) m := by
    intro m
    induction m with
    | zero => rfl
    | succ m ih =>
      simp only [baseR, ih]
      by_cases hm : m < i
      · rw [h m hm]
      · have e : ltL i m = false := by simp [ltL, hm]
        simp only [e]
        cases wr' m with
        | none => cases wr m with
          | none => rfl
          | some w => cases w <;> rfl
        | some w => cases w <;> (cases wr m with
          | none => rfl
          | some w => cases w <;> rfl)
  intro m
  induction m with
  | zero => exact hb n
  | succ m ih =>
    simp only [SR, ih]
    by_cases hm : m < i
    · rw [h m hm]
    · have e : ltL i m = false := by simp [ltL, hm]
      simp only [e]
      rfl
theorem ltL_succ (i : Nat) : ltL (i + 1) = addL (ltL i) i := by
  funext j
  simp only [ltL, addL]
  by_cases h : j = i
  · subst h; simp
  · rw [if_neg h]
    congr 1
    simp only [eq_iff_iff]
    omega
section
variable (P : Program) (A : Array Oper) (n nb n0 K : Nat) (s0 : List Ob) (ws : List (Nat × TW)) (fr0 : List AV)
def frV (val : Nat → AV) (i : Nat) : List AV := clearMarks (tsOf A i ws) (frAt A fr0 val i)
def svV (wr : Nat → Option HW) (i : Nat) : List Ob := mskS (deadOf nb n0 A i ws) (tsOf A i ws) 0 (SR wr s0 K n (ltL i) n)
def Mt (j : Nat) (w : Option HW) : Prop := match lookN ws j with
  | none => w = none
  | some (.alloc r) => ∃ cs t, w = some (.alloc (nb + r) cs t)
  | some (.store o i) => ∃ ob, w = some (.store (idxOf nb n0 (.store o i)) ob)
  | some (.app t0) => w = some (.app [t0])
def PF (i : Nat) (o : Oper) (val : Nat → AV) (wr : Nat → Option HW) : Prop := Mt nb n0 ws i (wr i) ∧
  ((aWanted A (frV A ws fr0 val i) o = some false ∧ val i = .tuple [] ∧ wr i = none) ∨
  (aWanted A (frV A ws fr0 val i) o = some true ∧ match wr i with
    | none => (val i).refs nb = true ∧ HPure P A o (frV A ws fr0 val i) (svV A n nb n0 K s0 ws wr i) (val i)
    | some (.alloc idx cs t) => o.op = .alloc t ∧ zeroCells P t = some cs ∧ val i = .ref idx 0 ∧ nb ≤ idx ∧ idx < nb + K
    | some (.store idx ob) => val i = .tuple [] ∧ belows nb ob.cs = true ∧ HStore P A o (frV A ws fr0 val i) (svV A n nb n0 K s0 ws wr i) idx ob
    | some (.app t') => (val i).refs nb = true ∧ HApp P A o (frV A ws fr0 val i) t' (val i)))
end
section
variable {P : Program} {A : Array Oper} {n nb n0 K : Nat} {s0 : List Ob} {ws : List (Nat × TW)} {fr0 : List AV}
theorem PF.congr {i : Nat} {o : Oper} {val val' : Nat → AV} {wr wr' : Nat → Option HW} (h : PF P A n nb n0 K s0 ws fr0 i o val wr) (h1 : ∀ j, j ≤ i → val' j = val j) (h2 : ∀ j, j ≤ i → wr' j = wr j) : PF P A n nb n0 K s0 ws fr0 i o val' wr' := by
  have e1 : frV A ws fr0 val' i = frV A ws fr0 val i := by unfold frV; rw [frAt_congr i fun j hj => h1 j (by omega)]
  have e2 : svV A n nb n0 K s0 ws wr' i = svV A n nb n0 K s0 ws wr i := by unfold svV; rw [SR_wcongr (wr := wr) (wr' := wr') fun j hj => h2 j (by omega)]
  unfold PF at h ⊢
  rw [h2 i (Nat.le_refl _), h1 i (Nat.le_refl _), e1, e2]
  exact h
theorem ancq_iff (hlt : ∀ (f j i : Nat), ancB A f j i = true → i < j) (i j : Nat) : ancq A i j = true ↔ ancB A A.size i j = true := by
  unfold ancq
  constructor
  · intro h; rw [Bool.and_eq_true] at h; exact h.2
  · intro h
    rw [Bool.and_eq_true]
    exact ⟨by rw [Nat.blt_eq]; exact hlt _ _ _ h, h⟩
theorem HF3_of {val : Nat → AV} {wr : Nat → Option HW} {L : Nat} (hok : drawOK A n L = true) (hws : wsOK A n nb n0 ws = true) (hpf : ∀ i, i < n → ∀ o, A[i]? = some o → PF P A n nb n0 K s0 ws fr0 i o val wr) (hwr : ∀ j, n ≤ j → wr j = none) :
    ∀ i, i < n → ∀ o, A[i]? = some o → HF3 P A n nb K s0 wr fr0 val (fun i => tsOf A i ws) (svV A n nb n0 K s0 ws wr) i o := by
  obtain ⟨c1, c2, c3, c4, c5⟩ := drawOK_spec hok
  have hlt := ancB_lt (A := A) fun i o h => (c2 i o h).1
  have hq := ancq_iff hlt
  have hqf : ∀ i j, ancB A A.size i j = false → ancq A i j = false := fun i j h => by
    cases hh : ancq A i j with
    | false => rfl
    | true => rw [(hq i j).1 hh] at h; cases h
  have hmt : ∀ j, j < n → Mt nb n0 ws j (wr j) := fun j hj => (hpf j hj A[j] (Array.getElem?_eq_getElem (by omega))).1
  -- an operation that turns something is listed
  have hl : ∀ j W, wr j = some W → ∃ w, (j, w) ∈ ws ∧ (match W, w with
      | .alloc idx cs t, .alloc r => idx = nb + r
      | .store idx ob, .store o i => idx = idxOf nb n0 (.store o i)
      | .app ts, .app t0 => ts = [t0]
      | _, _ => False) := by
    intro j W hW
    have hj : j < n := by
      rcases Nat.lt_or_ge j n with h | h
      · exact h
      · rw [hwr j h] at hW; cases hW
    have hm := hmt j hj
    unfold Mt at hm
    rw [hW] at hm
    cases hlk : lookN ws j with
    | none => rw [hlk] at hm; cases hm
    | some w =>
      rw [hlk] at hm
      refine ⟨w, lookN_mem hlk, ?_⟩
      cases w with
      | alloc r => obtain ⟨cs, t, e⟩ := hm; cases e; rfl
      | store o i => obtain ⟨ob, e⟩ := hm; cases e; rfl
      | app t0 => cases hm; rfl
  have hpair : ∀ {j i : Nat} {w w' : TW}, (j, w) ∈ ws → (i, w') ∈ ws → wsPair nb n0 A j i w w' = true := by
    intro j i w w' h1 h2
    have := List.all_eq_true.1 hws _ h1
    rw [Bool.and_eq_true] at this
    exact List.all_eq_true.1 this.2 _ h2
  have hts : ∀ i j, j ≠ i → ancB A A.size j i = false → ∀ t ∈ HW.ts (wr j), t ∈ tsOf A i ws := by
    intro i j hji ha t ht
    cases hW : wr j with
    | none => rw [hW] at ht; cases ht
    | some W =>
      obtain ⟨w, hw, hm⟩ := hl j W hW
      rw [hW] at ht
      cases W with
      | app ts =>
        cases w with
        | app t0 => subst hm; exact ts_mem hw hji (hqf _ _ ha) t ht
        | _ => exact hm.elim
      | _ => cases ht
  have hchain : ∀ i, (∃ W, wr i = some W ∧ ∀ idx cs t, W ≠ .alloc idx cs t) → ∀ j, i < j → j < n → (∀ s, effS (wr j) s = s) ∨ ancB A A.size j i = true := by
    rintro i ⟨W, hW, hna⟩ j hij hj
    cases hV : wr j with
    | none => exact .inl fun _ => rfl
    | some V =>
      obtain ⟨w, hw, hm⟩ := hl i W hW
      obtain ⟨v, hv, hm2⟩ := hl j V hV
      have hp := hpair hw hv
      have hbe : Nat.beq i j = false := by
        cases hb : Nat.beq i j with
        | false => rfl
        | true => have := Nat.eq_of_beq_eq_true hb; omega
      have fin : (Nat.beq i j || ancq A j i || ancq A i j) = true → ancB A A.size j i = true := by
        intro h
        rw [hbe, Bool.false_or, Bool.or_eq_true] at h
        rcases h with h | h
        · exact (hq _ _).1 h
        · have := hlt _ _ _ ((hq _ _).1 h); omega
      cases V with
      | alloc => exact .inl fun _ => rfl
      | store idx ob =>
        right
        cases v with
        | store o x =>
          cases W with
          | alloc idx cs t => exact absurd rfl (hna _ _ _)
          | store => cases w with
            | store => exact fin hp
            | _ => exact hm.elim
          | app => cases w with
            | app => exact fin hp
            | _ => exact hm.elim
        | _ => exact hm2.elim
      | app ts =>
        right
        cases v with
        | app t0 =>
          cases W with
          | alloc idx cs t => exact absurd rfl (hna _ _ _)
          | store => cases w with
            | store => exact fin hp
            | _ => exact hm.elim
          | app => cases w with
            | app => exact fin hp
            | _ => exact hm.elim
        | _ => exact hm2.elim
  intro i hi o ho
  obtain ⟨_, hw⟩ := hpf i hi o ho
  refine ⟨?_, fun j hj hji ha => hts i j hji ha, ?_⟩
  · intro L hadm
    refine (SR_rel ?_ n (Nat.le_refl _)).msk
    intro j hj hne
    have hji : j ≠ i := by
      intro e; subst e
      rw [hadm.un] at hne
      simp [ltL] at hne
    have h1 : ancB A A.size i j = false := by
      cases hh : ancB A A.size i j with
      | false => rfl
      | true =>
        exfalso
        apply hne
        rw [hadm.anc j hh]
        simp [ltL, hlt _ _ _ hh]
    have h2 : ancB A A.size j i = false := by
      cases hh : ancB A A.size j i with
      | false => rfl
      | true =>
        exfalso
        apply hne
        rw [hadm.dec j hh]
        have := hlt _ _ _ hh
        simp only [ltL]
        symm
        simp
        omega
    cases hW : wr j with
    | none => trivial
    | some W =>
      obtain ⟨w, hw, hm⟩ := hl j W hW
      have hd := dead_mem (nb := nb) (n0 := n0) hw hji (hqf _ _ h1) (hqf _ _ h2)
      cases W with
      | alloc idx cs t =>
        cases w with
        | alloc r => simp only at hm; subst hm; exact hd _ (by simp [TW.dead])
        | _ => exact hm.elim
      | store idx ob =>
        cases w with
        | store o x => simp only at hm; subst hm; exact hd _ (by cases o <;> simp [TW.dead, idxOf])
        | _ => exact hm.elim
      | app ts =>
        cases w with
        | app t0 => simp only at hm; subst hm; exact ts_mem hw hji (hqf _ _ h2)
        | _ => exact hm.elim
  · rcases hw with hw | ⟨hw1, hw2⟩
    · exact .inl hw
    · refine .inr ⟨hw1, ?_⟩
      cases hW : wr i with
      | none => rw [hW] at hw2; exact hw2
      | some W =>
        rw [hW] at hw2
        cases W with
        | alloc idx cs t =>
          obtain ⟨k1, k2, k3, k4, k5⟩ := hw2
          obtain ⟨w, hwm, hm⟩ := hl i _ hW
          refine ⟨k1, k2, k3, k4, k5, ?_, ?_⟩
          · intro j idx' cs' t' hji hj
            obtain ⟨w', hwm', hm'⟩ := hl j _ hj
            cases w with
            | alloc r =>
              cases w' with
              | alloc r' =>
                have hp := hpair hwm hwm'
                simp only [wsPair, Bool.or_eq_true, Bool.not_eq_true'] at hp
                simp only at hm hm'
                intro e
                rcases hp with hp | hp
                · exact hji (Nat.eq_of_beq_eq_true hp).symm
                · have : r = r' := by omega
                  subst this
                  rw [Nat.beq_refl] at hp
                  cases hp
              | _ => exact hm'.elim
            | _ => exact hm.elim
          · intro j ob hj
            obtain ⟨w', hwm', hm'⟩ := hl j _ hj
            cases w with
            | alloc r =>
              cases w' with
              | store o x =>
                have hp := hpair hwm hwm'
                simp only [wsPair, Bool.or_eq_true, Bool.not_eq_true'] at hp
                simp only at hm hm'
                rcases hp with hp | hp
                · exfalso
                  have : ((TW.store o x).dead nb n0).contains (nb + r) = true := by
                    rw [← hm, hm']
                    cases o <;> simp [TW.dead, idxOf]
                  rw [this] at hp
                  cases hp
                · exact (hq _ _).1 hp
              | _ => exact hm'.elim
            | _ => exact hm.elim
        | store idx ob => exact ⟨hw2.1, hw2.2.1, hw2.2.2, hchain i ⟨_, hW, fun _ _ _ h => by cases h⟩⟩
        | app t' => exact ⟨hw2.1, hw2.2, hchain i ⟨_, hW, fun _ _ _ h => by cases h⟩⟩
end
end Go.Proofs.Ytgicljncknbgcaa.Abs
