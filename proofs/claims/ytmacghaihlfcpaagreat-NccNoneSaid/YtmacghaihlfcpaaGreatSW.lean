/- Regions whose order is open, state by state: what is carried out, in whatever order, brings about one frame and one store. -/
import Derived.Test.YtmacghaihlfcpaaGreatLF
namespace Go.Proofs.YtmacghaihlfcpaaGreat.Abs
noncomputable section
open Go Go.ChangeShapes Go.WideShapes Go.ChangeAt Go.RowKit
set_option linter.unusedVariables false
set_option linter.unusedSimpArgs false

/-! equality of values -/
def eqTag : Tag → Tag → Bool
  | .full, .full => true
  | .unk, .unk => true
  | .own t e z, .own t' e' z' => Nat.beq t t' && (Nat.beq e e' && Nat.beq z z')
  | _, _ => false
theorem eqTag_eq : ∀ a b, eqTag a b = true → a = b := by
  intro a b h
  cases a <;> cases b <;> simp only [eqTag, Bool.and_eq_true, reduceCtorEq] at h ⊢
  obtain ⟨h1, h2, h3⟩ := h
  rw [Nat.eq_of_beq_eq_true h1, Nat.eq_of_beq_eq_true h2, Nat.eq_of_beq_eq_true h3]
def eqTl (t : Ty) (xs : List (El t)) (t' : Ty) (ys : List (El t')) : Bool := match tyEq t t' with
  | .isTrue h => eqE (.list t) xs (h.symm ▸ ys)
  | .isFalse _ => false
theorem eqTl_eq {t t' : Ty} {xs : List (El t)} {ys : List (El t')} {g : Tag} (h : eqTl t xs t' ys = true) : TV.tl t xs g = TV.tl t' ys g := by
  unfold eqTl at h
  split at h
  · rename_i e _
    subst e
    have := eqE_eq (.list t) xs ys h
    rw [this]
  · cases h
mutual
def eqV : TV → TV → Bool
  | .undef, .undef => true
  | .int k n, .int k' n' => Nat.beq (kNum k) (kNum k') && eqI n n'
  | .bool a, .bool b => eqB a b
  | .tt, .tt => true
  | .ff, .ff => true
  | .str s, .str s' => eqStr s s'
  | .nilp, .nilp => true
  | .ref i o, .ref i' o' => Nat.beq i i' && Nat.beq o o'
  | .tl t xs g, .tl t' xs' g' => eqTag g g' && eqTl t xs t' xs'
  | .ll cs n g, .ll cs' n' g' => Nat.beq n n' && (eqTag g g' && eqVs cs cs')
  | .ep cs o, .ep cs' o' => Nat.beq o o' && eqVs cs cs'
  | .arr i n, .arr i' n' => Nat.beq i i' && Nat.beq n n'
  | .ap i x z o, .ap i' x' z' o' => Nat.beq i i' && (eqI x x' && (Nat.beq z z' && Nat.beq o o'))
  | .nilf, .nilf => true
  | .mapn, .mapn => true
  | .mapr i, .mapr i' => Nat.beq i i'
  | .func (.func f) cs, .func (.func f') cs' => Nat.beq f f' && eqVs cs cs'
  | .agg cs, .agg cs' => eqVs cs cs'
  | .tup cs, .tup cs' => eqVs cs cs'
  | _, _ => false
def eqVs : List TV → List TV → Bool
  | [], [] => true
  | a :: l, b :: m => eqV a b && eqVs l m
  | _, _ => false
end
mutual
theorem eqV_eq : ∀ a b, eqV a b = true → a = b
  | .undef, b, h => by cases b <;> first | rfl | (simp [eqV] at h; done)
  | .int k n, b, h => by
    cases b <;> first | (simp [eqV] at h; done) | skip
    simp only [eqV, Bool.and_eq_true] at h
    rw [kNum_inj h.1, eqI_eq h.2]
  | .bool a, b, h => by
    cases b <;> first | (simp [eqV] at h; done) | skip
    simp only [eqV] at h
    rw [eqB_eq h]
  | .tt, b, h => by cases b <;> first | rfl | (simp [eqV] at h; done)
  | .ff, b, h => by cases b <;> first | rfl | (simp [eqV] at h; done)
  | .str s, b, h => by
    cases b <;> first | (simp [eqV] at h; done) | skip
    simp only [eqV] at h
    rw [eqStr_eq h]
  | .nilp, b, h => by cases b <;> first | rfl | (simp [eqV] at h; done)
  | .ref i o, b, h => by
    cases b <;> first | (simp [eqV] at h; done) | skip
    simp only [eqV, Bool.and_eq_true] at h
    rw [Nat.eq_of_beq_eq_true h.1, Nat.eq_of_beq_eq_true h.2]
  | .tl t xs g, b, h => by
    cases b <;> first | (simp [eqV] at h; done) | skip
    simp only [eqV, Bool.and_eq_true] at h
    rw [← eqTag_eq _ _ h.1]
    exact eqTl_eq h.2
  | .ll cs n g, b, h => by
    cases b <;> first | (simp [eqV] at h; done) | skip
    simp only [eqV, Bool.and_eq_true] at h
    rw [Nat.eq_of_beq_eq_true h.1, eqTag_eq _ _ h.2.1, eqVs_eq _ _ h.2.2]
  | .ep cs o, b, h => by
    cases b <;> first | (simp [eqV] at h; done) | skip
    simp only [eqV, Bool.and_eq_true] at h
    rw [Nat.eq_of_beq_eq_true h.1, eqVs_eq _ _ h.2]
  | .arr i o, b, h => by
    cases b <;> first | (simp [eqV] at h; done) | skip
    simp only [eqV, Bool.and_eq_true] at h
    rw [Nat.eq_of_beq_eq_true h.1, Nat.eq_of_beq_eq_true h.2]
  | .ap i x z o, b, h => by
    cases b <;> first | (simp [eqV] at h; done) | skip
    simp only [eqV, Bool.and_eq_true] at h
    rw [Nat.eq_of_beq_eq_true h.1, eqI_eq h.2.1, Nat.eq_of_beq_eq_true h.2.2.1, Nat.eq_of_beq_eq_true h.2.2.2]
  | .nilf, b, h => by cases b <;> first | rfl | (simp [eqV] at h; done)
  | .mapn, b, h => by cases b <;> first | rfl | (simp [eqV] at h; done)
  | .mapr i, b, h => by
    cases b <;> first | (simp [eqV] at h; done) | skip
    simp only [eqV] at h
    rw [Nat.eq_of_beq_eq_true h]
  | .func f cs, b, h => by
    cases b <;> first | (cases f <;> simp [eqV] at h; done) | skip
    rename_i f' cs'
    cases f <;> cases f' <;> first | (simp [eqV] at h; done) | skip
    simp only [eqV, Bool.and_eq_true] at h
    rw [Nat.eq_of_beq_eq_true h.1, eqVs_eq _ _ h.2]
  | .agg cs, b, h => by
    cases b <;> first | (simp [eqV] at h; done) | skip
    simp only [eqV] at h
    rw [eqVs_eq _ _ h]
  | .tup cs, b, h => by
    cases b <;> first | (simp [eqV] at h; done) | skip
    simp only [eqV] at h
    rw [eqVs_eq _ _ h]
theorem eqVs_eq : ∀ a b, eqVs a b = true → a = b
  | [], b, h => by cases b <;> first | rfl | (simp [eqVs] at h; done)
  | a :: l, b, h => by
    cases b <;> first | (simp [eqVs] at h; done) | skip
    simp only [eqVs, Bool.and_eq_true] at h
    rw [eqV_eq _ _ h.1, eqVs_eq _ _ h.2]
end
def eqO : TOb → TOb → Bool
  | .cells cs t l, .cells cs' t' l' => Nat.beq t t' && (eqB l l' && eqVs cs cs')
  | .tarr ty xs t l, .tarr ty' xs' t' l' => Nat.beq t t' && (eqB l l' && eqTl ty xs ty' xs')
  | _, _ => false
theorem eqO_eq : ∀ a b, eqO a b = true → a = b
  | .cells cs t l, .cells cs' t' l', h => by
    simp only [eqO, Bool.and_eq_true] at h
    rw [Nat.eq_of_beq_eq_true h.1, eqB_eq h.2.1, eqVs_eq _ _ h.2.2]
  | .tarr ty xs t l, .tarr ty' xs' t' l', h => by
    simp only [eqO, Bool.and_eq_true] at h
    rw [Nat.eq_of_beq_eq_true h.1, eqB_eq h.2.1]
    have := eqTl_eq (g := .unk) h.2.2
    cases this
    rfl
  | .cells .., .tarr .., h => by simp [eqO] at h
  | .tarr .., .cells .., h => by simp [eqO] at h
def eqOs : List TOb → List TOb → Bool
  | [], [] => true
  | a :: l, b :: m => eqO a b && eqOs l m
  | _, _ => false
theorem eqOs_eq : ∀ a b, eqOs a b = true → a = b
  | [], [], _ => rfl
  | a :: l, b :: m, h => by
    simp only [eqOs, Bool.and_eq_true] at h
    rw [eqO_eq _ _ h.1, eqOs_eq _ _ h.2]
  | [], _ :: _, h => by simp [eqOs] at h
  | _ :: _, [], h => by simp [eqOs] at h

/-! what is ready -/
def eqM : List Bool → List Bool → Bool
  | [], [] => true
  | a :: l, b :: m => eqB a b && eqM l m
  | _, _ => false
theorem eqM_eq : ∀ a b, eqM a b = true → a = b
  | [], [], _ => rfl
  | a :: l, b :: m, h => by
    simp only [eqM, Bool.and_eq_true] at h
    rw [eqB_eq h.1, eqM_eq _ _ h.2]
  | [], _ :: _, h => by simp [eqM] at h
  | _ :: _, [], h => by simp [eqM] at h
def nthM : List Bool → Nat → Bool
  | [], _ => false
  | b :: _, 0 => b
  | _ :: l, i + 1 => nthM l i
theorem nthM_eq : ∀ (l : List Bool) (i : Nat), nthM l i = l.toArray.getD i false
  | [], i => by simp [nthM]
  | b :: l, 0 => by simp [nthM]
  | b :: l, i + 1 => by rw [nthM, nthM_eq l i]; simp
def bindA (e : Edge) : Bool := Region.binds .any e
def reqs (A : Array Oper) : List (List Nat) := A.toList.map fun o => (o.after.toList.filter bindA).map (·.on)
def rdy (m : List Bool) : List Bool → List (List Nat) → Nat → List Nat
  | b :: l, r :: rs, i => Bool.rec (Bool.rec (rdy m l rs (i + 1)) (i :: rdy m l rs (i + 1)) (r.all (nthM m))) (rdy m l rs (i + 1)) b
  | _, _, _ => []
theorem rdy_mem {m : List Bool} : ∀ (l : List Bool) (rs : List (List Nat)) (i j : Nat), j ∈ rdy m l rs i ↔ ∃ k, j = i + k ∧ l[k]? = some false ∧ ∃ r, rs[k]? = some r ∧ r.all (nthM m) = true
  | [], _, i, j => by
    unfold rdy
    refine ⟨fun h => by simp at h, fun ⟨k, _, h, _⟩ => by simp at h⟩
  | _ :: _, [], i, j => by
    unfold rdy
    refine ⟨fun h => by simp at h, fun ⟨k, _, _, r, h, _⟩ => by simp at h⟩
  | b :: l, r :: rs, i, j => by
    have ih := rdy_mem (m := m) l rs (i + 1) j
    have shift : (∃ k, j = i + 1 + k ∧ l[k]? = some false ∧ ∃ q, rs[k]? = some q ∧ q.all (nthM m) = true) → ∃ k, j = i + k ∧ (b :: l)[k]? = some false ∧ ∃ q, (r :: rs)[k]? = some q ∧ q.all (nthM m) = true := by
      rintro ⟨k, h1, h2, q, h3, h4⟩
      exact ⟨k + 1, by omega, by simpa using h2, q, by simpa using h3, h4⟩
    have back : (∃ k, j = i + k ∧ (b :: l)[k]? = some false ∧ ∃ q, (r :: rs)[k]? = some q ∧ q.all (nthM m) = true) → (j = i ∧ b = false ∧ r.all (nthM m) = true) ∨ ∃ k, j = i + 1 + k ∧ l[k]? = some false ∧ ∃ q, rs[k]? = some q ∧ q.all (nthM m) = true := by
      rintro ⟨k, h1, h2, q, h3, h4⟩
      cases k with
      | zero => simp at h2 h3; exact .inl ⟨h1, h2, by rw [h3]; exact h4⟩
      | succ k => exact .inr ⟨k, by omega, by simpa using h2, q, by simpa using h3, h4⟩
    cases b with
    | true =>
      show j ∈ rdy m l rs (i + 1) ↔ _
      rw [ih]
      refine ⟨shift, fun h => ?_⟩
      rcases back h with ⟨_, h, _⟩ | h
      · cases h
      · exact h
    | false =>
      cases hr : r.all (nthM m) with
      | false =>
        show j ∈ (Bool.rec (rdy m l rs (i + 1)) (i :: rdy m l rs (i + 1)) (r.all (nthM m)) : List Nat) ↔ _
        rw [hr]
        show j ∈ rdy m l rs (i + 1) ↔ _
        rw [ih]
        refine ⟨shift, fun h => ?_⟩
        rcases back h with ⟨_, _, h⟩ | h
        · rw [hr] at h; cases h
        · exact h
      | true =>
        show j ∈ (Bool.rec (rdy m l rs (i + 1)) (i :: rdy m l rs (i + 1)) (r.all (nthM m)) : List Nat) ↔ _
        rw [hr]
        show j ∈ i :: rdy m l rs (i + 1) ↔ _
        rw [List.mem_cons, ih]
        constructor
        · rintro (h | h)
          · exact ⟨0, by omega, rfl, r, rfl, hr⟩
          · exact shift h
        · intro h
          rcases back h with ⟨h, _, _⟩ | h
          · exact .inl h
          · exact .inr h
theorem rdy_ready {A : Array Oper} {m : List Bool} (hm : m.length = A.size) (j : Nat) : j ∈ rdy m m (reqs A) 0 ↔ j ∈ Region.ready .any A m.toArray := by
  rw [rdy_mem]
  unfold Region.ready
  rw [List.mem_filter, List.mem_range]
  constructor
  · rintro ⟨k, h1, h2, r, h3, h4⟩
    have e : j = k := by omega
    subst e
    have hlt := lt_of_some h2
    have hA : A[j]? = some A[j] := Array.getElem?_eq_getElem (by omega)
    unfold reqs at h3
    rw [List.getElem?_map, Array.getElem?_toList, hA] at h3
    simp only [Option.map_some, Option.some.injEq] at h3
    subst h3
    refine ⟨by omega, ?_⟩
    rw [hA]
    simp only [Option.map_some, Option.getD_some, Bool.and_eq_true, Bool.not_eq_true']
    refine ⟨?_, ?_⟩
    · have : m.toArray.getD j true = false := by
        rw [Array.getD_eq_getD_getElem?, List.getElem?_toArray, h2]; rfl
      exact this
    · rw [← Array.all_toList, List.all_eq_true]
      intro e he
      rw [List.all_eq_true] at h4
      cases hb : bindA e with
      | false =>
        have hb' : Region.binds .any e = false := hb
        rw [hb']; rfl
      | true =>
        have hb' : Region.binds .any e = true := hb
        rw [hb']
        have := h4 e.on (List.mem_map.2 ⟨e, List.mem_filter.2 ⟨he, hb⟩, rfl⟩)
        rw [nthM_eq] at this
        simpa using this
  · rintro ⟨h1, h2⟩
    have hA : A[j]? = some A[j] := Array.getElem?_eq_getElem h1
    rw [hA] at h2
    simp only [Option.map_some, Option.getD_some, Bool.and_eq_true, Bool.not_eq_true'] at h2
    obtain ⟨h2, h3⟩ := h2
    have hlt : j < m.length := by omega
    refine ⟨j, by omega, ?_, _, by unfold reqs; rw [List.getElem?_map, Array.getElem?_toList, hA]; rfl, ?_⟩
    · rw [Array.getD_eq_getD_getElem?, List.getElem?_toArray] at h2
      rw [List.getElem?_eq_getElem hlt] at h2 ⊢
      simp at h2
      rw [h2]
    · rw [List.all_eq_true]
      intro x hx
      obtain ⟨e, he, rfl⟩ := List.mem_map.1 hx
      obtain ⟨he, hb⟩ := List.mem_filter.1 he
      rw [← Array.all_toList, List.all_eq_true] at h3
      have := h3 e he
      have hb' : Region.binds .any e = true := hb
      rw [hb'] at this
      rw [nthM_eq]
      simpa using this

/-! one operation, whatever comes behind -/
theorem Oper.wp_mono2 {P : Program} {o : Oper} {a : Act} {w : World} {K K' : Act → World → Prop} {Q Q' : Exit → Act → World → Prop} (h : ∀ a w, K a w → K' a w) (hQ : ∀ c a w, Q (.panic c) a w → Q' (.panic c) a w) (hL : LetsOut Q → LetsOut Q')
    (hh : o.wp P a w K Q) : o.wp P a w K' Q' := by
  unfold Oper.wp at *
  generalize (execOp a.eval o).run P w = r at *
  cases r with
  | ok n w' =>
    cases n <;> simp only [Oper.upon] at hh ⊢ <;>
      first
        | exact h _ _ hh
        | exact Calls.mono hh (fun e w'' he => by cases e <;> first | exact h _ _ he | exact hQ _ _ _ he | exact hL he)
        | exact Rows.mono hh (fun _ _ he => h _ _ he)
  | halt x w' => cases x <;> simp only [Oper.upon] at hh ⊢ <;> first | exact hQ _ _ _ hh | exact hh
theorem QC_panic {M : Nat → Prop} {G0 : Gh} {w0 : World} {Q : AQ} {c} {a : Act} {w : World} (h : QC M G0 w0 Q (.panic c) a w) : False := h.1
theorem QC_lets {M : Nat → Prop} {G0 : Gh} {w0 : World} {Q : AQ} (h : LetsOut (QC M G0 w0 Q)) : False := by
  obtain ⟨a, w, h⟩ := h
  exact h.1
/-- one operation brings about this frame and this store -/
def OpTo (n0 : Nat) (P : Program) (A : Array Oper) (o : Oper) (fr : List AV) (s : List Ob) (fr' : List AV) (s' : List Ob) : Prop :=
  AL n0 P A [o] fr s fun e f t => e = .normal ∧ f = fr' ∧ t = s'
theorem OpTo.wp {n0 : Nat} {P : Program} {A : Array Oper} {o : Oper} {i : Nat} {fr fr' : List AV} {s s' : List Ob} (h : OpTo n0 P A o fr s fr' s') (hi : A[i]? = some o) {M : Nat → Prop} {G0 : Gh} {w0 : World} (hM : Pre P n0 M G0 w0) {a : Act} {w : World} (hr : Rel M G0 w0 fr s a w)
    {Q : AQ} {K : Act → World → Prop} (hK : ∀ a w, Rel M G0 w0 fr' s' a w → K a w) : wpOp P A (QC M G0 w0 Q) i K a w := by
  have h1 := h M G0 w0 hM a w hr
  unfold wpOp
  rw [hi]
  dsimp only
  unfold wpList at h1
  have hn : ∀ a w, wpList P A (QC M G0 w0 fun e f t => e = .normal ∧ f = fr' ∧ t = s') [] a w → K a w := by
    intro a w h2
    obtain ⟨_, f, t, ⟨_, rfl, rfl⟩, h3⟩ := h2
    exact hK a w h3
  split
  · rename_i hw
    rw [if_pos hw] at h1
    rcases h1 with h1 | ⟨_, h1⟩
    · exact .inl (Oper.wp_mono2 hn (fun c a w h => (QC_panic h).elim) (fun h => (QC_lets h).elim) h1)
    · exact (QC_lets h1).elim
  · rename_i hw
    rw [if_neg hw] at h1
    exact hn _ _ h1
end
end Go.Proofs.YtmacghaihlfcpaaGreat.Abs
