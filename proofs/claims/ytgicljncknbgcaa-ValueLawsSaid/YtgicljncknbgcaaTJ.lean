/- Code, loops and functions on typed values. -/
import Derived.Test.YtgicljncknbgcaaTI
namespace Go.Proofs.Ytgicljncknbgcaa.Abs
open Go Go.ChangeShapes Go.WideShapes Go.ChangeAt Go.RowKit
set_option linter.unusedVariables false
set_option linter.unusedSimpArgs false

/-- rows that are made here, as lists from a region on -/
def frz1 {β : Type} (t : Nat) (fr : List TV) (s : List TOb) (k : List TV → List TOb → Option β) : Option β := match fr.getD t .undef with
  | .arr i n => match s[i]? with
    | some (.tarr ty xs ot true) => cond (Nat.beq n xs.length) (setK fr t (.tl ty xs .unk) fun fr => forceS (s.set i (.tarr ty xs ot false)) fun s => k fr s) none
    | _ => none
  | _ => none
def frzK {β : Type} (id : Nat) : List (Nat × Nat) → List TV → List TOb → (List TV → List TOb → Option β) → Option β
  | [], fr, s, k => k fr s
  | (j, t) :: l, fr, s, k => match Nat.beq j id with
    | true => frz1 t fr s fun fr s => frzK id l fr s k
    | false => frzK id l fr s k
theorem frz1_spec {β : Type} {t : Nat} {fr : List TV} {s : List TOb} {k : List TV → List TOb → Option β} {b : β} (h : frz1 t fr s k = some b) : ∃ fr' s', k fr' s' = some b ∧ ∀ M G0 w0 a w, Rel M G0 w0 (dns fr) (dnS s) a w → Rel M G0 w0 (dns fr') (dnS s') a w := by
  unfold frz1 at h
  split at h
  · rename_i i n ht
    split at h
    · rename_i ty xs ot hs
      have h' : Nat.beq n xs.length = true ∧ setK fr t (.tl ty xs .unk) (fun fr => forceS (s.set i (.tarr ty xs ot false)) fun s => k fr s) = some b := by
        cases hb : Nat.beq n xs.length with
        | true => rw [hb] at h; exact ⟨rfl, h⟩
        | false => rw [hb] at h; cases h
      obtain ⟨h1, h2⟩ := h'
      have h1 := Nat.eq_of_beq_eq_true h1
      rw [setK_eq, forceS_eq] at h2
      refine ⟨_, _, h2, fun M G0 w0 a w hr => ?_⟩
      have := Rel.freeze (t := t) (i := i) (n := n) (ob := ⟨xs.flatMap (cellsOf ty), ot, true⟩) (by rw [dnS_get, hs]; rfl) rfl (by rw [dns_getD, ht]; rfl) hr
      rw [dns_set, dnS_set]
      simp only [plains_none _ (flat_mark xs)] at this
      rw [h1] at this
      exact this
    · cases h
  · cases h
theorem frzK_spec {β : Type} {id : Nat} {b : β} : ∀ (l : List (Nat × Nat)) (fr : List TV) (s : List TOb) (k : List TV → List TOb → Option β), frzK id l fr s k = some b → ∃ fr' s', k fr' s' = some b ∧ ∀ M G0 w0 a w, Rel M G0 w0 (dns fr) (dnS s) a w → Rel M G0 w0 (dns fr') (dnS s') a w
  | [], fr, s, k, h => ⟨fr, s, h, fun _ _ _ _ _ h => h⟩
  | (j, t) :: l, fr, s, k, h => by
    simp only [frzK] at h
    split at h
    · obtain ⟨fr1, s1, h1, h2⟩ := frz1_spec h
      obtain ⟨fr2, s2, h3, h4⟩ := frzK_spec l fr1 s1 k h1
      exact ⟨fr2, s2, h3, fun M G0 w0 a w hr => h4 M G0 w0 a w (h2 M G0 w0 a w hr)⟩
    · exact frzK_spec l fr s k h
def nloops : Code → Nat
  | .seq a b => nloops a + nloops b
  | .cond _ a b => nloops a + nloops b
  | .block _ c => nloops c
  | .loop c => nloops c + 1
  | .rangeFunc _ _ a b => nloops a + nloops b
  | .scope c => nloops c
  | _ => 0
def iterF {β : Type} (body : (List TV → List TOb → Option β) → List TV → List TOb → Option β) : Nat → List TV → List TOb → Option β
  | 0, _, _ => none
  | n + 1, fr, s => body (iterF body n) fr s
/-- a region whose order is open; what it tells is in TK -/
abbrev DrawT := Sc → Cfg → (β : Type) → Nat → Array Oper → List TV → List TOb → (List TV → List TOb → Option β) → Option β
/-- a place where ways meet -/
def jmp {β : Type} : Nat → (List TV → List TOb → Option β) → List TV → List TOb → Option β
  | 0, _, _, _ => none
  | _ + 1, R, fr, s => R fr s
def jnK {β : Type} (N n0 id : Nat) : List (Nat × LH) → List TV → List TOb → (List TV → List TOb → Option β) → Option β
  | [], fr, s, R => R fr s
  | (j, lh) :: l, fr, s, R => match Nat.beq j id with
    | true => canon n0 lh fr s fun fr s => jmp N R fr s
    | false => jnK N n0 id l fr s R
theorem jnK_spec {β : Type} {N n0 id : Nat} {R : List TV → List TOb → Option β} {b : β} : ∀ (l : List (Nat × LH)) (fr : List TV) (s : List TOb), jnK N n0 id l fr s R = some b → ∃ fr' s', R fr' s' = some b ∧ ∀ M G0 w0 a w, G0.n ≤ n0 → Rel M G0 w0 (dns fr) (dnS s) a w → Rel M G0 w0 (dns fr') (dnS s') a w
  | [], fr, s, h => ⟨fr, s, h, fun _ _ _ _ _ _ h => h⟩
  | (j, lh) :: l, fr, s, h => by
    simp only [jnK] at h
    split at h
    · obtain ⟨fr1, s1, h1, h2⟩ := canon_spec h
      cases N with
      | zero => simp [jmp] at h1
      | succ N => exact ⟨fr1, s1, h1, h2⟩
    · exact jnK_spec l fr s h
def regK {β : Type} (D : DrawT) (sc : Sc) (cf : Cfg) (id : Nat) (A : Array Oper) (dr : Bool) (k : Exit → List TV → List TOb → Option β) (fr : List TV) (s : List TOb) : Option β := frzK id sc.frz fr s fun fr s => match dr with
  | true => D sc cf β id A fr s fun fr s => k .normal fr s
  | false => runOps sc cf A A.toList fr s fun fr s => k .normal fr s
def regC {β : Type} (D : DrawT) (sc : Sc) (cf : Cfg) (c : Code) (k : Exit → List TV → List TOb → Option β) : List TV → List TOb → Option β := match c with
  | .region id A dr => regK D sc cf id A dr k
  | _ => fun _ _ => none
def run (D : DrawT) {β : Type} (sc : Sc) (cf : Cfg) : Code → List LH → List TV → List TOb → (Exit → List TV → List TOb → Option β) → Option β
  | .skip, _, fr, s, k => k .normal fr s
  | .seq a b, hs, fr, s, k => run D sc cf a hs fr s fun e fr s => match e with
    | .normal => run D sc cf b (hs.drop (nloops a)) fr s k
    | e => k e fr s
  | .cond c a b, hs, fr, s, k => match tEval fr c with
    | .tt => run D sc cf a hs fr s k
    | .ff => run D sc cf b (hs.drop (nloops a)) fr s k
    | .bool t => match c with
      | .tmp i => cond t (setK fr i .tt fun fr => run D sc cf a hs fr s k) (setK fr i .ff fun fr => run D sc cf b (hs.drop (nloops a)) fr s k)
      | _ => none
    | _ => none
  | .block id c, hs, fr, s, k => run D sc cf c hs fr s fun e fr s => match e with
    | .exit i => if i = id then k .normal fr s else k (.exit i) fr s
    | e => k e fr s
  | .exit id, _, fr, s, k => k (.exit id) fr s
  | .ret, _, fr, s, k => k .ret fr s
  | .region id A dr, _, fr, s, k => jnK cf.N cf.n0 id sc.joins fr s (regK D sc cf id A dr k)
  | .loop c, h :: hs, fr, s, k => canon cf.n0 h fr s fun fr s => iterF (fun K fr s => run D sc cf c hs fr s fun e fr s => match e with
      | .normal => canon cf.n0 h fr s fun fr s => K fr s
      | e => k e fr s) cf.N fr s
  | _, _, _, _, _ => none

section
variable {n0 : Nat} {P : Program} {Q : AQ}
/-- a loop that is entered -/
def AWL (n0 : Nat) (P : Program) (c : Code) (fr : List AV) (s : List Ob) (Q : AQ) : Prop :=
  ∀ M G0 w0, Pre n0 M G0 w0 → ∀ a w, Rel M G0 w0 fr s a w → ∀ b k cs, ∃ e a' w', QC M G0 w0 Q e a' w' ∧ Arrives P (lone (b.at a (.code c :: .inLoop c :: k)) cs w) b k cs e a' w'
theorem AWL.loop {c : Code} {fr : List AV} {s : List Ob} (h : AWL n0 P c fr s Q) : AW n0 P (.loop c) fr s Q := by
  intro M G0 w0 hM a w hr b k cs
  obtain ⟨e, a', w', hq, harr⟩ := h M G0 w0 hM a w hr b k cs
  exact ⟨e, a', w', hq, .of_steps (.one step_loop) harr⟩
/-- one round of a loop -/
theorem AWL_unroll {c : Code} {fr : List AV} {s : List Ob} (h : AW n0 P c fr s (aThen (fun fr' s' => ∃ fr2 s2, (∀ M G0 w0 a w, G0.n ≤ n0 → Rel M G0 w0 fr' s' a w → Rel M G0 w0 fr2 s2 a w) ∧ AWL n0 P c fr2 s2 Q) Q)) : AWL n0 P c fr s Q := by
  intro M G0 w0 hM a w hr b k cs
  obtain ⟨e, a₁, w₁, ⟨he, fr1, s1, hq, hr1⟩, harr⟩ := h M G0 w0 hM a w hr b (.inLoop c :: k) cs
  cases e with
  | normal =>
    obtain ⟨fr2, s2, hcv, hnext⟩ := hq
    obtain ⟨e₂, a₂, w₂, hq₂, harr₂⟩ := hnext M G0 w0 hM a₁ w₁ (hcv M G0 w0 a₁ w₁ hM.2 hr1) b k cs
    exact ⟨e₂, a₂, w₂, hq₂, .of_steps (Steps.trans harr (.one step_inLoop)) harr₂⟩
  | exit id => exact ⟨_, a₁, w₁, ⟨he, fr1, s1, hq, hr1⟩, .pass (x := .inLoop c) rfl (fun _ _ => .inl (by simp)) harr⟩
  | goto l => exact ⟨_, a₁, w₁, ⟨he, fr1, s1, hq, hr1⟩, .pass (x := .inLoop c) rfl (fun _ _ => .inl (by simp)) harr⟩
  | ret => exact ⟨_, a₁, w₁, ⟨he, fr1, s1, hq, hr1⟩, .pass (x := .inLoop c) rfl (fun _ _ => .inl (by simp)) harr⟩
  | panic ch => exact he.elim
  | outgrown => exact he.elim
theorem AW_conv {c : Code} {fr fr2 : List AV} {s s2 : List Ob} (hcv : ∀ M G0 w0 a w, G0.n ≤ n0 → Rel M G0 w0 fr s a w → Rel M G0 w0 fr2 s2 a w) (h : AW n0 P c fr2 s2 Q) : AW n0 P c fr s Q :=
  fun M G0 w0 hM a w hr => h M G0 w0 hM a w (hcv M G0 w0 a w hM.2 hr)
end
def DrawSound (D : DrawT) : Prop := ∀ (sc : Sc) (cf : Cfg) (β : Type) (id : Nat) (A : Array Oper) (fr : List TV) (s : List TOb) (k : List TV → List TOb → Option β) (b : β), CallSound sc.P cf.C →
  D sc cf β id A fr s k = some b → ∃ F S, k F S = some b ∧ AW cf.n0 sc.P (.region id A true) (dns fr) (dnS s) (Ex .normal F S)
theorem run_sound {D : DrawT} (hD : DrawSound D) {β : Type} {sc : Sc} {cf : Cfg} (hC : CallSound sc.P cf.C) {b : β} : ∀ (c : Code) (hs : List LH) (fr : List TV) (s : List TOb) (k : Exit → List TV → List TOb → Option β), run D sc cf c hs fr s k = some b →
    ∃ e F S, k e F S = some b ∧ AW cf.n0 sc.P c (dns fr) (dnS s) (Ex e F S)
  | .skip, hs, fr, s, k, h => ⟨.normal, fr, s, h, AW_skip ⟨rfl, rfl, rfl⟩⟩
  | .exit id, hs, fr, s, k, h => ⟨.exit id, fr, s, h, AW_exit ⟨rfl, rfl, rfl⟩⟩
  | .ret, hs, fr, s, k, h => ⟨.ret, fr, s, h, AW_ret ⟨rfl, rfl, rfl⟩⟩
  | .seq x y, hs, fr, s, k, h => by
    simp only [run] at h
    obtain ⟨e, F, S, h1, h2⟩ := run_sound hD hC x hs fr s _ h
    cases e with
    | normal =>
      obtain ⟨e2, F2, S2, h3, h4⟩ := run_sound hD hC y _ F S k h1
      refine ⟨e2, F2, S2, h3, AW_seq (h2.mono ?_)⟩
      rintro e fr s ⟨rfl, rfl, rfl⟩
      exact h4
    | _ =>
      refine ⟨_, F, S, h1, AW_seq (h2.mono ?_)⟩
      rintro e fr s ⟨rfl, rfl, rfl⟩
      exact ⟨rfl, rfl, rfl⟩
  | .cond c x y, hs, fr, s, k, h => by
    simp only [run] at h
    split at h
    · rename_i hc
      obtain ⟨e, F, S, h1, h2⟩ := run_sound hD hC x hs fr s k h
      exact ⟨e, F, S, h1, AW_cond (t := true) (by rw [← dn_tEval, hc]; rfl) h2⟩
    · rename_i hc
      obtain ⟨e, F, S, h1, h2⟩ := run_sound hD hC y _ fr s k h
      exact ⟨e, F, S, h1, AW_cond (t := false) (by rw [← dn_tEval, hc]; rfl) h2⟩
    · rename_i t hc
      split at h
      · rename_i i
        have hc' : fr.getD i .undef = .bool t := hc
        simp only [setK_eq] at h
        cases t with
        | true =>
          obtain ⟨e, F, S, h1, this⟩ := run_sound hD hC x hs _ s k h
          rw [dns_set_same (by rw [hc']; rfl)] at this
          exact ⟨e, F, S, h1, AW_cond (t := true) (by rw [← dn_tEval, hc]; rfl) this⟩
        | false =>
          obtain ⟨e, F, S, h1, this⟩ := run_sound hD hC y _ _ s k h
          rw [dns_set_same (by rw [hc']; rfl)] at this
          exact ⟨e, F, S, h1, AW_cond (t := false) (by rw [← dn_tEval, hc]; rfl) this⟩
      · cases h
    · cases h
  | .block id c, hs, fr, s, k, h => by
    simp only [run] at h
    obtain ⟨e, F, S, h1, h2⟩ := run_sound hD hC c hs fr s _ h
    cases e with
    | exit i =>
      dsimp only at h1
      split at h1
      · rename_i hi
        refine ⟨.normal, F, S, h1, AW_block (h2.mono ?_)⟩
        rintro e fr s ⟨rfl, rfl, rfl⟩
        simp only [aBlock]
        rw [if_pos hi]
        exact ⟨rfl, rfl, rfl⟩
      · rename_i hi
        refine ⟨.exit i, F, S, h1, AW_block (h2.mono ?_)⟩
        rintro e fr s ⟨rfl, rfl, rfl⟩
        simp only [aBlock]
        rw [if_neg hi]
        exact ⟨rfl, rfl, rfl⟩
    | _ =>
      refine ⟨_, F, S, h1, AW_block (h2.mono ?_)⟩
      rintro e fr s ⟨rfl, rfl, rfl⟩
      exact ⟨rfl, rfl, rfl⟩
  | .region id A dr, hs, fr, s, k, h => by
    simp only [run] at h
    obtain ⟨fr, s, h, hcv0⟩ := jnK_spec _ _ _ h
    unfold regK at h
    obtain ⟨fr, s, h, hcv⟩ := frzK_spec _ _ _ _ h
    suffices hh : ∃ e F S, k e F S = some b ∧ AW cf.n0 sc.P (.region id A dr) (dns fr) (dnS s) (Ex e F S) by
      obtain ⟨e, F, S, g1, g2⟩ := hh
      exact ⟨e, F, S, g1, AW_conv (fun M G0 w0 a w hn hr => hcv M G0 w0 a w (hcv0 M G0 w0 a w hn hr)) g2⟩
    cases dr with
    | false =>
      obtain ⟨F, S, h1, h2⟩ := runOps_sound (n0 := cf.n0) hC (A := A) A.toList fr s _ h
      refine ⟨.normal, F, S, h1, ?_⟩
      have h2 := AW_region (id := id) (l := A.toList) (by simpa using h2)
      simpa using h2
    | true =>
      obtain ⟨F, S, h1, h2⟩ := hD sc cf β id A fr s _ b hC h
      exact ⟨.normal, F, S, h1, h2⟩
  | .loop c, [], fr, s, k, h => by simp only [run] at h; cases h
  | .loop c, lh :: hs, fr, s, k, h => by
    simp only [run] at h
    obtain ⟨fr1, s1, h1, hcv⟩ := canon_spec h
    have key : ∀ (n : Nat) (tfr : List TV) (ts : List TOb), iterF (fun K fr s => run D sc cf c hs fr s fun e fr s => match e with
        | .normal => canon cf.n0 lh fr s fun fr s => K fr s
        | e => k e fr s) n tfr ts = some b → ∃ e F S, k e F S = some b ∧ AWL cf.n0 sc.P c (dns tfr) (dnS ts) (Ex e F S) := by
      intro n
      induction n with
      | zero => intro tfr ts hn; simp only [iterF] at hn; cases hn
      | succ n ih =>
        intro tfr ts hn
        simp only [iterF] at hn
        obtain ⟨e, F, S, h2, h3⟩ := run_sound hD hC c hs tfr ts _ hn
        cases e with
        | normal =>
          obtain ⟨fr2, s2, h4, hcv2⟩ := canon_spec h2
          obtain ⟨e2, F2, S2, h5, h6⟩ := ih fr2 s2 h4
          refine ⟨e2, F2, S2, h5, AWL_unroll (h3.mono ?_)⟩
          rintro e fr s ⟨rfl, rfl, rfl⟩
          exact ⟨dns fr2, dnS s2, hcv2, h6⟩
        | _ =>
          refine ⟨_, F, S, h2, AWL_unroll (h3.mono ?_)⟩
          rintro e fr s ⟨rfl, rfl, rfl⟩
          exact ⟨rfl, rfl, rfl⟩
    obtain ⟨e, F, S, h5, h6⟩ := key cf.N fr1 s1 h1
    exact ⟨e, F, S, h5, AW_conv hcv h6.loop⟩
  | .rangeFunc .., hs, fr, s, k, h => by simp only [run] at h; cases h
  | .scope _, hs, fr, s, k, h => by simp only [run] at h; cases h
  | .label _, hs, fr, s, k, h => by simp only [run] at h; cases h
  | .goto _, hs, fr, s, k, h => by simp only [run] at h; cases h
  | .refuse _, hs, fr, s, k, h => by simp only [run] at h; cases h

/-! functions -/
def tResult (P : Program) (fr : List TV) (s : List TOb) : ResultVar → Option TV
  | .tmp t => some (tplain (fr.getD t .undef))
  | .cell a t => match fr.getD a .undef with
    | .ref i o => match s[i]? with
      | some (.cells cs _ l) => if l = true then (tLoad P t cs o).map tplain else none
      | _ => none
    | _ => none
def tResults {β : Type} (P : Program) (fr : List TV) (s : List TOb) : List ResultVar → (List TV → Option β) → Option β
  | [], k => k []
  | r :: rs, k => match tResult P fr s r with
    | some v => forceV v fun v => tResults P fr s rs fun l => k (v :: l)
    | none => none
def softT : List TV → TV
  | [a] => a
  | l => .tup l
theorem tResult_spec {P : Program} {fr : List TV} {s : List TOb} {r : ResultVar} {v : TV} (h : tResult P fr s r = some v) : ∃ a, aResult (dns fr) (dnS s) P r = some a ∧ a.plain = dn v := by
  cases r with
  | tmp t =>
    simp only [tResult, Option.some.injEq] at h
    subst h
    exact ⟨_, rfl, by rw [dns_getD, dn_tplain]⟩
  | cell a t =>
    simp only [tResult] at h
    split at h
    · rename_i i o ha
      split at h
      · rename_i cs ot l hs
        split at h
        · rename_i hl
          obtain ⟨u, h1, rfl⟩ := map_some_eq h
          have ha' : (dns fr).getD a .undef = .ref i o := by rw [dns_getD, ha]; rfl
          refine ⟨dn u, ?_, by rw [dn_tplain]⟩
          simp only [aResult, ha', dnS_get, hs, Option.map_some, dnO]
          rw [if_pos hl]
          exact tLoad_spec h1
        · cases h
      · cases h
    · cases h
theorem tResults_spec {β : Type} {P : Program} {fr : List TV} {s : List TOb} {b : β} : ∀ (rs : List ResultVar) (k : List TV → Option β), tResults P fr s rs k = some b →
    ∃ l avs, k l = some b ∧ rs.mapM (aResult (dns fr) (dnS s) P) = some avs ∧ avs.map AV.plain = dns l
  | [], k, h => ⟨[], [], h, by simp, rfl⟩
  | r :: rs, k, h => by
    unfold tResults at h
    split at h
    · rename_i v hv
      rw [forceV_eq] at h
      obtain ⟨a, h1, h2⟩ := tResult_spec hv
      obtain ⟨l, avs, h3, h4, h5⟩ := tResults_spec rs _ h
      refine ⟨v :: l, a :: avs, h3, ?_, by simp only [List.map_cons, dns, h2, h5]⟩
      simp only [List.mapM_cons, h1, h4]
      rfl
    · cases h
/-- a function's end: what it tells, and the store without its own objects, if nothing tells of them -/
def fin {β : Type} (P : Program) (n0 : Nat) (rs : List ResultVar) (k : TV → List TOb → Option β) (e : Exit) (fr : List TV) (s : List TOb) : Option β :=
  match e with
  | .normal | .ret => if n0 ≤ s.length then tResults P fr s rs fun l => match tbelow n0 (softT l) && sbelow n0 (s.take n0) with
      | true => k (softT l) (s.take n0)
      | false => k (softT l) s
    else none
  | _ => none
structure FH where
  loops : List LH
  arrs : List Nat
  heads : List (Nat × HDat)
  frz : List (Nat × Nat)
  wrap : Bool := false
  rd : List Nat := []
  joins : List (Nat × LH) := []
/-- a function, by its body -/
def callBody (D : DrawT) (P : Program) (N : Nat) (C : CallT) (fh : FH) (fn : Func) (c : Code) (β : Type) (args : List TV) (s : List TOb) (k : TV → List TOb → Option β) : Option β :=
  forceL (args ++ List.replicate (fn.ntmps - args.length) (.tup [])) fun fr =>
    run D ⟨P, fh.arrs, fh.heads, fh.frz, fh.wrap, fh.rd, fh.joins⟩ ⟨N, C, s.length⟩ c fh.loops fr s (fin P s.length fn.results.toList k)
theorem dns_append_rep (args : List TV) (n : Nat) : dns (args ++ List.replicate n (.tup [])) = dns args ++ List.replicate n (.tuple []) := by
  rw [dns_app, dns_map (List.replicate n (.tup []))]
  simp [dn, dns]
def retE : Exit → Prop
  | .normal | .ret => True
  | _ => False
def resT : List AV → AV
  | [a] => a.plain
  | l => .tuple (l.map AV.plain)
theorem plains_dns {avs : List AV} {l : List TV} (h : avs.map AV.plain = dns l) : resT avs = dn (softT l) := by
  match avs, l, h with
  | [], [], _ => rfl
  | [a], [v], h => simp only [List.map_cons, List.map_nil, dns, List.cons.injEq, and_true] at h; exact h
  | a :: a2 :: avs, v :: v2 :: l, h => show AV.tuple _ = .tuple _; rw [h]
  | [], _ :: _, h => simp [dns] at h
  | _ :: _, [], h => simp [dns] at h
  | [_], _ :: _ :: _, h => simp [dns] at h
  | _ :: _ :: _, [_], h => simp [dns] at h
theorem fin_spec {β : Type} {P : Program} {n0 : Nat} {rs : List ResultVar} {k : TV → List TOb → Option β} {e : Exit} {fr : List TV} {s : List TOb} {b : β} (h : fin P n0 rs k e fr s = some b) :
    retE e ∧ ∃ r s' m avs, k r s' = some b ∧ rs.mapM (aResult (dns fr) (dnS s) P) = some avs ∧ resT avs = dn r ∧
      n0 ≤ m ∧ m ≤ s.length ∧ ((dn r).refs m = true ∧ cutStore m (dnS s) = some (dnS s') ∨ m = s.length ∧ s' = s) := by
  have main : ∀ {k'}, n0 ≤ s.length → (tResults P fr s rs k' = some b) → (k' = fun l => match tbelow n0 (softT l) && sbelow n0 (s.take n0) with
    | true => k (softT l) (s.take n0)
    | false => k (softT l) s) → ∃ r s' m avs, k r s' = some b ∧ rs.mapM (aResult (dns fr) (dnS s) P) = some avs ∧ resT avs = dn r ∧
      n0 ≤ m ∧ m ≤ s.length ∧ ((dn r).refs m = true ∧ cutStore m (dnS s) = some (dnS s') ∨ m = s.length ∧ s' = s) := by
    intro k' hn h hk
    obtain ⟨l, avs, h1, h2, h3⟩ := tResults_spec rs _ h
    subst hk
    dsimp only at h1
    split at h1
    · rename_i hb
      rw [Bool.and_eq_true] at hb
      refine ⟨softT l, s.take n0, n0, avs, h1, h2, plains_dns h3, Nat.le_refl _, hn, .inl ⟨tbelow_spec _ hb.1, ?_⟩⟩
      unfold cutStore
      have e2 : (dnS s).take n0 = dnS (s.take n0) := by simp [dnS, List.map_take]
      rw [e2, if_pos (sbelow_spec _ hb.2)]
    · exact ⟨softT l, s, s.length, avs, h1, h2, plains_dns h3, hn, Nat.le_refl _, .inr ⟨rfl, rfl⟩⟩
  cases e <;> simp only [fin] at h <;> first
    | (split at h
       · rename_i hn; exact ⟨trivial, main hn h rfl⟩
       · cases h)
    | cases h
theorem callBody_sound {D : DrawT} (hD : DrawSound D) {P : Program} {N : Nat} {C : CallT} (hC : CallSound P C) {fh : FH} {f : FuncId} {fn : Func} {c : Code} (hf : P.funcs[f]? = some fn) (hb : fn.body = some c)
    {β : Type} {args : List TV} {s : List TOb} {k : TV → List TOb → Option β} {b : β} (hm : ∀ a ∈ args, tmark a = none) (h : callBody D P N C fh fn c β args s k = some b) :
    ∃ r s', Ok P f (dns args) (dnS s) (dn r) (dnS s') ∧ k r s' = some b := by
  unfold callBody at h
  rw [forceL_eq] at h
  obtain ⟨e1, F, S, hfin, hw⟩ := run_sound hD (sc := ⟨P, fh.arrs, fh.heads, fh.frz, fh.wrap, fh.rd, fh.joins⟩) (cf := ⟨N, C, s.length⟩) hC c fh.loops _ s _ h
  dsimp only at hw hfin
  obtain ⟨he, r, s', m, avs, hk, hmm, hr, hm1, hm2, hcut⟩ := fin_spec hfin
  refine ⟨r, s', ?_, hk⟩
  intro M G w cargs hS hargs
  have hlen2 := hargs.length
  have hget : ∀ (k : Nat) (x : AV) (v : Value), (dns args)[k]? = some x → cargs[k]? = some v → VR0 G w x v := by
    intro k x v hx hv
    obtain ⟨u, h1, h2⟩ := hargs.get k x hx
    rw [hv] at h1
    cases h1
    exact h2
  have hla : (dns args).length = args.length := dns_length args
  have hfr : FR (MofS M G (dnS s) w) G w (dns (args ++ List.replicate (fn.ntmps - args.length) (.tup []))) { tmps := cargs.toArray ++ Array.replicate (fn.ntmps - cargs.toArray.size) undef, defers := [] } := by
    rw [dns_append_rep]
    refine ⟨rfl, by simp [hlen2, hla], fun t => ?_⟩
    rw [List.getD_eq_getElem?_getD, Array.getD_eq_getD_getElem?]
    rcases Nat.lt_or_ge t (dns args).length with h1 | h1
    · rw [List.getElem?_append_left h1, Array.getElem?_append_left (by simp; omega)]
      rw [List.getElem?_eq_getElem h1]
      have h2 : t < cargs.length := by omega
      rw [List.getElem?_toArray, List.getElem?_eq_getElem h2]
      refine ⟨hget t _ _ (List.getElem?_eq_getElem h1) (List.getElem?_eq_getElem h2), OwnC.of_plain ?_⟩
      simp only [Option.getD_some]
      have hx : (dns args)[t]? = some ((dns args)[t]) := List.getElem?_eq_getElem h1
      rw [dns_get] at hx
      obtain ⟨v, h3, h4⟩ := map_some_eq hx
      rw [← h4, dn_mark]
      exact hm v (List.mem_of_getElem? h3)
    · rw [List.getElem?_append_right h1, Array.getElem?_append_right (by simp; omega)]
      rw [List.getElem?_replicate, Array.getElem?_replicate]
      simp only [List.size_toArray, hlen2, hla]
      split
      · exact ⟨by simp only [Option.getD_some, VR0]; exact ⟨[], rfl, by simp only [VRs0]⟩, OwnC.of_plain rfl⟩
      · exact ⟨by simp only [Option.getD_none, VR0], OwnC.of_plain rfl⟩
  refine calls_of_wp hf hb (wp_mono (hw (MofS M G (dnS s) w) G w ⟨fun b hb => .inl hb, by rw [hS.n, dnS_length]; exact Nat.le_refl _⟩ _ w ⟨G, Ext.refl _ _ _, hS.toS, hfr⟩) ?_)
  rintro e a w' ⟨_, fr, s1, ⟨rfl, rfl, rfl⟩, G', hE, hS', hf'⟩
  have hres : ∃ v, (results fn a.tmps).run P w' = .ok v w' ∧ VR0 G' w' (dn r) v := by
    obtain ⟨vs, k1, k2⟩ := mapM_results hS' hf' fn.results.toList avs hmm
    have hrun : (results fn a.tmps).run P w' = .ok (if h : vs.toArray.size = 1 then vs.toArray[0] else .tuple vs.toArray) w' := by
      have e0 : results fn a.tmps = (do
        let vs ← fn.results.mapM (cResult a.tmps)
        pure (if h : vs.size = 1 then vs[0] else .tuple vs)) := rfl
      rw [e0, Sem.run_bind]
      have e1 : (fn.results.mapM (cResult a.tmps)).run P w' = .ok vs.toArray w' := by
        rw [show fn.results = fn.results.toList.toArray by simp, List.mapM_toArray]
        simp only [Sem.run_map, k1, Result.andThen_ok]
      rw [e1]
      rfl
    rw [hrun, ← hr]
    match avs, vs, k2 with
    | [x], vs, k2 =>
      simp only [VRs0] at k2
      obtain ⟨v, vs', rfl, k3, rfl⟩ := k2
      exact ⟨v, rfl, k3.plain⟩
    | [], vs, k2 =>
      simp only [VRs0] at k2
      subst k2
      exact ⟨_, rfl, by simp only [resT, VR0]; exact ⟨[], rfl, by simp only [List.map_nil, VRs0]⟩⟩
    | x :: y :: l, vs, k2 =>
      have hl := k2.length
      rw [dif_neg (by simp [hl])]
      exact ⟨_, rfl, by simp only [resT, VR0]; exact ⟨vs, rfl, k2.plain⟩⟩
  obtain ⟨v, k1, k2⟩ := hres
  have hGn : G.n = s.length := by rw [hS.n, dnS_length]
  have hGn' : G'.n = S.length := by rw [hS'.n, dnS_length]
  have hfin2 : ∃ v' G'', Ending.returned v = .returned v' ∧ VR0 G'' w' (dn r) v' ∧ Sim (MofS M G (dnS s) w) G'' (dnS s') w' ∧ Ext (MofS M G (dnS s) w) G w G'' w' := by
    rcases hcut with ⟨c1, c2⟩ | ⟨c1, rfl⟩
    · refine ⟨v, G'.cut m, rfl, k2.cut (by omega) _ v c1, hS'.cut (by omega) c2, ?_⟩
      exact { hE with n := by simp only [Gh.cut]; omega, newobj := fun i k1 k2 => hE.newobj i k1 (by simp only [Gh.cut] at k2; omega), mu := hE.mu, live := hE.live, own := hE.own, phi := hE.phi, keep := hE.keep, cell := hE.cell, row := hE.row }
    · exact ⟨v, G', rfl, k2, hS', hE⟩
  cases e
  case normal => exact ⟨hf'.defers, v, k1, hfin2⟩
  case ret => exact ⟨hf'.defers, v, k1, hfin2⟩
  all_goals exact False.elim he
end Go.Proofs.Ytgicljncknbgcaa.Abs
