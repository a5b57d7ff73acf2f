/- Judgements on code over abstract frames and stores, and the rules that need no operation. -/
import Derived.Test.YtgicljncknbgcaaAS
namespace Go.Proofs.Ytgicljncknbgcaa.Abs
open Go Go.ChangeShapes Go.WideShapes Go.ChangeAt Go.RowKit
set_option linter.unusedVariables false
set_option linter.unusedSimpArgs false

abbrev AQ := Exit → List AV → List Ob → Prop
def Rel (M : Nat → Prop) (G0 : Gh) (w0 : World) (fr : List AV) (s : List Ob) (a : Act) (w : World) : Prop := ∃ G, Ext M G0 w0 G w ∧ Sim M G s w ∧ FR M G w fr a
def QC (M : Nat → Prop) (G0 : Gh) (w0 : World) (Q : AQ) (e : Exit) (a : Act) (w : World) : Prop :=
  (match e with | .panic _ | .outgrown => False | _ => True) ∧ ∃ fr s, Q e fr s ∧ Rel M G0 w0 fr s a w
def Fresh (M : Nat → Prop) (w : World) : Prop := ∀ b, w.heap.size ≤ b → M b
def Pre (n0 : Nat) (M : Nat → Prop) (G0 : Gh) (w0 : World) : Prop := Fresh M w0 ∧ G0.n ≤ n0
def AW (n0 : Nat) (P : Program) (c : Code) (fr : List AV) (s : List Ob) (Q : AQ) : Prop :=
  ∀ M G0 w0, Pre n0 M G0 w0 → ∀ a w, Rel M G0 w0 fr s a w → c.wp P (QC M G0 w0 Q) a w
def AL (n0 : Nat) (P : Program) (ops : Array Oper) (rest : List Oper) (fr : List AV) (s : List Ob) (Q : AQ) : Prop :=
  ∀ M G0 w0, Pre n0 M G0 w0 → ∀ a w, Rel M G0 w0 fr s a w → wpList P ops (QC M G0 w0 Q) rest a w

section
variable {n0 : Nat} {P : Program} {fr : List AV} {s : List Ob} {Q : AQ}
theorem QC.ok {M : Nat → Prop} {G0 : Gh} {w0 : World} {e : Exit} {a : Act} {w : World} (he : match e with | .panic _ | .outgrown => False | _ => True) (h : Q e fr s) (hr : Rel M G0 w0 fr s a w) : QC M G0 w0 Q e a w := ⟨he, fr, s, h, hr⟩
theorem AW.mono {c : Code} {Q' : AQ} (h : AW n0 P c fr s Q) (hq : ∀ e fr s, Q e fr s → Q' e fr s) : AW n0 P c fr s Q' :=
  fun M G0 w0 hM a w hr => wp_mono (h M G0 w0 hM a w hr) fun e a w ⟨he, fr, s, hQ, hr⟩ => ⟨he, fr, s, hq _ _ _ hQ, hr⟩
theorem AW_skip (h : Q .normal fr s) : AW n0 P .skip fr s Q := fun _ _ _ _ _ _ hr => wp_skip ⟨trivial, fr, s, h, hr⟩
theorem AW_exit {id : Nat} (h : Q (.exit id) fr s) : AW n0 P (.exit id) fr s Q := fun _ _ _ _ _ _ hr => wp_exit ⟨trivial, fr, s, h, hr⟩
theorem AW_ret (h : Q .ret fr s) : AW n0 P .ret fr s Q := fun _ _ _ _ _ _ hr => wp_ret ⟨trivial, fr, s, h, hr⟩
def aThen (next : List AV → List Ob → Prop) (Q : AQ) : AQ := fun e fr s => match e with | .normal => next fr s | e => Q e fr s
theorem AW_seq {x y : Code} (h : AW n0 P x fr s (aThen (fun fr s => AW n0 P y fr s Q) Q)) : AW n0 P (.seq x y) fr s Q := by
  intro M G0 w0 hM a w hr
  refine wp_seq (wp_mono (h M G0 w0 hM a w hr) ?_)
  rintro e a w ⟨he, fr, s, hQ, hr⟩
  cases e <;> first
    | exact hQ M G0 w0 hM a w hr
    | exact ⟨he, fr, s, hQ, hr⟩
theorem AW_cond {c : Operand} {x y : Code} {t : Bool} (hc : aEval fr c = .bool t) (h : AW n0 P (if t then x else y) fr s Q) : AW n0 P (.cond c x y) fr s Q := by
  intro M G0 w0 hM a w hr
  obtain ⟨G, h1, h2, h3⟩ := hr
  have hv := (h3.eval c).1
  rw [hc] at hv
  simp only [VR0] at hv
  exact wp_cond hv (h M G0 w0 hM a w ⟨G, h1, h2, h3⟩)
def aBlock (id : Nat) (Q : AQ) : AQ := fun e fr s => match e with | .exit id' => if id' = id then Q .normal fr s else Q (.exit id') fr s | e => Q e fr s
theorem AW_block {id : Nat} {c : Code} (h : AW n0 P c fr s (aBlock id Q)) : AW n0 P (.block id c) fr s Q := by
  intro M G0 w0 hM a w hr
  refine wp_block (wp_mono (h M G0 w0 hM a w hr) ?_)
  rintro e a w ⟨he, fr, s, hQ, hr⟩
  cases e with
  | exit id' =>
    simp only [Exit.inBlock]
    simp only [aBlock] at hQ
    split
    · rename_i h1; rw [if_pos h1] at hQ; exact ⟨trivial, fr, s, hQ, hr⟩
    · rename_i h1; rw [if_neg h1] at hQ; exact ⟨trivial, fr, s, hQ, hr⟩
  | _ => exact ⟨he, fr, s, hQ, hr⟩
theorem AW_loop {c : Code} (I : List AV → List Ob → Prop) (μ : List AV → List Ob → Nat) (h0 : I fr s)
    (round : ∀ fr s, I fr s → AW n0 P c fr s (aThen (fun fr' s' => I fr' s' ∧ μ fr' s' < μ fr s) Q)) : AW n0 P (.loop c) fr s Q := by
  intro M G0 w0 hM a w hr b k cs
  have key : ∀ n fr s a w, μ fr s = n → I fr s → Rel M G0 w0 fr s a w →
      ∃ e a' w', QC M G0 w0 Q e a' w' ∧ Arrives P (lone (b.at a (.code c :: .inLoop c :: k)) cs w) b k cs e a' w' := by
    intro n
    induction n using Nat.strongRecOn with
    | _ n ih =>
      intro fr s a w hn hI hr
      obtain ⟨e, a₁, w₁, ⟨he, fr1, s1, hq, hr1⟩, harr⟩ := round fr s hI M G0 w0 hM a w hr b (.inLoop c :: k) cs
      cases e with
      | normal =>
        obtain ⟨hI₁, hlt⟩ := hq
        obtain ⟨e₂, a₂, w₂, hq₂, harr₂⟩ := ih (μ fr1 s1) (hn ▸ hlt) fr1 s1 a₁ w₁ rfl hI₁ hr1
        exact ⟨e₂, a₂, w₂, hq₂, .of_steps (Steps.trans harr (.one step_inLoop)) harr₂⟩
      | exit id => exact ⟨_, a₁, w₁, ⟨he, fr1, s1, hq, hr1⟩, .pass (x := .inLoop c) rfl (fun _ _ => .inl (by simp)) harr⟩
      | goto l => exact ⟨_, a₁, w₁, ⟨he, fr1, s1, hq, hr1⟩, .pass (x := .inLoop c) rfl (fun _ _ => .inl (by simp)) harr⟩
      | ret => exact ⟨_, a₁, w₁, ⟨he, fr1, s1, hq, hr1⟩, .pass (x := .inLoop c) rfl (fun _ _ => .inl (by simp)) harr⟩
      | panic ch => exact he.elim
      | outgrown => exact he.elim
  obtain ⟨e, a', w', hq, harr⟩ := key _ fr s a w rfl h0 hr
  exact ⟨e, a', w', hq, .of_steps (.one step_loop) harr⟩
/-- some slots forgotten -/
def aForget (keep : List Nat) (fr : List AV) : List AV := (List.range fr.length).map fun i => if keep.contains i then fr.getD i .undef else .undef
theorem FR.forget {M : Nat → Prop} {G : Gh} {w : World} {a : Act} (keep : List Nat) (h : FR M G w fr a) : FR M G w (aForget keep fr) a := by
  refine ⟨h.defers, by simp [aForget, h.size], fun t => ?_⟩
  unfold aForget
  simp only [List.getD_eq_getElem?_getD, List.getElem?_map, List.getElem?_range]
  by_cases ht : t < fr.length
  · rw [List.getElem?_range ht]
    simp only [Option.map_some, Option.getD_some]
    split
    · have := h.at_ t
      rwa [List.getD_eq_getElem?_getD] at this
    · exact ⟨by simp only [VR0], OwnC.of_plain rfl⟩
  · rw [List.getElem?_eq_none (by simpa using ht)]
    exact ⟨by simp only [Option.map_none, Option.getD_none, VR0], OwnC.of_plain rfl⟩
theorem AW_forget {c : Code} (keep : List Nat) (h : AW n0 P c (aForget keep fr) s Q) : AW n0 P c fr s Q :=
  fun M G0 w0 hM a w ⟨G, h1, h2, h3⟩ => h M G0 w0 hM a w ⟨G, h1, h2, h3.forget keep⟩
theorem AW_region {id : Nat} {l : List Oper} (h : AL n0 P l.toArray l fr s Q) : AW n0 P (.region id l.toArray false) fr s Q :=
  fun M G0 w0 hM a w hr => wp_region_lit (h M G0 w0 hM a w hr)
theorem AL_nil {ops : Array Oper} (h : Q .normal fr s) : AL n0 P ops [] fr s Q := fun _ _ _ _ _ _ hr => ⟨trivial, fr, s, h, hr⟩

/-- an operation does this: the frame and the store behind it, and what it tells -/
def Step (P : Program) (o : Oper) (fr : List AV) (s : List Ob) (fr' : List AV) (v : AV) (s' : List Ob) : Prop :=
  ∀ M G w a, Fresh M w → Sim M G s w → FR M G w fr a → ∀ (K : Act → World → Prop) (Q : Exit → Act → World → Prop),
    (∀ cv G' w', Ext M G w G' w' → Sim M G' s' w' → FR M G' w' fr' a → VR M G' w' v cv → K (a.put o.dst cv) w') → o.wp P a w K Q
/-- is it asked for? -/
def aWanted (ops : Array Oper) (fr : List AV) (o : Oper) : Option Bool :=
  match o.guard with
  | none => some true
  | some (g, want) =>
    match (ops[g]?).bind (·.dst) with
    | none => none
    | some d => match fr.getD d .undef with
      | .bool b => some (b == want)
      | .tuple [] => some false
      | _ => none
theorem aWanted_spec {ops : Array Oper} {o : Oper} {b : Bool} (h : aWanted ops fr o = some b) {M : Nat → Prop} {G : Gh} {w : World} {a : Act} (hf : FR M G w fr a) : Region.wanted o (yielded ops a.tmps) = b := by
  unfold aWanted at h
  unfold Region.wanted
  split at h
  · rename_i hg; rw [hg]; simpa using h
  · rename_i g want hg
    rw [hg]
    unfold yielded
    split at h
    · cases h
    · rename_i d hd
      dsimp only
      rw [hd]
      have hv := (hf.at_ d).1
      have hs := hf.size
      have hin : ∀ v, a.tmps.getD d undef = v → d < a.tmps.size → a.tmps[d]? = some v := by
        intro v hv hlt
        rw [Array.getElem?_eq_getElem hlt]
        rw [Array.getD_eq_getD_getElem?, Array.getElem?_eq_getElem hlt] at hv
        simpa using hv
      have hout : ∀ x, fr.getD d .undef = x → x ≠ .undef → d < a.tmps.size := by
        intro x hx hne
        rcases Nat.lt_or_ge d fr.length with h1 | h1
        · rw [hs]; exact h1
        · rw [List.getD_eq_getElem?_getD, List.getElem?_eq_none h1] at hx
          exact absurd hx.symm hne
      split at h
      · rename_i t ht
        rw [ht] at hv
        simp only [VR0] at hv
        simp only [Option.bind_some]
        rw [hin _ hv (hout _ ht (by simp))]
        simp at h ⊢
        subst h
        cases t <;> cases want <;> rfl
      · rename_i ht
        rw [ht] at hv
        simp only [VR0, VRs0] at hv
        obtain ⟨vs, hv, rfl⟩ := hv
        simp only [Option.bind_some]
        rw [hin _ hv (hout _ ht (by simp))]
        simp at h ⊢
        exact h
      · cases h
theorem AL_step {ops : Array Oper} {o : Oper} {rest : List Oper} {fr' : List AV} {v : AV} {s' : List Ob} (hw : aWanted ops fr o = some true) (hs : Step P o fr s fr' v s') (h : AL n0 P ops rest (aPut fr' o.dst v) s' Q) : AL n0 P ops (o :: rest) fr s Q := by
  intro M G0 w0 hM a w ⟨G, h1, h2, h3⟩
  refine wpList_step fun K hK => ?_
  rw [if_pos (aWanted_spec hw h3)]
  exact hs M G w a (fun b hb => hM.1 b (Nat.le_trans h1.size hb)) h2 h3 K _ fun cv G' w' k1 k2 k3 k4 => hK _ _ (h M G0 w0 hM _ _ ⟨G', h1.trans k1 (fun _ _ h => h), k2, k3.put _ k4⟩)
theorem AL_skip {ops : Array Oper} {o : Oper} {rest : List Oper} (hw : aWanted ops fr o = some false) (h : AL n0 P ops rest (aPut fr o.dst (.tuple [])) s Q) : AL n0 P ops (o :: rest) fr s Q := by
  intro M G0 w0 hM a w ⟨G, h1, h2, h3⟩
  refine wpList_step fun K hK => ?_
  rw [if_neg (by rw [aWanted_spec hw h3]; simp)]
  exact hK _ _ (h M G0 w0 hM _ _ ⟨G, h1, h2, h3.put _ ⟨by simp only [VR0]; exact ⟨[], rfl, by simp only [VRs0]⟩, OwnC.of_plain rfl⟩⟩)
end
end Go.Proofs.Ytgicljncknbgcaa.Abs
