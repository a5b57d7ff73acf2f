/- Regions whose order is open: every order, state by state. -/
import Derived.Test.YtmacghaihlfcpaaGreatSV
namespace Go.Proofs.YtmacghaihlfcpaaGreat.Abs
noncomputable section
open Go Go.ChangeShapes Go.WideShapes Go.ChangeAt Go.RowKit
set_option linter.unusedVariables false
set_option linter.unusedSimpArgs false

/-- what is listed, the frame, the store -/
structure Nd where
  m : List Bool
  fr : List TV
  s : List TOb
abbrev ExT := Nat → Oper → List Bool → List TV → List TOb → (β : Type) → (List TV → List TOb → Option β) → Option β
def setM : List Bool → Nat → (β : Type) → (List Bool → β) → β
  | [], _, β, k => k []
  | _ :: l, 0, β, k => k (true :: l)
  | b :: l, i + 1, β, k => setM l i β fun l => k (b :: l)
theorem setM_eq : ∀ (l : List Bool) (i : Nat) (β : Type) (k : List Bool → β), setM l i β k = k (l.set i true)
  | [], _, _, _ => rfl
  | _ :: _, 0, _, _ => rfl
  | b :: l, i + 1, β, k => by simp only [setM, setM_eq l i, List.set_cons_succ]
def findM (m : List Bool) : List Nd → Option Nd
  | [] => none
  | x :: l => match eqM m x.m with
    | true => some x
    | false => findM m l
theorem findM_some {m : List Bool} : ∀ {l : List Nd} {x : Nd}, findM m l = some x → x ∈ l ∧ m = x.m
  | y :: l, x, h => by
    unfold findM at h
    split at h
    · rename_i he
      cases h
      exact ⟨List.mem_cons_self, eqM_eq _ _ he⟩
    · obtain ⟨h1, h2⟩ := findM_some h
      exact ⟨List.mem_cons_of_mem _ h1, h2⟩
def ins (m : List Bool) (fr : List TV) (s : List TOb) (acc : List Nd) (β : Type) (k : List Nd → Option β) : Option β := match findM m acc with
  | some x => cond (eqVs fr x.fr && eqOs s x.s) (k acc) none
  | none => k (⟨m, fr, s⟩ :: acc)
theorem ins_some {m : List Bool} {fr : List TV} {s : List TOb} {acc : List Nd} {β : Type} {k : List Nd → Option β} {b : β} (h : ins m fr s acc β k = some b) : ∃ acc', k acc' = some b ∧ (∀ x ∈ acc, x ∈ acc') ∧ ⟨m, fr, s⟩ ∈ acc' ∧ ∀ x ∈ acc', x ∈ acc ∨ x.m = m := by
  unfold ins at h
  split at h
  · rename_i x hx
    obtain ⟨h1, h2⟩ := cond_some h
    rw [Bool.and_eq_true] at h1
    obtain ⟨h3, h4⟩ := findM_some hx
    refine ⟨acc, h2, fun _ h => h, ?_, fun _ h => .inl h⟩
    have e1 := eqVs_eq _ _ h1.1
    have e2 := eqOs_eq _ _ h1.2
    subst h4 e1 e2
    exact h3
  · refine ⟨_, h, fun x hx => List.mem_cons_of_mem _ hx, List.mem_cons_self, fun x hx => ?_⟩
    rcases List.mem_cons.1 hx with e | e
    · subst e; exact .inr rfl
    · exact .inl e
def nthO : List Oper → Nat → Option Oper
  | [], _ => none
  | o :: _, 0 => some o
  | _ :: l, i + 1 => nthO l i
theorem nthO_eq : ∀ (l : List Oper) (i : Nat), nthO l i = l[i]?
  | [], _ => rfl
  | _ :: _, 0 => rfl
  | _ :: l, i + 1 => by simp [nthO, nthO_eq l i]
def stepL (X : ExT) (ops : List Oper) (nd : Nd) (β : Type) : List Nat → List Nd → (List Nd → Option β) → Option β
  | [], acc, k => k acc
  | i :: l, acc, k => match nthO ops i with
    | some o => X i o nd.m nd.fr nd.s β fun fr s => setM nd.m i (Option β) fun m => ins m fr s acc β fun acc => stepL X ops nd β l acc k
    | none => none
def lvl (X : ExT) (ops : List Oper) (rs : List (List Nat)) (β : Type) : List Nd → List Nd → (List Nd → Option β) → Option β
  | [], acc, k => k acc
  | nd :: l, acc, k => match rdy nd.m nd.m rs 0 with
    | [] => none
    | i :: is => stepL X ops nd β (i :: is) acc fun acc => lvl X ops rs β l acc k
def drawD (X : ExT) (ops : List Oper) (rs : List (List Nat)) (β : Type) : Nat → List Nd → (List TV → List TOb → Option β) → Option β
  | 0, [nd], k => cond (nd.m.all id) (k nd.fr nd.s) none
  | 0, _, _ => none
  | n + 1, L, k => lvl X ops rs β L [] fun L => drawD X ops rs β n L k
/-- the operation i brings about this -/
def OpW (n0 : Nat) (P : Program) (A : Array Oper) (i : Nat) (fr : List AV) (s : List Ob) (fr' : List AV) (s' : List Ob) : Prop :=
  ∀ M G0 w0, Pre P n0 M G0 w0 → ∀ a w, Rel M G0 w0 fr s a w → ∀ (Q : AQ) (K : Act → World → Prop), (∀ a w, Rel M G0 w0 fr' s' a w → K a w) → wpOp P A (QC M G0 w0 Q) i K a w
def ExOk (n0 : Nat) (P : Program) (A : Array Oper) (X : ExT) : Prop := ∀ i o m fr s (β : Type) (k : List TV → List TOb → Option β) (b : β), A[i]? = some o → X i o m fr s β k = some b → ∃ fr' s', k fr' s' = some b ∧ OpW n0 P A i (dns fr) (dnS s) (dns fr') (dnS s')
section
variable {n0 : Nat} {P : Program} {A : Array Oper} {X : ExT} (hX : ExOk n0 P A X)
include hX
theorem stepL_some {nd : Nd} {β : Type} {b : β} : ∀ (is : List Nat) (acc : List Nd) (k : List Nd → Option β), stepL X A.toList nd β is acc k = some b →
    ∃ acc', k acc' = some b ∧ (∀ x ∈ acc, x ∈ acc') ∧ (∀ x ∈ acc', x ∈ acc ∨ x.m.length = nd.m.length) ∧ ∀ i ∈ is, ∃ fr' s', ⟨nd.m.set i true, fr', s'⟩ ∈ acc' ∧ OpW n0 P A i (dns nd.fr) (dnS nd.s) (dns fr') (dnS s')
  | [], acc, k, h => ⟨acc, h, fun _ h => h, fun _ h => .inl h, fun i h => by simp at h⟩
  | i :: l, acc, k, h => by
    unfold stepL at h
    split at h
    · rename_i o ho
      rw [nthO_eq, Array.getElem?_toList] at ho
      obtain ⟨fr', s', h1, h2⟩ := hX _ _ _ _ _ _ _ _ ho h
      rw [setM_eq] at h1
      obtain ⟨acc1, h3, h4, h5, h5'⟩ := ins_some h1
      obtain ⟨acc2, h6, h7, h7', h8⟩ := stepL_some l acc1 k h3
      refine ⟨acc2, h6, fun x hx => h7 x (h4 x hx), fun x hx => ?_, fun j hj => ?_⟩
      · rcases h7' x hx with e | e
        · rcases h5' x e with e | e
          · exact .inl e
          · exact .inr (by rw [e, List.length_set])
        · exact .inr e
      · rcases List.mem_cons.1 hj with e | e
        · subst e; exact ⟨fr', s', h7 _ h5, h2⟩
        · exact h8 j e
    · cases h
theorem lvl_some {β : Type} {b : β} : ∀ (L acc : List Nd) (k : List Nd → Option β), lvl X A.toList (reqs A) β L acc k = some b →
    ∃ acc', k acc' = some b ∧ (∀ x ∈ acc, x ∈ acc') ∧ (∀ x ∈ acc', x ∈ acc ∨ ∃ nd ∈ L, x.m.length = nd.m.length) ∧ ∀ nd ∈ L, rdy nd.m nd.m (reqs A) 0 ≠ [] ∧ ∀ i ∈ rdy nd.m nd.m (reqs A) 0, ∃ fr' s', ⟨nd.m.set i true, fr', s'⟩ ∈ acc' ∧ OpW n0 P A i (dns nd.fr) (dnS nd.s) (dns fr') (dnS s')
  | [], acc, k, h => ⟨acc, h, fun _ h => h, fun _ h => .inl h, fun nd h => by simp at h⟩
  | nd :: l, acc, k, h => by
    unfold lvl at h
    split at h
    · cases h
    · rename_i i is hr
      obtain ⟨acc1, h1, h2, h2', h3⟩ := stepL_some hX _ _ _ h
      obtain ⟨acc2, h4, h5, h5', h6⟩ := lvl_some l acc1 k h1
      refine ⟨acc2, h4, fun x hx => h5 x (h2 x hx), fun x hx => ?_, fun nd' hn => ?_⟩
      · rcases h5' x hx with e | ⟨q, hq, e⟩
        · rcases h2' x e with e | e
          · exact .inl e
          · exact .inr ⟨nd, List.mem_cons_self, e⟩
        · exact .inr ⟨q, List.mem_cons_of_mem _ hq, e⟩
      · rcases List.mem_cons.1 hn with e | e
        · subst e
          rw [hr]
          refine ⟨by simp, fun j hj => ?_⟩
          obtain ⟨fr', s', g1, g2⟩ := h3 j hj
          exact ⟨fr', s', h5 _ g1, g2⟩
        · exact h6 nd' e
theorem drawD_some {β : Type} {b : β} : ∀ (n : Nat) (L : List Nd) (k : List TV → List TOb → Option β), (∀ nd ∈ L, nd.m.length = A.size) → drawD X A.toList (reqs A) β n L k = some b →
    ∃ F S, k F S = some b ∧ ∀ nd ∈ L, ∀ M G0 w0, Pre P n0 M G0 w0 → ∀ a w, Rel M G0 w0 (dns nd.fr) (dnS nd.s) a w → wpAny P .any A (QC M G0 w0 (Ex .normal F S)) n nd.m.toArray a w
  | 0, L, k, hL, h => by
    match L, h with
    | [nd], h =>
      obtain ⟨h1, h2⟩ := cond_some h
      refine ⟨nd.fr, nd.s, h2, fun x hx M G0 w0 hM a w hr => ?_⟩
      simp only [List.mem_singleton] at hx
      subst hx
      refine ⟨?_, trivial, _, _, ⟨rfl, rfl, rfl⟩, hr⟩
      cases hq : Region.ready .any A x.m.toArray with
      | nil => rfl
      | cons j js =>
        exfalso
        have hj : j ∈ rdy x.m x.m (reqs A) 0 := (rdy_ready (hL x (by simp)) j).2 (by rw [hq]; simp)
        obtain ⟨q, _, hf, _⟩ := (rdy_mem _ _ _ _).1 hj
        have := List.all_eq_true.1 h1 false (List.mem_of_getElem? hf)
        cases this
    | [], h => cases h
    | _ :: _ :: _, h => cases h
  | n + 1, L, k, hL, h => by
    obtain ⟨acc, h1, _, h2, h3⟩ := lvl_some hX L [] _ h
    have hlen : ∀ nd ∈ acc, nd.m.length = A.size := fun nd hn => by
      rcases h2 nd hn with e | ⟨q, hq, e⟩
      · simp at e
      · rw [e]; exact hL q hq
    obtain ⟨F, S, h4, h5⟩ := drawD_some n acc k hlen h1
    refine ⟨F, S, h4, fun nd hn M G0 w0 hM a w hr => ?_⟩
    obtain ⟨g1, g2⟩ := h3 nd hn
    have hl := hL nd hn
    refine ⟨fun he => ?_, fun i hi => ?_⟩
    · exfalso
      cases hq : rdy nd.m nd.m (reqs A) 0 with
      | nil => exact g1 hq
      | cons j js =>
        have : j ∈ Region.ready .any A nd.m.toArray := (rdy_ready hl j).1 (by rw [hq]; simp)
        rw [he] at this
        simp at this
    · obtain ⟨fr', s', q1, q2⟩ := g2 i ((rdy_ready hl i).2 hi)
      refine q2 M G0 w0 hM a w hr _ _ fun a' w' hr' => ?_
      have := h5 _ q1 M G0 w0 hM a' w' hr'
      simpa using this
end
theorem Rel.drawn {M : Nat → Prop} {G0 : Gh} {w0 : World} {fr : List AV} {s : List Ob} {a : Act} {w : World} {n : Nat} (h : Rel M G0 w0 fr s a w) : Rel M G0 w0 fr s a { w with drawn := n } := by
  obtain ⟨G, h1, h2, h3⟩ := h
  exact ⟨G, h1.drawn, h2.drawn, h3.defers, h3.size, fun t => (h3.at_ t).drawn⟩
/-- the whole region -/
def drawS (X : ExT) (P : Program) (A : Array Oper) (fr : List TV) (s : List TOb) (β : Type) (k : List TV → List TOb → Option β) : Option β :=
  cond (P.follows .mixedOrders) (drawD X A.toList (reqs A) β A.size [⟨List.replicate A.size false, fr, s⟩] k) none
theorem drawS_some {n0 : Nat} {P : Program} {A : Array Oper} {X : ExT} (hX : ExOk n0 P A X) {id : Nat} {fr : List TV} {s : List TOb} {β : Type} {k : List TV → List TOb → Option β} {b : β} (h : drawS X P A fr s β k = some b) :
    ∃ F S, k F S = some b ∧ AW n0 P (.region id A true) (dns fr) (dnS s) (Ex .normal F S) := by
  obtain ⟨hm, h⟩ := cond_some h
  obtain ⟨F, S, h1, h2⟩ := drawD_some hX A.size _ k (fun nd hn => by simp at hn; subst hn; simp) h
  refine ⟨F, S, h1, fun M G0 w0 hM a w hr => ?_⟩
  refine wp_region_any hm ?_
  have := h2 _ (List.mem_singleton.2 rfl) M G0 w0 hM a _ (hr.drawn (n := w.drawn + 1))
  simpa using this
/-! one operation -/
section
variable (sc : Sc) (cf : Cfg)
/-- an object goes behind those that came behind it -/
def rotK (n0 : Nat) : Nat → Nat → List TV → List TOb → (β : Type) → (List TV → List TOb → Option β) → Option β
  | 0, _, fr, s, β, k => k fr s
  | c + 1, r, fr, s, β, k => match swA (sw r) s r with
    | some s' => cond (Nat.ble n0 r) (forceL (trns (sw r) fr) fun fr => forceS s' fun s => rotK n0 c (r + 1) fr s β k) none
    | none => none
/-- the object that was laid last goes behind the new ones, if q is listed when p comes -/
def swK (p q i : Nat) (m : List Bool) (n : Nat) (fr : List TV) (s : List TOb) (β : Type) (k : List TV → List TOb → Option β) : Option β := match Nat.beq i p && nthM m q with
  | false => k fr s
  | true => rotK cf.n0 (s.length - n) (n - 1) fr s β k
def exS (p q : Nat) : ExT := fun i o m fr s β k => match o.guard with
  | some _ => none
  | none => match o.op with
    | .mapEntry t x y => match tEntry sc.P s t (tEval fr x) (tEval fr y) with
      | some (v, s') => forceX v fun v => putK fr o.dst v fun fr => forceS s' fun s => k fr s
      | none => none
    | .entryStore t x y z => match tEStore s (tEval fr x) (tEval fr y) (tEval fr z) with
      | some s' => putK fr o.dst (.tup []) fun fr => forceS s' fun s => k fr s
      | none => none
    | .call c => match c.callee with
      | .value x => match tEval fr x with
        | .func (.func f) fcs => forceL ((c.args.toList.map fun y => tsoft (tEval fr y)) ++ fcs) fun args => match tfrees args && !inN f sc.rd with
          | true => cf.C f β args [] fun r s1 => match s1 with
            | [] => execT sc cf o.dst o.op fr s fun fr' s' => swK cf p q i m s.length fr' s' β k
            | y :: l => match upS s.length (y :: l) with
              | some s2 => cond (tsemi r) (putK fr o.dst ((tplain r).rn (· + s.length)) fun fr' => forceS (s ++ s2) fun s' => swK cf p q i m s.length fr' s' β k) none
              | none => none
          | false => execT sc cf o.dst o.op fr s fun fr' s' => swK cf p q i m s.length fr' s' β k
        | _ => none
      | _ => execT sc cf o.dst o.op fr s fun fr' s' => swK cf p q i m s.length fr' s' β k
    | _ => execT sc cf o.dst o.op fr s fun fr' s' => swK cf p q i m s.length fr' s' β k
end
theorem rotK_some {n0 : Nat} : ∀ (c r : Nat) {fr : List TV} {s : List TOb} {β : Type} {k : List TV → List TOb → Option β} {b : β}, rotK n0 c r fr s β k = some b → ∃ fr' s', k fr' s' = some b ∧ ∀ (M : Nat → Prop) (G0 : Gh) (w0 : World) (a : Act) (w : World), G0.n ≤ n0 → Rel M G0 w0 (dns fr) (dnS s) a w → Rel M G0 w0 (dns fr') (dnS s') a w
  | 0, _, fr, s, _, _, _, h => ⟨fr, s, h, fun _ _ _ _ _ _ h => h⟩
  | c + 1, r, fr, s, β, k, b, h => by
    unfold rotK at h
    split at h
    · rename_i s' hs
      obtain ⟨h1, h2⟩ := cond_some h
      rw [Nat.ble_eq] at h1
      rw [forceL_eq, forceS_eq] at h2
      obtain ⟨g1, g2, g3⟩ := swA_spec hs
      obtain ⟨fr', s2, q1, q2⟩ := rotK_some c (r + 1) h2
      refine ⟨fr', s2, q1, fun M G0 w0 a w hn hr => q2 M G0 w0 a w hn ?_⟩
      rw [dns_rn]
      refine Rel.rn hn (sw_inv h1 (by rw [dnS_length]; exact g1)) hr (fun i => ?_) (by rw [dnS_length, dnS_length, g2])
      rw [dnS_get, dnS_get, g3]
      cases s[sw r i]? with
      | none => rfl
      | some o => simp only [Option.map_some, dnO_rn]
    · cases h
theorem swK_some {cf : Cfg} {p q i n : Nat} {m : List Bool} {fr : List TV} {s : List TOb} {β : Type} {k : List TV → List TOb → Option β} {b : β} (h : swK cf p q i m n fr s β k = some b) : ∃ fr' s', k fr' s' = some b ∧ ∀ (M : Nat → Prop) (G0 : Gh) (w0 : World) (a : Act) (w : World), G0.n ≤ cf.n0 → Rel M G0 w0 (dns fr) (dnS s) a w → Rel M G0 w0 (dns fr') (dnS s') a w := by
  unfold swK at h
  split at h
  · exact ⟨fr, s, h, fun _ _ _ _ _ _ h => h⟩
  · exact rotK_some _ _ h
theorem exS_ok {sc : Sc} {cf : Cfg} (hC : CallSound sc.P cf.C) (p q : Nat) {A : Array Oper} : ExOk cf.n0 sc.P A (exS sc cf p q) := by
  intro i o m fr s β k b ho h
  unfold exS at h
  split at h
  · cases h
  rename_i hg
  have hw : aWanted A (dns fr) o = some true := by unfold aWanted; rw [hg]
  have viaStep : ∀ {v : TV} {s' : List TOb}, Step sc.P o (dns fr) (dnS s) (dns fr) (dn v) (dnS s') → OpW cf.n0 sc.P A i (dns fr) (dnS s) (dns (tPut fr o.dst v)) (dnS s') := by
    intro v s' hs M G0 w0 hM a w hr Q K hK
    have h1 : OpTo cf.n0 sc.P A o (dns fr) (dnS s) (dns (tPut fr o.dst v)) (dnS s') := by
      rw [dns_tPut]
      exact AL_step hw hs (AL_nil ⟨rfl, rfl, rfl⟩)
    exact h1.wp ho hM hr hK
  have gen : ∀ k : List TV → List TOb → Option β, (execT sc cf o.dst o.op fr s fun fr' s' => swK cf p q i m s.length fr' s' β k) = some b → ∃ fr' s', k fr' s' = some b ∧ OpW cf.n0 sc.P A i (dns fr) (dnS s) (dns fr') (dnS s') := by
    intro k h
    obtain ⟨fr1, s1, h1, h2⟩ := execT_sound (n0 := cf.n0) (A := A) (rest := []) hC hw h
    obtain ⟨fr', s', h3, h4⟩ := swK_some h1
    refine ⟨fr', s', h3, fun M G0 w0 hM a w hr Q K hK => ?_⟩
    have h5 : OpTo cf.n0 sc.P A o (dns fr) (dnS s) (dns fr1) (dnS s1) := h2 _ (AL_nil ⟨rfl, rfl, rfl⟩)
    exact h5.wp ho hM hr fun a w hr' => hK a w (h4 M G0 w0 a w hM.2 hr')
  split at h
  · rename_i t x y hop
    split at h
    · rename_i v s' he
      rw [forceX_eq, putK_eq, forceS_eq] at h
      have he := tEntry_spec he
      rw [dn_tEval, dn_tEval] at he
      exact ⟨_, _, h, viaStep (Step_entry hop he)⟩
    · cases h
  · rename_i t x y z hop
    split at h
    · rename_i s' he
      rw [putK_eq, forceS_eq] at h
      have he := tEStore_spec he
      rw [dn_tEval, dn_tEval, dn_tEval] at he
      exact ⟨_, _, h, viaStep (Step_estore hop he)⟩
    · cases h
  · rename_i c hop
    split at h
    · rename_i x hx
      split at h
      · rename_i f fcs hf
        rw [forceL_eq] at h
        split at h
        · rename_i hcnd
          rw [Bool.and_eq_true] at hcnd
          obtain ⟨hen, r, s1, hok, hk'⟩ := hC f β _ [] _ b h
          split at hk'
          · exact gen _ hk'
          · split at hk'
            · rename_i s2 hs2
              obtain ⟨h1, h2⟩ := cond_some hk'
              rw [putK_eq, forceS_eq] at h2
              obtain ⟨fr', s', h3, h4⟩ := swK_some h2
              obtain ⟨q1, q2⟩ := upS_spec hs2
              have hfa := tfrees_spec _ hcnd.1
              have hf' : aEval (dns fr) x = .func (.func f) (dns fcs) := by rw [← dn_tEval, hf]; rfl
              have hargs : dns ((c.args.toList.map fun y => tsoft (tEval fr y)) ++ fcs) = (c.args.toList.map fun y => (aEval (dns fr) y).soft) ++ dns fcs := by rw [dns_app, ← argsOf_eq]
              rw [hargs] at hok hfa
              have hst := Step_callN (s := dnS s) hop hx hf' hen (hok.weaken (AV.plain_wk _)) hfa (semi_plain (tsemi_spec r h1)) (rn_mark (AV.mark_plain _)) q2
              rw [dnS_length, ← q1, ← dnS_app, ← dn_tplain, ← dn_rn] at hst
              refine ⟨fr', s', h3, fun M G0 w0 hM a w hr Q K hK => ?_⟩
              exact viaStep hst M G0 w0 hM a w hr Q K fun a w hr' => hK a w (h4 M G0 w0 a w hM.2 hr')
            · cases hk'
        · exact gen _ h
      · cases h
    · exact gen _ h
  · exact gen _ h
end
end Go.Proofs.YtmacghaihlfcpaaGreat.Abs
