/- Code, functions, calls on trees. -/
import Derived.Test.YtmacghaihlfcpaaGreatFE
namespace Go.Proofs.YtmacghaihlfcpaaGreat.Abs
noncomputable section
open Go Go.ChangeShapes Go.WideShapes Go.ChangeAt Go.RowKit
set_option linter.unusedVariables false
set_option linter.unusedSimpArgs false

def exN (e : Exit) (β : Type) (n : Option β) (f : Exit → Option β) : Option β := @Exit.rec (fun _ => (β : Type) → Option β → (Exit → Option β) → Option β) (fun β n f => n) (fun i β n f => f (.exit i)) (fun l β n f => f (.goto l)) (fun β n f => f .ret) (fun c β n f => f (.panic c)) (fun β n f => f .outgrown) e β n f
theorem exN_eq (e : Exit) (β : Type) (n : Option β) (f : Exit → Option β) : exN e β n f = match e with | .normal => n | e => f e := by cases e <;> rfl
def blN (e : Exit) (id : Nat) (β : Type) (n : Option β) (f : Exit → Option β) : Option β := @Exit.rec (fun _ => Nat → (β : Type) → Option β → (Exit → Option β) → Option β) (fun id β n f => f .normal) (fun i id β n f => @Bool.rec (fun _ => Option β) (f (.exit i)) n (Nat.beq i id)) (fun l id β n f => f (.goto l)) (fun id β n f => f .ret) (fun c id β n f => f (.panic c)) (fun id β n f => f .outgrown) e id β n f
theorem blN_eq (e : Exit) (id : Nat) (β : Type) (n : Option β) (f : Exit → Option β) : blN e id β n f = match e with | .exit i => if i = id then n else f (.exit i) | e => f e := by
  cases e
  case exit i =>
    show @Bool.rec (fun _ => Option β) (f (.exit i)) n (Nat.beq i id) = _
    cases h : Nat.beq i id with
    | true => dsimp only; rw [if_pos (Nat.eq_of_beq_eq_true h)]
    | false =>
      have : i ≠ id := fun e => by subst e; rw [Nat.beq_refl] at h; cases h
      dsimp only; rw [if_neg this]
  all_goals rfl
/-- but for a jump -/
def ngN (e : Exit) (β : Type) (n : Option β) : Option β := @Exit.rec (fun _ => Option β) n (fun _ => n) (fun _ => none) n (fun _ => n) n e
/-- a region whose order is open, on trees -/
abbrev DrawF := (sh : Sh) → Sc → Cfg → Nat → Array Oper → FT sh → List TOb → (β : Type) → (FT sh → List TOb → Option β) → Option β
def DrawFSound (D : DrawF) : Prop := ∀ (sh : Sh) (sc : Sc) (cf : Cfg) (id : Nat) (A : Array Oper) (T : FT sh) (s : List TOb) (β : Type) (k : FT sh → List TOb → Option β) (b : β), CallSound sc.P cf.C →
  D sh sc cf id A T s β k = some b → ∃ F S, k F S = some b ∧ AW cf.n0 sc.P (.region id A true) (dns (toL sh T)) (dnS s) (Ex .normal (toL sh F) S)
def regD (D : DrawF) (id : Nat) (A : Array Oper) (dr : Bool) (sh : Sh) (sc : Sc) (cf : Cfg) (T : FT sh) (s : List TOb) (β : Type) (k : FT sh → List TOb → Option β) : Option β := @Bool.rec (fun _ => Option β) (runOpsF A A.toList sh sc cf T s β k) (D sh sc cf id A T s β k) dr
def regF (D : DrawF) (id : Nat) (A : Array Oper) (dr : Bool) (sh : Sh) (sc : Sc) (cf : Cfg) (T : FT sh) (s : List TOb) (β : Type) (k : FT sh → List TOb → Option β) : Option β := @List.rec (Nat × Nat) (fun _ => Option β) (regD D id A dr sh sc cf T s β k)
  (fun _ _ _ => toK sh T [] (Option β) fun fr => frzK id sc.frz fr s fun fr s => @Bool.rec (fun _ => Option β) none (ofK sh fr (Option β) fun T _ => regD D id A dr sh sc cf T s β k) (Nat.beq (lenC TV fr) sh.size)) sc.frz
abbrev RunT := (D : DrawF) → (sh : Sh) → Sc → Cfg → FT sh → List TOb → (β : Type) → (Exit → FT sh → List TOb → Option β) → Option β
def cndV : TV → RunT → RunT → RunT := @TV.rec (fun _ => RunT → RunT → RunT) (fun _ => PUnit)
    (fun a b D sh sc cf T s β k => none)
    (fun t u a b D sh sc cf T s β k => none)
    (fun t a b D sh sc cf T s β k => @Bool.rec (fun _ => Option β) (b D sh sc cf T s β k) (a D sh sc cf T s β k) t)
    (fun a b D sh sc cf T s β k => a D sh sc cf T s β k)
    (fun a b D sh sc cf T s β k => b D sh sc cf T s β k)
    (fun t a b D sh sc cf T s β k => none)
    (fun a b D sh sc cf T s β k => none)
    (fun t u a b D sh sc cf T s β k => none)
    (fun t u v a b D sh sc cf T s β k => none)
    (fun t u v _ a b D sh sc cf T s β k => none)
    (fun t u _ a b D sh sc cf T s β k => none)
    (fun t u a b D sh sc cf T s β k => none)
    (fun t u v w a b D sh sc cf T s β k => none)
    (fun a b D sh sc cf T s β k => none)
    (fun a b D sh sc cf T s β k => none)
    (fun t a b D sh sc cf T s β k => none)
    (fun t u _ a b D sh sc cf T s β k => none)
    (fun t _ a b D sh sc cf T s β k => none)
    (fun t _ a b D sh sc cf T s β k => none)
    PUnit.unit
    (fun _ _ _ _ => PUnit.unit)
def lopF (c : RunT) (D : DrawF) (sh : Sh) (sc : Sc) (cf : Cfg) (T : FT sh) (s : List TOb) (β : Type) (k : Exit → FT sh → List TOb → Option β) : Option β := @Nat.rec (fun _ => FT sh → List TOb → Option β) (fun _ _ => none) (fun _ rc T s => c D sh sc cf T s β fun e T s => exN e β (rc T s) fun e => k e T s) cf.N T s
def runF (c : Code) : RunT := @Code.rec (fun _ => RunT)
  (fun D sh sc cf T s β k => k .normal T s)
  (fun id A dr D sh sc cf T s β k => regF D id A dr sh sc cf T s β fun T s => k .normal T s)
  (fun _ _ a b D sh sc cf T s β k => a D sh sc cf T s β fun e T s => exN e β (b D sh sc cf T s β k) fun e => k e T s)
  (fun c _ _ a b D sh sc cf T s β k => cndV (evT sh c T) a b D sh sc cf T s β k)
  (fun id _ a D sh sc cf T s β k => a D sh sc cf T s β fun e T s => blN e id β (k .normal T s) fun e => k e T s)
  (fun _ a D sh sc cf T s β k => lopF a D sh sc cf T s β k)
  (fun _ _ _ _ _ _ D sh sc cf T s β k => none)
  (fun id D sh sc cf T s β k => k (.exit id) T s)
  (fun _ a D sh sc cf T s β k => a D sh sc cf T s β fun e T s => ngN e β (k e T s))
  (fun _ D sh sc cf T s β k => k .normal T s)
  (fun _ D sh sc cf T s β k => none)
  (fun D sh sc cf T s β k => k .ret T s)
  (fun _ D sh sc cf T s β k => none) c
/-- what is done behind on lists, of lists of this length -/
def Kof {α β : Type} (sh : Sh) (k : FT sh → α → Option β) (fr : List TV) (s : α) : Option β := if fr.length = sh.size then k (ofL sh fr) s else none
theorem Kof_toL {α β : Type} {sh : Sh} {k : FT sh → α → Option β} (T : FT sh) (s : α) : k T s = Kof sh k (toL sh T) s := by
  unfold Kof
  rw [if_pos (toL_length sh T)]
  have := ofL_toL sh T []
  rw [List.append_nil] at this
  rw [this]
theorem Kof_some {α β : Type} {sh : Sh} {k : FT sh → α → Option β} {fr : List TV} {s : α} {b : β} (h : Kof sh k fr s = some b) : ∃ T, k T s = some b ∧ toL sh T = fr := by
  unfold Kof at h
  split at h
  · rename_i hl; exact ⟨_, h, toL_ofL sh fr hl⟩
  · cases h
theorem regD_sound {D : DrawF} (hD : DrawFSound D) {id : Nat} {A : Array Oper} {dr : Bool} {sh : Sh} {sc : Sc} {cf : Cfg} {T : FT sh} {s : List TOb} {β : Type} {k : FT sh → List TOb → Option β} {b : β} (hC : CallSound sc.P cf.C) (h : regD D id A dr sh sc cf T s β k = some b) :
    ∃ F S, k F S = some b ∧ AW cf.n0 sc.P (.region id A dr) (dns (toL sh T)) (dnS s) (Ex .normal (toL sh F) S) := by
  cases dr with
  | true => exact hD sh sc cf id A T s β k b hC h
  | false =>
    have h : runOpsF A A.toList sh sc cf T s β k = some b := h
    rw [runOpsF_eq A.toList (K := Kof sh k) (fun T s => Kof_toL T s)] at h
    obtain ⟨F, S, h1, h2⟩ := runOps_sound (n0 := cf.n0) hC (A := A) A.toList _ s _ h
    obtain ⟨F', h3, rfl⟩ := Kof_some h1
    refine ⟨F', S, h3, ?_⟩
    have h2 := AW_region (id := id) (l := A.toList) (by simpa using h2)
    simpa using h2
theorem regF_sound {D : DrawF} (hD : DrawFSound D) {id : Nat} {A : Array Oper} {dr : Bool} {sh : Sh} {sc : Sc} {cf : Cfg} {T : FT sh} {s : List TOb} {β : Type} {k : FT sh → List TOb → Option β} {b : β} (hC : CallSound sc.P cf.C) (h : regF D id A dr sh sc cf T s β k = some b) :
    ∃ F S, k F S = some b ∧ AW cf.n0 sc.P (.region id A dr) (dns (toL sh T)) (dnS s) (Ex .normal (toL sh F) S) := by
  unfold regF at h
  have main : toK sh T [] (Option β) (fun fr => frzK id sc.frz fr s fun fr s => @Bool.rec (fun _ => Option β) none (ofK sh fr (Option β) fun T _ => regD D id A dr sh sc cf T s β k) (Nat.beq (lenC TV fr) sh.size)) = some b → ∃ F S, k F S = some b ∧ AW cf.n0 sc.P (.region id A dr) (dns (toL sh T)) (dnS s) (Ex .normal (toL sh F) S) := by
    intro h
    rw [toK_eq, List.append_nil] at h
    obtain ⟨fr, s1, h1, hcv⟩ := frzK_spec _ _ _ _ h
    rw [lenC_eq] at h1
    cases hl : Nat.beq fr.length sh.size with
    | false => rw [hl] at h1; cases h1
    | true =>
      rw [hl] at h1
      have h1 : ofK sh fr (Option β) (fun T _ => regD D id A dr sh sc cf T s1 β k) = some b := h1
      rw [ofK_eq] at h1
      obtain ⟨F, S, h2, h3⟩ := regD_sound hD hC h1
      rw [toL_ofL sh fr (Nat.eq_of_beq_eq_true hl)] at h3
      exact ⟨F, S, h2, AW_conv (fun M G0 w0 a w hn hr => hcv M G0 w0 a w hr) h3⟩
  have two : ∀ z : List (Nat × Nat), @List.rec (Nat × Nat) (fun _ => Option β) (regD D id A dr sh sc cf T s β k) (fun _ _ _ => toK sh T [] (Option β) fun fr => frzK id sc.frz fr s fun fr s => @Bool.rec (fun _ => Option β) none (ofK sh fr (Option β) fun T _ => regD D id A dr sh sc cf T s β k) (Nat.beq (lenC TV fr) sh.size)) z = some b → ∃ F S, k F S = some b ∧ AW cf.n0 sc.P (.region id A dr) (dns (toL sh T)) (dnS s) (Ex .normal (toL sh F) S) := by
    intro z h
    cases z with
    | nil => exact regD_sound hD hC h
    | cons p l => exact main h
  exact two _ h
theorem runF_sound {D : DrawF} (hD : DrawFSound D) {sh : Sh} {β : Type} {sc : Sc} {cf : Cfg} (hC : CallSound sc.P cf.C) {b : β} : ∀ (c : Code) (T : FT sh) (s : List TOb) (k : Exit → FT sh → List TOb → Option β), runF c D sh sc cf T s β k = some b →
    ∃ e F S, k e F S = some b ∧ AW cf.n0 sc.P c (dns (toL sh T)) (dnS s) (Ex e (toL sh F) S)
  | .skip, T, s, k, h => ⟨.normal, T, s, h, AW_skip ⟨rfl, rfl, rfl⟩⟩
  | .exit id, T, s, k, h => ⟨.exit id, T, s, h, AW_exit ⟨rfl, rfl, rfl⟩⟩
  | .ret, T, s, k, h => ⟨.ret, T, s, h, AW_ret ⟨rfl, rfl, rfl⟩⟩
  | .seq x y, T, s, k, h => by
    have h : runF x D sh sc cf T s β (fun e T s => exN e β (runF y D sh sc cf T s β k) fun e => k e T s) = some b := h
    obtain ⟨e, F, S, h1, h2⟩ := runF_sound hD hC x T s _ h
    rw [exN_eq] at h1
    cases e with
    | normal =>
      obtain ⟨e2, F2, S2, h3, h4⟩ := runF_sound hD hC y F S k h1
      refine ⟨e2, F2, S2, h3, AW_seq (h2.mono ?_)⟩
      rintro e fr s ⟨rfl, rfl, rfl⟩
      exact h4
    | _ =>
      refine ⟨_, F, S, h1, AW_seq (h2.mono ?_)⟩
      rintro e fr s ⟨rfl, rfl, rfl⟩
      exact ⟨rfl, rfl, rfl⟩
  | .cond c x y, T, s, k, h => by
    have h : cndV (evT sh c T) (runF x) (runF y) D sh sc cf T s β k = some b := h
    have he := evT_eq sh c T
    generalize hv : evT sh c T = v at h he
    have yes : dn v = .bool true → runF x D sh sc cf T s β k = some b → ∃ e F S, k e F S = some b ∧ AW cf.n0 sc.P (.cond c x y) (dns (toL sh T)) (dnS s) (Ex e (toL sh F) S) := by
      intro e1 h
      obtain ⟨e, F, S, h1, h2⟩ := runF_sound hD hC x T s k h
      exact ⟨e, F, S, h1, AW_cond (t := true) (by rw [← dn_tEval, ← he]; exact e1) h2⟩
    have no : dn v = .bool false → runF y D sh sc cf T s β k = some b → ∃ e F S, k e F S = some b ∧ AW cf.n0 sc.P (.cond c x y) (dns (toL sh T)) (dnS s) (Ex e (toL sh F) S) := by
      intro e1 h
      obtain ⟨e, F, S, h1, h2⟩ := runF_sound hD hC y T s k h
      exact ⟨e, F, S, h1, AW_cond (t := false) (by rw [← dn_tEval, ← he]; exact e1) h2⟩
    cases v
    case tt => exact yes rfl h
    case ff => exact no rfl h
    case bool t =>
      cases t with
      | true => exact yes rfl h
      | false => exact no rfl h
    all_goals cases h
  | .block id c, T, s, k, h => by
    have h : runF c D sh sc cf T s β (fun e T s => blN e id β (k .normal T s) fun e => k e T s) = some b := h
    obtain ⟨e, F, S, h1, h2⟩ := runF_sound hD hC c T s _ h
    rw [blN_eq] at h1
    cases e with
    | exit i =>
      dsimp only at h1
      split at h1
      · rename_i hi
        refine ⟨.normal, F, S, h1, AW_block (h2.mono ?_)⟩
        rintro e fr s ⟨rfl, rfl, rfl⟩
        simp only [aBlock]
        rw [if_pos hi]
        exact ⟨rfl, rfl, rfl⟩
      · rename_i hi
        refine ⟨.exit i, F, S, h1, AW_block (h2.mono ?_)⟩
        rintro e fr s ⟨rfl, rfl, rfl⟩
        simp only [aBlock]
        rw [if_neg hi]
        exact ⟨rfl, rfl, rfl⟩
    | _ =>
      refine ⟨_, F, S, h1, AW_block (h2.mono ?_)⟩
      rintro e fr s ⟨rfl, rfl, rfl⟩
      exact ⟨rfl, rfl, rfl⟩
  | .region id A dr, T, s, k, h => by
    obtain ⟨F, S, h1, h2⟩ := regF_sound hD hC (show regF D id A dr sh sc cf T s β (fun T s => k .normal T s) = some b from h)
    exact ⟨.normal, F, S, h1, h2⟩
  | .loop c, T, s, k, h => by
    have h : lopF (runF c) D sh sc cf T s β k = some b := h
    have key : ∀ (n : Nat) (T : FT sh) (s : List TOb), @Nat.rec (fun _ => FT sh → List TOb → Option β) (fun _ _ => none) (fun _ rc T s => runF c D sh sc cf T s β fun e T s => exN e β (rc T s) fun e => k e T s) n T s = some b → ∃ e F S, k e F S = some b ∧ AWL cf.n0 sc.P c (dns (toL sh T)) (dnS s) (Ex e (toL sh F) S) := by
      intro n
      induction n with
      | zero => intro T s hn; cases hn
      | succ n ih =>
        intro T s hn
        obtain ⟨e, F, S, h2, h3⟩ := runF_sound hD hC c T s _ hn
        rw [exN_eq] at h2
        cases e with
        | normal =>
          obtain ⟨e2, F2, S2, h5, h6⟩ := ih F S h2
          refine ⟨e2, F2, S2, h5, AWL_unroll (h3.mono ?_)⟩
          rintro e fr s ⟨rfl, rfl, rfl⟩
          exact ⟨_, _, fun M G0 w0 a w _ hr => hr, h6⟩
        | _ =>
          refine ⟨_, F, S, h2, AWL_unroll (h3.mono ?_)⟩
          rintro e fr s ⟨rfl, rfl, rfl⟩
          exact ⟨rfl, rfl, rfl⟩
    obtain ⟨e, F, S, h5, h6⟩ := key cf.N T s h
    exact ⟨e, F, S, h5, h6.loop⟩
  | .rangeFunc .., T, s, k, h => by cases h
  | .scope c, T, s, k, h => by
    have h : runF c D sh sc cf T s β (fun e T s => ngN e β (k e T s)) = some b := h
    obtain ⟨e, F, S, h1, h2⟩ := runF_sound hD hC c T s _ h
    have hk : k e F S = some b ∧ ∀ l, e ≠ .goto l := by
      cases e
      case goto l => cases h1
      all_goals exact ⟨h1, fun l h => by cases h⟩
    refine ⟨e, F, S, hk.1, fun M G0 w0 hM a w hr => wp_scope_straight (wp_mono (h2 M G0 w0 hM a w hr) ?_)⟩
    rintro e' a' w' ⟨he, fr, s', ⟨rfl, rfl, rfl⟩, hr'⟩
    cases e'
    case goto l => exact absurd rfl (hk.2 l)
    all_goals exact ⟨he, _, _, ⟨rfl, rfl, rfl⟩, hr'⟩
  | .label l, T, s, k, h => ⟨.normal, T, s, h, fun M G0 w0 hM a w hr => wp_label ⟨trivial, _, _, ⟨rfl, rfl, rfl⟩, hr⟩⟩
  | .goto _, T, s, k, h => by cases h
  | .refuse _, T, s, k, h => by cases h

/-! functions -/
def blw : TV → Nat → Bool := @TV.rec (fun _ => Nat → Bool) (fun _ => Nat → Bool)
    (fun n => true)
    (fun a b n => true)
    (fun a n => true)
    (fun n => true)
    (fun n => true)
    (fun a n => true)
    (fun n => true)
    (fun a b n => Nat.blt a n)
    (fun a b c n => true)
    (fun a b c ih n => ih n)
    (fun a b ih n => ih n)
    (fun a b n => Nat.blt a n)
    (fun a b c d n => Nat.blt a n)
    (fun n => true)
    (fun n => true)
    (fun a n => Nat.blt a n)
    (fun a b ih n => ih n)
    (fun a ih n => ih n)
    (fun a ih n => ih n)
    (fun _ => true)
    (fun _ _ x y n => @Bool.rec (fun _ => Bool) false (y n) (x n))
def blws : List TV → Nat → Bool := @TV.rec_1 (fun _ => Nat → Bool) (fun _ => Nat → Bool)
    (fun n => true)
    (fun a b n => true)
    (fun a n => true)
    (fun n => true)
    (fun n => true)
    (fun a n => true)
    (fun n => true)
    (fun a b n => Nat.blt a n)
    (fun a b c n => true)
    (fun a b c ih n => ih n)
    (fun a b ih n => ih n)
    (fun a b n => Nat.blt a n)
    (fun a b c d n => Nat.blt a n)
    (fun n => true)
    (fun n => true)
    (fun a n => Nat.blt a n)
    (fun a b ih n => ih n)
    (fun a ih n => ih n)
    (fun a ih n => ih n)
    (fun _ => true)
    (fun _ _ x y n => @Bool.rec (fun _ => Bool) false (y n) (x n))
theorem blt_dec (a n : Nat) : Nat.blt a n = decide (a < n) := by rw [Bool.eq_iff_iff, blt_iff, decide_eq_true_iff]
mutual
theorem blw_eq : ∀ (v : TV) (n : Nat), blw v n = tbelow n v
  | .undef, n => rfl
  | .int .., n => rfl
  | .bool _, n => rfl
  | .tt, n => rfl
  | .ff, n => rfl
  | .str _, n => rfl
  | .nilp, n => rfl
  | .nilf, n => rfl
  | .mapn, n => rfl
  | .tl .., n => rfl
  | .mapr i, n => blt_dec i n
  | .ref i _, n => blt_dec i n
  | .arr i _, n => blt_dec i n
  | .ap i _ _ _, n => blt_dec i n
  | .ll cs _ _, n => by rw [tbelow, ← blws_eq cs]; rfl
  | .ep cs _, n => by rw [tbelow, ← blws_eq cs]; rfl
  | .func _ cs, n => by rw [tbelow, ← blws_eq cs]; rfl
  | .agg cs, n => by rw [tbelow, ← blws_eq cs]; rfl
  | .tup cs, n => by rw [tbelow, ← blws_eq cs]; rfl
theorem blws_eq : ∀ (l : List TV) (n : Nat), blws l n = tbelows n l
  | [], n => rfl
  | a :: l, n => by
    show @Bool.rec (fun _ => Bool) false (blws l n) (blw a n) = _
    rw [tbelows, blw_eq a, blws_eq l]
    cases tbelow n a <;> rfl
end
def oblw (n : Nat) (o : TOb) : Bool := @TOb.rec (fun _ => Nat → Bool) (fun cs _ l n => @Bool.rec (fun _ => Bool) true (blws cs n) l) (fun _ _ _ _ _ => true) o n
def sblw (n : Nat) (s : List TOb) : Bool := @List.rec TOb (fun _ => Bool) true (fun o _ ih => @Bool.rec (fun _ => Bool) false ih (oblw n o)) s
theorem sblw_eq (n : Nat) : ∀ s : List TOb, sblw n s = sbelow n s
  | [] => rfl
  | .cells cs t l :: s => by
    show @Bool.rec (fun _ => Bool) false (sblw n s) (@Bool.rec (fun _ => Bool) true (blws cs n) l) = _
    rw [sbelow, blws_eq, sblw_eq n s]
    cases l <;> cases tbelows n cs <;> rfl
  | .tarr .. :: s => by
    show sblw n s = _
    rw [sbelow, sblw_eq n s]
def takeC (α : Type) : List α → Nat → (β : Type) → (List α → β) → β := @List.rec α (fun _ => Nat → (β : Type) → (List α → β) → β) (fun _ β k => k []) (fun a _ ih n => @Nat.rec (fun _ => (β : Type) → (List α → β) → β) (fun β k => k []) (fun m _ β k => ih m β fun l => k (a :: l)) n)
theorem takeC_eq {α β : Type} : ∀ (l : List α) (n : Nat) (k : List α → β), takeC α l n β k = k (l.take n)
  | [], n, k => by cases n <;> rfl
  | a :: l, 0, k => rfl
  | a :: l, n + 1, k => by show takeC α l n β (fun l => k (a :: l)) = _; rw [takeC_eq l]; rfl
def cellV : TV → Program → List TOb → TypeId → (β : Type) → (TV → Option β) → Option β := @TV.rec (fun _ => Program → List TOb → TypeId → (β : Type) → (TV → Option β) → Option β) (fun _ => PUnit)
    (fun P s t β K => none)
    (fun a b P s t β K => none)
    (fun a P s t β K => none)
    (fun P s t β K => none)
    (fun P s t β K => none)
    (fun a P s t β K => none)
    (fun P s t β K => none)
    (fun a b P s t β K => nthL TOb s a β fun ob => obLoad ob P t b β fun v => plF v (Option β) K)
    (fun a b c P s t β K => none)
    (fun a b c _ P s t β K => none)
    (fun a b _ P s t β K => none)
    (fun a b P s t β K => none)
    (fun a b c d P s t β K => none)
    (fun P s t β K => none)
    (fun P s t β K => none)
    (fun a P s t β K => none)
    (fun a b _ P s t β K => none)
    (fun a _ P s t β K => none)
    (fun a _ P s t β K => none)
    PUnit.unit
    (fun _ _ _ _ => PUnit.unit)
def resF (P : Program) (sh : Sh) (T : FT sh) (s : List TOb) (r : ResultVar) (β : Type) (K : TV → Option β) : Option β := @ResultVar.rec (fun _ => Option β) (fun t => plF ((getG sh t).un T) (Option β) K) (fun a t => cellV ((getG sh a).un T) P s t β K) r
theorem resF_eq (P : Program) (sh : Sh) (T : FT sh) (s : List TOb) (r : ResultVar) (β : Type) (K : TV → Option β) : resF P sh T s r β K = match tResult P (toL sh T) s r with | some v => K v | none => none := by
  cases r with
  | tmp t =>
    show plF ((getG sh t).un T) (Option β) K = _
    rw [plF_eq, get_eq]; rfl
  | cell a t =>
    show cellV ((getG sh a).un T) P s t β K = _
    rw [get_eq]
    simp only [tResult]
    cases (toL sh T).getD a .undef
    case ref i o =>
      have h1 := loadF_eq P s t (.ref i o) β fun v => plF v (Option β) K
      have h2 : loadF (.ref i o) P s t β (fun v => plF v (Option β) K) = cellV (.ref i o) P s t β K := rfl
      rw [← h2, h1]
      simp only [tLoadAt]
      cases s[i]? with
      | none => rfl
      | some ob =>
        cases ob with
        | tarr => rfl
        | cells cs ot l =>
          dsimp only
          by_cases hl : l = true ∧ ot ≠ mapT
          · rw [if_pos hl, if_pos hl]
            cases tLoad P t cs o with
            | none => rfl
            | some v => exact plF_eq _ _ _
          · rw [if_neg hl, if_neg hl]; rfl
    all_goals rfl
def ressF (P : Program) (sh : Sh) (T : FT sh) (s : List TOb) (β : Type) (rs : List ResultVar) (K : List TV → Option β) : Option β := @List.rec ResultVar (fun _ => (List TV → Option β) → Option β) (fun K => K []) (fun r _ ih K => resF P sh T s r β fun v => ih fun l => K (v :: l)) rs K
theorem ressF_eq (P : Program) (sh : Sh) (T : FT sh) (s : List TOb) (β : Type) : ∀ (rs : List ResultVar) (K : List TV → Option β), ressF P sh T s β rs K = tResults P (toL sh T) s rs K
  | [], K => rfl
  | r :: rs, K => by
    show resF P sh T s r β (fun v => ressF P sh T s β rs fun l => K (v :: l)) = _
    rw [resF_eq, tResults]
    cases tResult P (toL sh T) s r with
    | none => rfl
    | some v => dsimp only; rw [ressF_eq P sh T s β rs, forceV_eq]
def softF (l : List TV) : TV := @List.rec TV (fun _ => TV) (.tup []) (fun a r _ => @List.rec TV (fun _ => TV) a (fun _ _ _ => .tup (a :: r)) r) l
theorem softF_eq (l : List TV) : softF l = softT l := by
  cases l with
  | nil => rfl
  | cons a r => cases r <;> rfl
def finE (P : Program) (n0 : Nat) (rs : List ResultVar) (sh : Sh) (β : Type) (k : TV → List TOb → Option β) (T : FT sh) (s : List TOb) : Option β :=
  @Bool.rec (fun _ => Option β) none (ressF P sh T s β rs fun l => fc (softF l) (Option β) fun r => takeC TOb s n0 (Option β) fun s' => @Bool.rec (fun _ => Option β) (k r s) (@Bool.rec (fun _ => Option β) (k r s) (k r s') (sblw n0 s')) (blw r n0)) (Nat.ble n0 (lenC TOb s))
def finF (P : Program) (n0 : Nat) (rs : List ResultVar) (sh : Sh) (β : Type) (k : TV → List TOb → Option β) (e : Exit) (T : FT sh) (s : List TOb) : Option β :=
  @Exit.rec (fun _ => Option β) (finE P n0 rs sh β k T s) (fun _ => none) (fun _ => none) (finE P n0 rs sh β k T s) (fun _ => none) none e
theorem finE_eq (P : Program) (n0 : Nat) (rs : List ResultVar) (sh : Sh) (β : Type) (k : TV → List TOb → Option β) (T : FT sh) (s : List TOb) : finE P n0 rs sh β k T s = fin P n0 rs k .ret (toL sh T) s := by
  unfold finE
  simp only [fin]
  rw [lenC_eq, ressF_eq]
  by_cases h : n0 ≤ s.length
  · rw [if_pos h, Nat.ble_eq_true_of_le h]
    dsimp only
    congr 1
    funext l
    rw [fc_eq, takeC_eq, softF_eq, blw_eq, sblw_eq]
    cases tbelow n0 (softT l) <;> cases sbelow n0 (s.take n0) <;> rfl
  · rw [if_neg h]
    have : Nat.ble n0 s.length = false := by
      cases hb : Nat.ble n0 s.length with
      | false => rfl
      | true => exact absurd (Nat.le_of_ble_eq_true hb) h
    rw [this]
theorem finF_eq (P : Program) (n0 : Nat) (rs : List ResultVar) (sh : Sh) (β : Type) (k : TV → List TOb → Option β) (e : Exit) (T : FT sh) (s : List TOb) : finF P n0 rs sh β k e T s = fin P n0 rs k e (toL sh T) s := by
  cases e
  case normal => exact finE_eq ..
  case ret => exact finE_eq ..
  all_goals rfl
/-- the end of a function that tells a row of its own -/
def finO (rs : List ResultVar) (sh : Sh) (β : Type) (k : TV → List TOb → Option β) (e : Exit) (T : FT sh) (s : List TOb) : Option β := match rs, e with
  | [.tmp t], .normal => fc ((getG sh t).un T) (Option β) fun r => k r s
  | [.tmp t], .ret => fc ((getG sh t).un T) (Option β) fun r => k r s
  | _, _ => none
theorem finO_some {rs : List ResultVar} {sh : Sh} {β : Type} {k : TV → List TOb → Option β} {e : Exit} {T : FT sh} {s : List TOb} {b : β} (h : finO rs sh β k e T s = some b) : ∃ t, rs = [.tmp t] ∧ retE e ∧ k ((toL sh T).getD t .undef) s = some b := by
  unfold finO at h
  split at h
  · rename_i t
    rw [fc_eq, get_eq] at h
    exact ⟨t, rfl, trivial, h⟩
  · rename_i t
    rw [fc_eq, get_eq] at h
    exact ⟨t, rfl, trivial, h⟩
  · cases h
def finB (ow : Bool) (P : Program) (n0 : Nat) (rs : List ResultVar) (sh : Sh) (β : Type) (k : TV → List TOb → Option β) (e : Exit) (T : FT sh) (s : List TOb) : Option β := @Bool.rec (fun _ => Option β) (finF P n0 rs sh β k e T s) (finO rs sh β k e T s) ow
def bodyF (ow : Bool) (O : List Nat) (D : DrawF) (P : Program) (N : Nat) (C : CallT) (d : FD) (fn : Func) (c : Code) (β : Type) (args : List TV) (s : List TOb) (k : TV → List TOb → Option β) : Option β :=
  @Bool.rec (fun _ => Option β) none (@Bool.rec (fun _ => Option β) none
    (fN (lenC TOb s) (Option β) fun n0 => argsT (shOf 10 fn.ntmps) args 0 (fullG (shOf 10 fn.ntmps)).un (Option β) fun T => runF c D (shOf 10 fn.ntmps) ⟨P, d.arrs, d.heads.map fun p => (p.1, ⟨p.2, fn.ntmps, 0, [], []⟩), d.frz, true, O, []⟩ ⟨N, C, n0⟩ T s β (finB ow P n0 fn.results.toList (shOf 10 fn.ntmps) β k))
    (Nat.ble (lenC TV args) (shOf 10 fn.ntmps).size)) (Nat.beq (shOf 10 fn.ntmps).size fn.ntmps)
theorem bodyF_sound {ow : Bool} {O : List Nat} {D : DrawF} (hD : DrawFSound D) {P : Program} {N : Nat} {C : CallT} (hC : CallSound P C) {d : FD} {f : FuncId} {fn : Func} {c : Code} (hf : P.funcs[f]? = some fn) (hb : fn.body = some c)
    {β : Type} {args : List TV} {s : List TOb} {k : TV → List TOb → Option β} {b : β} (hm : ∀ a ∈ args, tmark a = none) (h : bodyF ow O D P N C d fn c β args s k = some b) :
    ∃ r s', Ok P f (dns args) (dnS s) (dn r) (dnS s') ∧ k r s' = some b := by
  unfold bodyF at h
  cases h1 : Nat.beq (shOf 10 fn.ntmps).size fn.ntmps with
  | false => rw [h1] at h; cases h
  | true =>
    rw [h1] at h
    cases h2 : Nat.ble (lenC TV args) (shOf 10 fn.ntmps).size with
    | false => rw [h2] at h; cases h
    | true =>
      rw [h2] at h
      dsimp only at h
      have e1 := Nat.eq_of_beq_eq_true h1
      rw [lenC_eq] at h2
      obtain ⟨T, h3, h4⟩ := start_eq (shOf 10 fn.ntmps) args (Nat.le_of_ble_eq_true h2)
      rw [fN_eq, h3, lenC_eq] at h
      obtain ⟨e, F, S, h5, h6⟩ := runF_sound hD (sc := ⟨P, d.arrs, d.heads.map fun p => (p.1, ⟨p.2, fn.ntmps, 0, [], []⟩), d.frz, true, O, []⟩) (cf := ⟨N, C, s.length⟩) hC c T s _ h
      rw [h4, e1] at h6
      cases ow with
      | false =>
        have h5 : finF P s.length fn.results.toList (shOf 10 fn.ntmps) β k e F S = some b := h5
        rw [finF_eq] at h5
        exact callBody_fin hf hb hm h5 h6
      | true =>
        have h5 : finO fn.results.toList (shOf 10 fn.ntmps) β k e F S = some b := h5
        obtain ⟨t, hr, he, hk⟩ := finO_some h5
        refine ⟨_, S, callBody_own (t := t) hf hb hm he ?_ h6, hk⟩
        apply Array.ext'
        rw [hr]
def fnC (P : Program) (f : FuncId) : Option (Func × Code) := match P.funcs[f]? with
  | some fn => match fn.body with
    | some c => cond (enters P f) (some (fn, c)) none
    | none => none
  | none => none
def noMk (l : List TV) : Bool := @List.rec TV (fun _ => Bool) true (fun v _ ih => @List.rec Nat (fun _ => Bool) ih (fun _ _ _ => false) (mkV v [])) l
theorem noMk_spec : ∀ {l : List TV}, noMk l = true → ∀ a ∈ l, tmark a = none
  | v :: l, h, a, ha => by
    have h : @List.rec Nat (fun _ => Bool) (noMk l) (fun _ _ _ => false) (mkV v []) = true := h
    rw [mkV_eq, List.append_nil] at h
    cases hv : tmark v with
    | some t => rw [hv] at h; cases h
    | none =>
      rw [hv] at h
      rcases List.mem_cons.1 ha with e | e
      · subst e; exact hv
      · exact noMk_spec h a e
/-- functions that tell rows of their own -/
def owOf (T : List (Nat × FD)) : List Nat := (fdOf T 999999).arrs
/-- all calls, so deep -/
def callAllF (D : DrawF) (P : Program) (T : List (Nat × FD)) (X : FuncId → Option Ent) (N : Nat) (d : Nat) : CallT := @Nat.rec (fun _ => CallT) (fun _ _ _ _ _ => none)
  (fun _ ih f β args s k => @Option.rec Ent (fun _ => Option β) (@Option.rec (Func × Code) (fun _ => Option β) none (fun r => @Bool.rec (fun _ => Option β) none (bodyF (inN f (owOf T)) (owOf T) D P N ih (fdOf T f) r.1 r.2 β args s k) (noMk args)) (fnC P f)) (fun E => E β args s k) (X f)) d
theorem callAllF_sound {D : DrawF} (hD : DrawFSound D) {P : Program} {T : List (Nat × FD)} {X : FuncId → Option Ent} {N : Nat} (hX : XSound P X) : ∀ d, CallSound P (callAllF D P T X N d)
  | 0 => fun f β args s k b h => by cases h
  | d + 1 => by
    intro f β args s k b h
    have h : @Option.rec Ent (fun _ => Option β) (@Option.rec (Func × Code) (fun _ => Option β) none (fun r => @Bool.rec (fun _ => Option β) none (bodyF (inN f (owOf T)) (owOf T) D P N (callAllF D P T X N d) (fdOf T f) r.1 r.2 β args s k) (noMk args)) (fnC P f)) (fun E => E β args s k) (X f) = some b := h
    cases hE : X f with
    | some E => rw [hE] at h; exact hX f E hE β args s k b h
    | none =>
      rw [hE] at h
      dsimp only at h
      cases hc : fnC P f with
      | none => rw [hc] at h; cases h
      | some r =>
        rw [hc] at h
        dsimp only at h
        cases hn : noMk args with
        | false => rw [hn] at h; cases h
        | true =>
          rw [hn] at h
          unfold fnC at hc
          split at hc
          · rename_i fn hf
            split at hc
            · rename_i c hb
              obtain ⟨h1, h2⟩ := cond_some hc
              cases h2
              exact ⟨h1, bodyF_sound hD (callAllF_sound hD hX d) hf hb (noMk_spec hn) h⟩
            · cases hc
          · cases hc
/-! regions whose order is open: on lists, for a while -/
def DRl (D : DrawT) : DrawF := fun sh sc cf id A T s β k => toK sh T [] (Option β) fun fr => D sc cf β id A fr s fun fr s => @Bool.rec (fun _ => Option β) none (ofK sh fr (Option β) fun T _ => k T s) (Nat.beq (lenC TV fr) sh.size)
theorem DRl_sound {D : DrawT} (hD : DrawSound D) : DrawFSound (DRl D) := by
  intro sh sc cf id A T s β k b hC h
  unfold DRl at h
  rw [toK_eq, List.append_nil] at h
  obtain ⟨F, S, h1, h2⟩ := hD sc cf β id A _ s _ b hC h
  rw [lenC_eq] at h1
  cases hl : Nat.beq F.length sh.size with
  | false => rw [hl] at h1; cases h1
  | true =>
    rw [hl] at h1
    dsimp only at h1
    rw [ofK_eq] at h1
    refine ⟨_, S, h1, ?_⟩
    rw [toL_ofL sh F (Nat.eq_of_beq_eq_true hl)]
    exact h2
end
end Go.Proofs.YtmacghaihlfcpaaGreat.Abs
