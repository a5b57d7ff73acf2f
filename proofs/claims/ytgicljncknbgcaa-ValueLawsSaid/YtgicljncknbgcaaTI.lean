/- What is kept at a loop's head: marks renamed, slots forgotten, forms brought to one, objects cut. -/
import Derived.Test.YtgicljncknbgcaaTH
namespace Go.Proofs.Ytgicljncknbgcaa.Abs
open Go Go.ChangeShapes Go.WideShapes Go.ChangeAt Go.RowKit
set_option linter.unusedVariables false
set_option linter.unusedSimpArgs false

/-! marks renamed -/
def AV.ren (ρ : Nat → Nat) : AV → AV
  | .list cs n (.own t e z) => .list cs n (.own (ρ t) e z)
  | a => a
def renO (ρ : Nat → Nat) (o : Ob) : Ob := { o with cs := o.cs.map (AV.ren ρ) }
open Classical in
noncomputable def Gh.ren (G : Gh) (M : Nat → Prop) (ρ : Nat → Nat) : Gh := { G with tg := fun b => if M b then ρ (G.tg b) else G.tg b }
theorem Ext.ren (G : Gh) (w : World) (M : Nat → Prop) (ρ : Nat → Nat) : Ext M G w (G.ren M ρ) w where
  size := Nat.le_refl _
  os := rfl
  tape := rfl
  output := rfl
  n := Nat.le_refl _
  live _ _ h := h
  mu _ _ := rfl
  newobj i h1 h2 := by simp only [Gh.ren] at h2; omega
  own _ _ := rfl
  phi _ _ _ := Nat.le_refl _
  cell _ _ _ _ := rfl
  row _ _ _ _ _ _ := rfl
  keep b _ _ _ hm := ⟨rfl, rfl, by simp only [Gh.ren]; rw [if_neg hm]⟩
theorem VR.ren {M : Nat → Prop} {G : Gh} {w : World} {a : AV} {v : Value} (ρ : Nat → Nat) (h : VR M G w a v) : VR M (G.ren M ρ) w (a.ren ρ) v := by
  have h0 := VR0.mono (Ext.ren G w M ρ) a v h.1
  have ho := h.2
  cases a with
  | list cs n g =>
    cases g with
    | own t e z =>
      refine ⟨?_, ?_⟩
      · simp only [AV.ren, VR0] at h0 ⊢
        obtain ⟨A, cap, k1, k2, _, k4⟩ := h0
        exact ⟨A, cap, k1, k2, (fun h => by cases h), k4⟩
      · simp only [AV.ren, OwnC] at ho ⊢
        rcases ho with ho | ⟨g, cap, cur, k1, k2, k3, k4, k5, k6, k7⟩
        · exact .inl ho
        · exact .inr ⟨g, cap, cur, k1, k2, k3, k4, k5, by simp only [Gh.ren]; rw [if_pos k2, k6], k7⟩
    | _ => exact ⟨h0, OwnC.of_plain rfl⟩
  | _ => exact ⟨h0, OwnC.of_plain rfl⟩
theorem Sim.ren {M : Nat → Prop} {G : Gh} {s : List Ob} {w : World} (ρ : Nat → Nat) (h : Sim M G s w) : Sim M (G.ren M ρ) (s.map (renO ρ)) w := by
  refine ⟨by simp [Gh.ren, h.n], h.inj, h.own, ?_, h.lt, ?_⟩
  · intro i o' hi hol
    rw [List.getElem?_map] at hi
    obtain ⟨o, h1, rfl⟩ := map_some_eq hi
    exact h.live i o h1 hol
  · intro i o' hi hl
    rw [List.getElem?_map] at hi
    obtain ⟨o, h1, rfl⟩ := map_some_eq hi
    obtain ⟨vs, g1, g2, g3⟩ := h.at_ i o h1 hl
    refine ⟨vs, g1, by simpa [renO] using g2, fun k a v hk hv => ?_⟩
    simp only [renO, List.getElem?_map] at hk
    obtain ⟨a0, h2, rfl⟩ := map_some_eq hk
    exact (g3 k a0 v h2 hv).ren ρ
theorem Rel.ren {M : Nat → Prop} {G0 : Gh} {w0 : World} {fr : List AV} {s : List Ob} {a : Act} {w : World} (ρ : Nat → Nat) (h : Rel M G0 w0 fr s a w) : Rel M G0 w0 (fr.map (AV.ren ρ)) (s.map (renO ρ)) a w := by
  obtain ⟨G, h1, h2, h3⟩ := h
  refine ⟨G.ren M ρ, h1.trans (Ext.ren G w M ρ) (fun _ _ h => h), h2.ren ρ, h3.defers, by simpa using h3.size, fun t => ?_⟩
  have := (h3.at_ t).ren ρ
  rw [List.getD_eq_getElem?_getD, List.getElem?_map]
  rw [List.getD_eq_getElem?_getD] at this
  cases hh : fr[t]? with
  | none => rw [hh] at this; exact this
  | some x => rw [hh] at this; exact this
/-! objects cut -/
theorem VR.cut {M : Nat → Prop} {G : Gh} {w : World} {n : Nat} (hn : n ≤ G.n) {a : AV} {v : Value} (hr : a.refs n = true) (h : VR M G w a v) : VR M (G.cut n) w a v := by
  refine ⟨h.1.cut hn a v hr, ?_⟩
  have k2 := h.2
  unfold OwnC at *
  split
  · rcases k2 with k2 | ⟨g, cap, cur, e1, e2, e3, e4, e5⟩
    · exact .inl k2
    · exact .inr ⟨g, cap, cur, e1, e2, e3, fun ⟨j, hj, hl, he⟩ => e4 ⟨j, Nat.lt_of_lt_of_le hj hn, hl, he⟩, e5⟩
  · trivial
theorem Rel.cut {M : Nat → Prop} {G0 : Gh} {w0 : World} {fr : List AV} {s s' : List Ob} {a : Act} {w : World} {n : Nat} (h0 : G0.n ≤ n) (hn : n ≤ s.length) (hc : cutStore n s = some s') (hf : belows n fr = true) (h : Rel M G0 w0 fr s a w) : Rel M G0 w0 fr s' a w := by
  obtain ⟨G, h1, h2, h3⟩ := h
  have hnG : n ≤ G.n := by rw [h2.n]; exact hn
  refine ⟨G.cut n, ?_, h2.cut hnG hc, h3.defers, h3.size, fun t => ?_⟩
  · exact { h1 with n := h0, newobj := fun i k1 k2 => h1.newobj i k1 (Nat.lt_of_lt_of_le k2 hnG), mu := h1.mu, live := h1.live, own := h1.own, phi := h1.phi, keep := h1.keep, cell := h1.cell, row := h1.row }
  · refine (h3.at_ t).cut hnG ?_
    rw [List.getD_eq_getElem?_getD]
    cases hh : fr[t]? with
    | none => rfl
    | some x => exact belows_get hf hh

/-! the same on typed values -/
def tren (ρ : Nat → Nat) : TV → TV
  | .tl t xs (.own m e z) => .tl t xs (.own (ρ m) e z)
  | .ll cs n (.own m e z) => .ll cs n (.own (ρ m) e z)
  | v => v
theorem dn_tren (ρ : Nat → Nat) (v : TV) : dn (tren ρ v) = (dn v).ren ρ := by
  cases v <;> try rfl
  · rename_i t xs g; cases g <;> rfl
  · rename_i t xs g; cases g <;> rfl
theorem ren_none (ρ : Nat → Nat) {a : AV} (h : a.mark = none) : a.ren ρ = a := by
  cases a <;> try rfl
  rename_i cs n g
  cases g <;> first | rfl | cases h
def rhoOf : List (Nat × Nat) → Nat → Nat
  | [], t => t
  | (a, b) :: l, t => if t = a then b else rhoOf l t
def conv (ρ : Nat → Nat) : SK → TV → Option TV
  | .asis, v => some (tren ρ v)
  | .int k, v => match v with
    | .int k' n => if k' = k then some (.int k n) else none
    | _ => none
  | .bool, v => match asB v with
    | some b => some (.bool b)
    | none => none
  | .str, v => match v with
    | .str s => some (.str s)
    | _ => none
  | .own ty m e z, v => if z = ty.size then
      match tOwned ty e z m (tren ρ v) with
      | some (xs, t0) => if t0 = m then some (.tl ty xs (.own m e z)) else none
      | none => none
    else none
  | .lst ty, v => match decV (.list ty) v with
    | some xs => some (.tl ty xs .unk)
    | none => none
  | .agg ty, v => match decV ty v with
    | some x => some (tval ty x)
    | none => none
theorem AV.ren_wk (ρ : Nat → Nat) (a : AV) : Wk (a.ren ρ) a := fun G w v h => by
  cases a <;> try exact h
  rename_i cs n g
  cases g <;> try exact h
  simp only [AV.ren, VR0] at h ⊢
  obtain ⟨A, cap, k1, k2, _, k4⟩ := h
  exact ⟨A, cap, k1, k2, (fun h => by cases h), k4⟩
theorem conv_spec {ρ : Nat → Nat} {k : SK} {v v' : TV} (h : conv ρ k v = some v') : WkM ((dn v).ren ρ) (dn v') := by
  cases k with
  | asis => simp only [conv, Option.some.injEq] at h; subst h; rw [dn_tren]; exact .refl _
  | int k =>
    simp only [conv] at h
    split at h
    · split at h
      · rename_i hk; subst hk; cases h; exact .refl _
      · cases h
    · cases h
  | bool =>
    simp only [conv] at h
    split at h
    · rename_i b hb; cases h; rw [asB_spec hb]; exact .refl _
    · cases h
  | str =>
    simp only [conv] at h
    split at h
    · cases h; exact .refl _
    · cases h
  | own ty m e z =>
    simp only [conv] at h
    split at h
    · rename_i hz
      split at h
      · rename_i xs t0 ho
        split at h
        · rename_i ht
          subst ht
          cases h
          have := tOwned_spec hz ho
          rw [dn_tren] at this
          exact this
        · cases h
      · cases h
    · cases h
  | lst ty =>
    simp only [conv] at h
    split at h
    · rename_i xs hx
      cases h
      exact .of ((AV.ren_wk ρ _).trans (decV_spec hx)) rfl
    · cases h
  | agg ty =>
    simp only [conv] at h
    split at h
    · rename_i x hx
      cases h
      exact .of ((AV.ren_wk ρ _).trans (decV_spec hx)) (aval_mark _ _)
    · cases h
def canonF {β : Type} (ρ : Nat → Nat) : List (Nat × SK) → Nat → List TV → (List TV → Option β) → Option β
  | _, _, [], k => k []
  | [], i, _ :: fr, k => canonF ρ [] (i + 1) fr fun fr => k (.undef :: fr)
  | (t, sk) :: ks, i, v :: fr, k => if t = i then
      match conv ρ sk v with
      | some v => forceV v fun v => canonF ρ ks (i + 1) fr fun fr => k (v :: fr)
      | none => none
    else canonF ρ ((t, sk) :: ks) (i + 1) fr fun fr => k (.undef :: fr)
/-- slot by slot -/
inductive WkMs : List AV → List AV → Prop
  | nil : WkMs [] []
  | cons {a b as bs} : WkM a b → WkMs as bs → WkMs (a :: as) (b :: bs)
theorem WkMs.F {a b : List AV} (h : WkMs a b) : WkF a b := by
  refine ⟨?_, ?_⟩
  · induction h with
    | nil => rfl
    | cons _ _ ih => simp [ih]
  · induction h with
    | nil => intro t; exact .refl _
    | cons h _ ih =>
      intro t
      cases t with
      | zero => exact h
      | succ t => simpa using ih t
theorem WkMs.len {a b : List AV} (h : WkMs a b) : b.length = a.length := h.F.1
theorem WkMs.get {a b : List AV} (h : WkMs a b) : ∀ (i : Nat) (y y' : AV), a[i]? = some y → b[i]? = some y' → WkM y y' := by
  induction h with
  | nil => intro i y y' h; simp at h
  | cons hh _ ih =>
    intro i y y' h h'
    cases i with
    | zero => simp at h h'; subst h; subst h'; exact hh
    | succ i => exact ih i y y' (by simpa using h) (by simpa using h')
theorem WkMs.refl : ∀ l, WkMs l l
  | [] => .nil
  | a :: l => .cons (.refl a) (WkMs.refl l)
theorem canonF_spec {β : Type} {ρ : Nat → Nat} {b : β} : ∀ (fr : List TV) (ks : List (Nat × SK)) (i : Nat) (k : List TV → Option β), canonF ρ ks i fr k = some b →
    ∃ fr', k fr' = some b ∧ WkMs ((dns fr).map (AV.ren ρ)) (dns fr')
  | [], ks, i, k, h => by unfold canonF at h; exact ⟨[], h, .nil⟩
  | v :: fr, [], i, k, h => by
    unfold canonF at h
    obtain ⟨fr', h1, h2⟩ := canonF_spec fr [] (i + 1) _ h
    exact ⟨_, h1, .cons (.undef _) h2⟩
  | v :: fr, (t, sk) :: ks, i, k, h => by
    unfold canonF at h
    split at h
    · split at h
      · rename_i v' hv
        rw [forceV_eq] at h
        obtain ⟨fr', h1, h2⟩ := canonF_spec fr ks (i + 1) _ h
        exact ⟨_, h1, .cons (conv_spec hv) h2⟩
      · cases h
    · obtain ⟨fr', h1, h2⟩ := canonF_spec fr ((t, sk) :: ks) (i + 1) _ h
      exact ⟨_, h1, .cons (.undef _) h2⟩
def convs {β : Type} (ρ : Nat → Nat) : List SK → List TV → (List TV → Option β) → Option β
  | [], [], k => k []
  | sk :: ks, v :: vs, k => match conv ρ sk v with
    | some v => forceV v fun v => convs ρ ks vs fun vs => k (v :: vs)
    | none => none
  | _, _, _ => none
theorem convs_spec {β : Type} {ρ : Nat → Nat} {b : β} : ∀ (ks : List SK) (vs : List TV) (k : List TV → Option β), convs ρ ks vs k = some b → ∃ vs', k vs' = some b ∧ WkMs ((dns vs).map (AV.ren ρ)) (dns vs')
  | [], [], k, h => ⟨[], h, .nil⟩
  | sk :: ks, v :: vs, k, h => by
    unfold convs at h
    split at h
    · rename_i v' hv
      rw [forceV_eq] at h
      obtain ⟨vs', h1, h2⟩ := convs_spec ks vs _ h
      exact ⟨_, h1, .cons (conv_spec hv) h2⟩
    · cases h
  | [], _ :: _, k, h => by simp [convs] at h
  | _ :: _, [], k, h => by simp [convs] at h
def trenO (ρ : Nat → Nat) : TOb → TOb
  | .cells cs t l => .cells (cs.map (tren ρ)) t l
  | o => o
theorem dnO_tren (ρ : Nat → Nat) (o : TOb) : dnO (trenO ρ o) = renO ρ (dnO o) := by
  cases o with
  | cells cs t l =>
    simp only [trenO, dnO, renO, dns_map, List.map_map]
    congr 1
    apply List.map_congr_left
    intro v _
    exact dn_tren ρ v
  | tarr ty xs t l =>
    simp only [trenO, dnO, renO]
    congr 1
    have : ∀ l : List AV, (∀ a ∈ l, a.mark = none) → l.map (AV.ren ρ) = l := by
      intro l
      induction l with
      | nil => intro _; rfl
      | cons a l ih => intro h; rw [List.map_cons, ren_none ρ (h a (by simp)), ih fun b hb => h b (by simp [hb])]
    exact (this _ (flat_mark xs)).symm
def canonO {β : Type} (ρ : Nat → Nat) (k : Option (List SK)) (o : TOb) (c : TOb → Option β) : Option β := match k with
  | none => match o with
    | .cells cs t l => forceL (cs.map (tren ρ)) fun cs => c (.cells cs t l)
    | o => c o
  | some sk => match o with
    | .cells cs t l => convs ρ sk cs fun cs => c (.cells cs t l)
    | _ => none
theorem canonO_spec {β : Type} {ρ : Nat → Nat} {k : Option (List SK)} {o : TOb} {c : TOb → Option β} {b : β} (h : canonO ρ k o c = some b) : ∃ o', c o' = some b ∧ WkO (renO ρ (dnO o)) (dnO o') := by
  unfold canonO at h
  split at h
  · cases o with
    | cells cs t l =>
      dsimp only at h
      rw [forceL_eq] at h
      exact ⟨trenO ρ (.cells cs t l), h, by rw [dnO_tren]; exact .refl _⟩
    | tarr ty xs t l =>
      exact ⟨trenO ρ (.tarr ty xs t l), h, by rw [dnO_tren]; exact .refl _⟩
  · rename_i sk
    split at h
    · rename_i cs t l
      obtain ⟨vs', h1, h2⟩ := convs_spec sk cs _ h
      refine ⟨_, h1, fun hl => ⟨rfl, hl, ?_, ?_⟩⟩
      · exact h2.len
      · exact h2.get
    · cases h
def lookN {α : Type} : List (Nat × α) → Nat → Option α
  | [], _ => none
  | (a, x) :: l, t => if t = a then some x else lookN l t
/-- the first n0 objects, then those of the list; no others -/
def canonS {β : Type} (ρ : Nat → Nat) (base : List (Nat × List SK)) : (n : Nat) → Nat → List OK → List TOb → (List TOb → Option β) → Option β
  | n + 1, i, ks, o :: s, k => canonO ρ (lookN base i) o fun o => canonS ρ base n (i + 1) ks s fun s => k (o :: s)
  | 0, i, .same :: ks, o :: s, k => canonO ρ none o fun o => canonS ρ base 0 (i + 1) ks s fun s => k (o :: s)
  | 0, i, .cells sk :: ks, o :: s, k => canonO ρ (some sk) o fun o => canonS ρ base 0 (i + 1) ks s fun s => k (o :: s)
  | 0, _, [], _, k => k []
  | _, _, _, [], _ => none
theorem canonS_spec {β : Type} {ρ : Nat → Nat} {base : List (Nat × List SK)} {b : β} : ∀ (s : List TOb) (n i : Nat) (ks : List OK) (k : List TOb → Option β), canonS ρ base n i ks s k = some b →
    ∃ s', k s' = some b ∧ s'.length ≤ s.length ∧ n ≤ s'.length ∧ WkS (((dnS s).map (renO ρ)).take s'.length) (dnS s')
  | [], n, i, ks, k, h => by
    cases n with
    | zero => cases ks with
      | nil => unfold canonS at h; exact ⟨[], h, by simp, by simp, by exact .refl _⟩
      | cons a ks => cases a <;> (unfold canonS at h; cases h)
    | succ n => unfold canonS at h; cases h
  | o :: s, n, i, ks, k, h => by
    have fin : ∀ {kk : Option (List SK)} {n' : Nat} {ks' : List OK}, canonO ρ kk o (fun o => canonS ρ base n' (i + 1) ks' s fun s => k (o :: s)) = some b → ∃ s', k s' = some b ∧ s'.length ≤ (o :: s).length ∧ n' + 1 ≤ s'.length ∧ WkS (((dnS (o :: s)).map (renO ρ)).take s'.length) (dnS s') := by
      intro kk n' ks' h
      obtain ⟨o', h1, h2⟩ := canonO_spec h
      obtain ⟨s', h3, h4, h5, h6⟩ := canonS_spec s n' (i + 1) ks' _ h1
      refine ⟨o' :: s', h3, by simpa using h4, by simpa using h5, ?_⟩
      show WkS (renO ρ (dnO o) :: ((dnS s).map (renO ρ)).take s'.length) (dnO o' :: dnS s')
      refine ⟨by simpa using h6.1, fun j a a' ha ha' => ?_⟩
      cases j with
      | zero => simp at ha ha'; subst ha; subst ha'; exact h2
      | succ j => exact h6.2 j a a' (by simpa using ha) (by simpa using ha')
    cases n with
    | zero => cases ks with
      | nil => unfold canonS at h; exact ⟨[], h, by simp, by simp, by simp; exact .refl _⟩
      | cons a ks =>
        cases a with
        | same =>
          unfold canonS at h
          obtain ⟨s', h1, h2, h3, h4⟩ := fin h
          exact ⟨s', h1, h2, by omega, h4⟩
        | cells sk =>
          unfold canonS at h
          obtain ⟨s', h1, h2, h3, h4⟩ := fin h
          exact ⟨s', h1, h2, by omega, h4⟩
    | succ n => unfold canonS at h; exact fin h
/-! pointers -/
mutual
def tbelow (n : Nat) : TV → Bool
  | .ref i _ => decide (i < n)
  | .arr i _ => decide (i < n)
  | .ap i _ _ _ => decide (i < n)
  | .ll cs _ _ => tbelows n cs
  | .ep cs _ => tbelows n cs
  | .func _ cs => tbelows n cs
  | .agg cs => tbelows n cs
  | .tup cs => tbelows n cs
  | .undef | .int .. | .bool _ | .tt | .ff | .str _ | .nilp | .tl .. | .nilf => true
def tbelows (n : Nat) : List TV → Bool
  | [] => true
  | a :: as => tbelow n a && tbelows n as
end
theorem belows_all {n : Nat} : ∀ {l : List AV}, (∀ a ∈ l, a.refs n = true) → belows n l = true
  | [], _ => rfl
  | a :: l, h => by
    have h1 := h a List.mem_cons_self
    have h2 : belows n l = true := belows_all fun b hb => h b (List.mem_cons_of_mem _ hb)
    simp only [belows, h1, h2, Bool.and_self]
mutual
theorem cellsOf_refs (n : Nat) : ∀ (t : Ty) (x : El t), ∀ a ∈ cellsOf t x, a.refs n = true
  | .int _, _, a, h => by simp only [cellsOf, List.mem_singleton] at h; subst h; rfl
  | .bool, _, a, h => by simp only [cellsOf, List.mem_singleton] at h; subst h; rfl
  | .str, _, a, h => by simp only [cellsOf, List.mem_singleton] at h; subst h; rfl
  | .list e, xs, a, h => by
    simp only [cellsOf, List.mem_singleton] at h
    subst h
    simp only [AV.refs]
    refine belows_all fun b hb => ?_
    obtain ⟨x, _, hx⟩ := List.mem_flatMap.1 hb
    exact cellsOf_refs n e x b hx
  | .st fs, x, a, h => by simp only [cellsOf] at h; exact cellsOfs_refs n fs x a h
theorem cellsOfs_refs (n : Nat) : ∀ (ts : List Ty) (x : Els ts), ∀ a ∈ cellsOfs ts x, a.refs n = true
  | [], _, a, h => by simp [cellsOfs] at h
  | t :: ts, x, a, h => by
    simp only [cellsOfs, List.mem_append] at h
    rcases h with h | h
    · exact cellsOf_refs n t x.1 a h
    · exact cellsOfs_refs n ts x.2 a h
end
theorem flat_refs (n : Nat) {t : Ty} (xs : List (El t)) : belows n (xs.flatMap (cellsOf t)) = true := by
  refine belows_all fun b hb => ?_
  obtain ⟨x, _, hx⟩ := List.mem_flatMap.1 hb
  exact cellsOf_refs n t x b hx
mutual
theorem tbelow_spec {n : Nat} : ∀ (v : TV), tbelow n v = true → (dn v).refs n = true
  | .undef, _ => rfl
  | .int .., _ => rfl
  | .bool _, _ => rfl
  | .tt, _ => rfl
  | .ff, _ => rfl
  | .str _, _ => rfl
  | .nilp, _ => rfl
  | .nilf, _ => rfl
  | .tl t xs g, _ => flat_refs n xs
  | .ref i _, h => by simpa only [tbelow, dn, AV.refs] using h
  | .arr i _, h => by simpa only [tbelow, dn, AV.refs] using h
  | .ap i _ _ _, h => by simpa only [tbelow, dn, AV.refs] using h
  | .ll cs _ _, h => by simp only [tbelow] at h; exact tbelows_spec cs h
  | .ep cs _, h => by simp only [tbelow] at h; exact tbelows_spec cs h
  | .func _ cs, h => by simp only [tbelow] at h; exact tbelows_spec cs h
  | .agg cs, h => by simp only [tbelow] at h; exact tbelows_spec cs h
  | .tup cs, h => by simp only [tbelow] at h; exact tbelows_spec cs h
theorem tbelows_spec {n : Nat} : ∀ (l : List TV), tbelows n l = true → belows n (dns l) = true
  | [], _ => rfl
  | a :: l, h => by
    simp only [tbelows, Bool.and_eq_true] at h
    simp only [dns, belows, tbelow_spec a h.1, tbelows_spec l h.2, Bool.and_self]
end
def sbelow (n : Nat) : List TOb → Bool
  | [] => true
  | .cells cs _ l :: s => (!l || tbelows n cs) && sbelow n s
  | .tarr .. :: s => sbelow n s
theorem sbelow_spec {n : Nat} : ∀ (s : List TOb), sbelow n s = true → (dnS s).all (fun o => !o.live || belows n o.cs) = true
  | [], _ => rfl
  | .cells cs t l :: s, h => by
    simp only [sbelow, Bool.and_eq_true, Bool.or_eq_true] at h
    have ih := sbelow_spec s h.2
    simp only [dnS, List.map_cons, List.all_cons, Bool.and_eq_true, Bool.or_eq_true] at ih ⊢
    refine ⟨?_, ih⟩
    rcases h.1 with h1 | h1
    · exact .inl h1
    · exact .inr (tbelows_spec cs h1)
  | .tarr ty xs t l :: s, h => by
    simp only [sbelow] at h
    have ih := sbelow_spec s h
    simp only [dnS, List.map_cons, List.all_cons, Bool.and_eq_true, Bool.or_eq_true] at ih ⊢
    exact ⟨.inr (flat_refs n xs), ih⟩
/-- which marks get which -/
def marksOf : List (Nat × SK) → List TV → List (Nat × Nat)
  | [], _ => []
  | (t, .own _ m _ _) :: ks, fr => match tmark (fr.getD t .undef) with
    | some m' => (m', m) :: marksOf ks fr
    | none => marksOf ks fr
  | _ :: ks, fr => marksOf ks fr
def marksC : List SK → List TV → List (Nat × Nat)
  | .own _ m _ _ :: ks, v :: vs => match tmark v with
    | some m' => (m', m) :: marksC ks vs
    | none => marksC ks vs
  | _ :: ks, _ :: vs => marksC ks vs
  | _, _ => []
def marksO : List OK → List TOb → List (Nat × Nat)
  | .cells sk :: ks, .cells cs _ _ :: s => marksC sk cs ++ marksO ks s
  | _ :: ks, _ :: s => marksO ks s
  | _, _ => []
def marksB : List (Nat × List SK) → List TOb → List (Nat × Nat)
  | [], _ => []
  | (i, sk) :: l, s => match s[i]? with
    | some (.cells cs _ _) => marksC sk cs ++ marksB l s
    | _ => marksB l s
def canon {β : Type} (n0 : Nat) (lh : LH) (fr : List TV) (s : List TOb) (k : List TV → List TOb → Option β) : Option β :=
  let ρ := rhoOf (marksOf lh.keep fr ++ marksB lh.base s ++ marksO lh.objs (s.drop n0))
  canonF ρ lh.keep 0 fr fun fr => canonS ρ lh.base n0 0 lh.objs s fun s => match tbelows s.length fr && sbelow s.length s with
    | true => k fr s
    | false => none
theorem canon_spec {β : Type} {n0 : Nat} {lh : LH} {fr : List TV} {s : List TOb} {k : List TV → List TOb → Option β} {b : β} (h : canon n0 lh fr s k = some b) :
    ∃ fr' s', k fr' s' = some b ∧ ∀ M G0 w0 a w, G0.n ≤ n0 → Rel M G0 w0 (dns fr) (dnS s) a w → Rel M G0 w0 (dns fr') (dnS s') a w := by
  unfold canon at h
  dsimp only at h
  obtain ⟨fr', h1, h2⟩ := canonF_spec _ _ _ _ h
  obtain ⟨s', h3, h4, h5, h6⟩ := canonS_spec _ _ _ _ _ h1
  split at h3
  · rename_i hb
    rw [Bool.and_eq_true] at hb
    refine ⟨fr', s', h3, fun M G0 w0 a w hn hr => ?_⟩
    have r1 := hr.ren (rhoOf (marksOf lh.keep fr ++ marksB lh.base s ++ marksO lh.objs (s.drop n0)))
    -- the store: first what is kept gets its forms, then the rest goes
    let ρ := rhoOf (marksOf lh.keep fr ++ marksB lh.base s ++ marksO lh.objs (s.drop n0))
    have hw : WkS ((dnS s).map (renO ρ)) (dnS s' ++ ((dnS s).map (renO ρ)).drop s'.length) := by
      have e : (dnS s).map (renO ρ) = ((dnS s).map (renO ρ)).take s'.length ++ ((dnS s).map (renO ρ)).drop s'.length := (List.take_append_drop _ _).symm
      have hl : (((dnS s).map (renO ρ)).take s'.length).length = (dnS s').length := h6.1.symm
      refine ⟨by simp [dnS_length]; omega, fun i o o' ho ho' => ?_⟩
      rw [e] at ho
      rcases Nat.lt_or_ge i (dnS s').length with hi | hi
      · rw [List.getElem?_append_left (by rw [hl]; exact hi)] at ho
        rw [List.getElem?_append_left hi] at ho'
        exact h6.2 i o o' ho ho'
      · rw [List.getElem?_append_right (by rw [hl]; exact hi), hl] at ho
        rw [List.getElem?_append_right hi, ho] at ho'
        cases ho'
        exact .refl _
    obtain ⟨G, g1, g2, g3⟩ := r1
    have r2 : Rel M G0 w0 (dns fr') (dnS s' ++ ((dnS s).map (renO ρ)).drop s'.length) a w := ⟨G, g1, g2.weaken hw, g3.weaken h2.F⟩
    refine r2.cut (n := s'.length) (by omega) (by simp [dnS_length]) ?_ (tbelows_spec _ hb.1)
    unfold cutStore
    have e2 : (dnS s' ++ ((dnS s).map (renO ρ)).drop s'.length).take s'.length = dnS s' := by
      rw [List.take_append_of_le_length (by rw [dnS_length]; exact Nat.le_refl _), List.take_of_length_le (by rw [dnS_length]; exact Nat.le_refl _)]
    rw [e2, if_pos (sbelow_spec _ hb.2)]
  · cases h3
end Go.Proofs.Ytgicljncknbgcaa.Abs
