/- What runOps tells is so. -/
import Derived.Test.YtgicljncknbgcaaTG
namespace Go.Proofs.Ytgicljncknbgcaa.Abs
open Go Go.ChangeShapes Go.WideShapes Go.ChangeAt Go.RowKit
set_option linter.unusedVariables false
set_option linter.unusedSimpArgs false

def CallSound (P : Program) (C : CallT) : Prop := ∀ (f : FuncId) (β : Type) (args : List TV) (s : List TOb) (k : TV → List TOb → Option β) (b : β), C f β args s k = some b →
  enters P f = true ∧ ∃ r s', Ok P f (dns args) (dnS s) (dn r) (dnS s') ∧ k r s' = some b
theorem Ok.weaken {P : Program} {f : FuncId} {args : List AV} {s s' : List Ob} {r r' : AV} (h : Ok P f args s r s') (hw : Wk r r') : Ok P f args s r' s' := by
  intro M G w cargs hS hargs
  refine (h M G w cargs hS hargs).mono ?_
  rintro e w' ⟨v, G', h1, h2, h3⟩
  exact ⟨v, G', h1, hw G' w' v h2, h3⟩
theorem dns_set_same {fr : List TV} {t : Nat} {v : TV} (h : dn (fr.getD t .undef) = dn v) : dns (fr.set t v) = dns fr := by
  rw [dns_set]
  by_cases ht : t < fr.length
  · apply List.ext_getElem?
    intro i
    rw [List.getElem?_set]
    split
    · rename_i hti
      subst hti
      rw [if_pos (by rw [dns_length]; exact ht), dns_get]
      rw [List.getElem?_eq_getElem ht]
      rw [List.getD_eq_getElem?_getD, List.getElem?_eq_getElem ht] at h
      simpa using h.symm
    · rfl
  · rw [List.set_eq_of_length_le (by rw [dns_length]; omega)]
theorem cond_some {β : Type} {g : Bool} {x : Option β} {b : β} (h : cond g x none = some b) : g = true ∧ x = some b := by
  cases g with
  | true => exact ⟨rfl, h⟩
  | false => cases h
theorem argsOf_eq (fr : List TV) (args : List Operand) : (args.map fun y => (aEval (dns fr) y).soft) = dns (args.map fun y => tsoft (tEval fr y)) := by
  rw [show dns (args.map fun y => tsoft (tEval fr y)) = (args.map fun y => tsoft (tEval fr y)).map dn from dns_map _, List.map_map]
  apply List.map_congr_left
  intro y _
  simp [dn_tsoft, dn_tEval]
section
variable {n0 : Nat} {β : Type} {sc : Sc} {cf : Cfg} {b : β}
theorem execT_sound (hC : CallSound sc.P cf.C) {A : Array Oper} {o : Oper} {rest : List Oper} {fr : List TV} {s : List TOb} {k : List TV → List TOb → Option β} (hw : aWanted A (dns fr) o = some true)
    (h : execT sc cf o.dst o.op fr s k = some b) : ∃ fr' s', k fr' s' = some b ∧ ∀ Q, AL n0 sc.P A rest (dns fr') (dnS s') Q → AL n0 sc.P A (o :: rest) (dns fr) (dnS s) Q := by
  have step : ∀ {arr : Bool} {g : Bool} {fr' : List TV} {v : TV} {s' : List TOb}, tStep sc.P sc.wrap 1000 arr fr s o.dst o.op = some (g, fr', v, s') → g = true → k (tPut fr' o.dst v) s' = some b → ∃ fr' s', k fr' s' = some b ∧ ∀ Q, AL n0 sc.P A rest (dns fr') (dnS s') Q → AL n0 sc.P A (o :: rest) (dns fr) (dnS s) Q := by
    intro arr g fr' v s' h1 h2 h3
    refine ⟨_, _, h3, fun Q this => ?_⟩
    rw [dns_tPut] at this
    exact AL_step hw (tStep_spec h1 h2) this
  have viaStep : ∀ {arr : Bool}, (match tStep sc.P sc.wrap 1000 arr fr s o.dst o.op with
      | some (g, fr', v, s') => cond g (putK fr' o.dst v fun fr => forceS s' fun s => k fr s) none
      | none => none) = some b → ∃ fr' s', k fr' s' = some b ∧ ∀ Q, AL n0 sc.P A rest (dns fr') (dnS s') Q → AL n0 sc.P A (o :: rest) (dns fr) (dnS s) Q := by
    intro arr h
    split at h
    · rename_i g fr' v s' h1
      obtain ⟨h2, h3⟩ := cond_some h
      simp only [putK_eq, forceS_eq] at h3
      exact step h1 h2 h3
    · cases h
  have viaStep2 : ∀ {arr : Bool}, (match tStep sc.P sc.wrap 1000 arr fr s o.dst o.op with
      | some (g, fr', v, s') => cond g (forceL fr' fun fr => putK fr o.dst v fun fr => forceS s' fun s => k fr s) none
      | none => none) = some b → ∃ fr' s', k fr' s' = some b ∧ ∀ Q, AL n0 sc.P A rest (dns fr') (dnS s') Q → AL n0 sc.P A (o :: rest) (dns fr) (dnS s) Q := by
    intro arr h
    split at h
    · rename_i g fr' v s' h1
      obtain ⟨h2, h3⟩ := cond_some h
      simp only [putK_eq, forceS_eq, forceL_eq] at h3
      exact step h1 h2 h3
    · cases h
  obtain ⟨dst, op, type, pos, after, guard⟩ := o
  unfold execT at h
  dsimp only at h
  split at h
  · rename_i c x y
    have pick : ∀ {t : Bool} {fr2 : List TV} {z : Operand}, dns fr2 = dns fr → aEval (dns fr) c = .bool t → z = (if t = true then x else y) → k (tPut fr2 dst (tEval fr2 z)) s = some b → ∃ fr' s', k fr' s' = some b ∧ ∀ Q, AL n0 sc.P A rest (dns fr') (dnS s') Q → AL n0 sc.P A (⟨dst, .pick c x y, type, pos, after, guard⟩ :: rest) (dns fr) (dnS s) Q := by
      intro t fr2 z h1 h2 h3 h4
      refine ⟨_, _, h4, fun Q h5 => ?_⟩
      rw [dns_tPut, dn_tEval, h1] at h5
      refine AL_step hw (Step_pure (v := aEval (dns fr) z) ?_) h5
      simp only [aPureV, h2]
      subst h3
      cases t <;> rfl
    split at h
    · rename_i hc
      rw [putK_eq] at h
      exact pick (t := true) rfl (by rw [← dn_tEval, hc]; rfl) rfl h
    · rename_i hc
      rw [putK_eq] at h
      exact pick (t := false) rfl (by rw [← dn_tEval, hc]; rfl) rfl h
    · rename_i t hc
      split at h
      · rename_i ct
        have hc' : fr.getD ct .undef = .bool t := hc
        simp only [setK_eq, putK_eq] at h
        cases t with
        | true => exact pick (t := true) (dns_set_same (by rw [hc']; rfl)) (by rw [← dn_tEval, hc]; rfl) rfl h
        | false => exact pick (t := false) (dns_set_same (by rw [hc']; rfl)) (by rw [← dn_tEval, hc]; rfl) rfl h
      · cases h
    · cases h
  · rename_i c
    split at h
    · rename_i x hx
      split at h
      · rename_i f fcs hf
        rw [forceL_eq] at h
        have hf' : aEval (dns fr) x = .func (.func f) (dns fcs) := by rw [← dn_tEval, hf]; rfl
        have hargs : dns ((c.args.toList.map fun y => tsoft (tEval fr y)) ++ fcs) = (c.args.toList.map fun y => (aEval (dns fr) y).soft) ++ dns fcs := by rw [dns_app, ← argsOf_eq]
        have general : (cf.C f β ((c.args.toList.map fun y => tsoft (tEval fr y)) ++ fcs) s fun r s' => clearK (tmarks s) fr fun fr => putK fr dst (tplain r) fun fr => k fr s') = some b → ∃ fr' s', k fr' s' = some b ∧ ∀ Q, AL n0 sc.P A rest (dns fr') (dnS s') Q → AL n0 sc.P A (⟨dst, .call c, type, pos, after, guard⟩ :: rest) (dns fr) (dnS s) Q := by
          intro h
          obtain ⟨hen, r, s', hok, hk'⟩ := hC f β _ s _ b h
          simp only [clearK_eq, putK_eq] at hk'
          refine ⟨_, _, hk', fun Q h5 => ?_⟩
          rw [dns_tPut, dns_tclears, dn_tplain, ← dnS_marks] at h5
          rw [hargs] at hok
          exact AL_step hw (Step_call rfl hx hf' hen (hok.weaken (AV.plain_wk _)) (AV.mark_plain _)) h5
        split at h
        · rename_i hfree
          obtain ⟨hen, r, s', hok, hk'⟩ := hC f β _ [] _ b h
          split at hk'
          · rename_i hr
            rw [putK_eq] at hk'
            refine ⟨_, _, hk', fun Q h5 => ?_⟩
            rw [dns_tPut, dn_tplain] at h5
            have hfa := tfrees_spec _ hfree
            rw [hargs] at hok hfa
            exact AL_step hw (Step_callP rfl hx hf' hen (hok.weaken (AV.plain_wk _)) hfa (free_plain (tfree_spec r hr)) (AV.mark_plain _)) h5
          · exact general hk'
        · split at h
          · rw [forceL_eq] at h
            split at h
            · rename_i hfree
              obtain ⟨hen, r, s', hok, hk'⟩ := hC f β _ [] _ b h
              split at hk'
              · rename_i hr
                rw [putK_eq] at hk'
                refine ⟨_, _, hk', fun Q h5 => ?_⟩
                rw [dns_tPut, dn_tplain] at h5
                refine AL_step hw (fun M G w a hF hS hf K Q hK => ?_) h5
                refine CallR_wp rfl hx hf' hen hok (fun cv hcv => ?_) (tflat_spec r hr) hS hf K Q fun v G' w' k1 k2 k3 => hK v G' w' (k2.mono fun _ _ => False.elim) (k3 _ hS) (hf.grow k2) (VR.plain k1)
                rw [← hargs] at hcv
                exact snaps_spec hS 4 _ cv hfree hcv
              · cases hk'
            · cases h
          · exact general h
      · cases h
    · exact viaStep2 h
  · exact viaStep h
/-- just this -/
def Ex (e1 : Exit) (F : List TV) (S : List TOb) : AQ := fun e fr s => e = e1 ∧ fr = dns F ∧ s = dnS S
theorem runOps_sound (hC : CallSound sc.P cf.C) {A : Array Oper} : ∀ (l : List Oper) (fr : List TV) (s : List TOb) (k : List TV → List TOb → Option β), runOps sc cf A l fr s k = some b →
    ∃ F S, k F S = some b ∧ AL n0 sc.P A l (dns fr) (dnS s) (Ex .normal F S)
  | [], fr, s, k, h => ⟨fr, s, h, AL_nil ⟨rfl, rfl, rfl⟩⟩
  | o :: l, fr, s, k, h => by
    have go : ∀ {fr s}, aWanted A (dns fr) o = some true → (execT sc cf o.dst o.op fr s fun fr s => runOps sc cf A l fr s k) = some b → ∃ F S, k F S = some b ∧ AL n0 sc.P A (o :: l) (dns fr) (dnS s) (Ex .normal F S) := by
      intro fr s hw h
      obtain ⟨fr', s', h1, h2⟩ := execT_sound hC hw h
      obtain ⟨F, S, h3, h4⟩ := runOps_sound hC l fr' s' k h1
      exact ⟨F, S, h3, h2 _ h4⟩
    have skip : ∀ {fr s}, aWanted A (dns fr) o = some false → (putK fr o.dst (.tup []) fun fr => runOps sc cf A l fr s k) = some b → ∃ F S, k F S = some b ∧ AL n0 sc.P A (o :: l) (dns fr) (dnS s) (Ex .normal F S) := by
      intro fr s hw h
      rw [putK_eq] at h
      obtain ⟨F, S, h3, h4⟩ := runOps_sound hC l _ s k h
      rw [dns_tPut] at h4
      exact ⟨F, S, h3, AL_skip hw h4⟩
    unfold runOps at h
    split at h
    · rename_i hg
      exact go (by unfold aWanted; rw [hg]) h
    · rename_i g want hg
      split at h
      · cases h
      · rename_i t ht
        have wanted : ∀ {fr : List TV} {v : Bool}, dn (fr.getD t .undef) = .bool v → aWanted A (dns fr) o = some (v == want) := by
          intro fr v hv
          unfold aWanted
          rw [hg]
          dsimp only
          rw [show (A[g]?).bind (·.dst) = some t from ht]
          dsimp only
          rw [dns_getD, hv]
        have nowant : ∀ {fr : List TV}, dn (fr.getD t .undef) = .tuple [] → aWanted A (dns fr) o = some false := by
          intro fr hv
          unfold aWanted
          rw [hg]
          dsimp only
          rw [show (A[g]?).bind (·.dst) = some t from ht]
          dsimp only
          rw [dns_getD, hv]
        split at h
        · rename_i hv
          have hw := wanted (fr := fr) (v := true) (by rw [hv]; rfl)
          split at h
          · rename_i hwt; subst hwt; exact go hw h
          · rename_i hwt
            have : want = false := by simpa using hwt
            subst this
            exact skip hw h
        · rename_i hv
          have hw := wanted (fr := fr) (v := false) (by rw [hv]; rfl)
          split at h
          · rename_i hwt; subst hwt; exact skip hw h
          · rename_i hwt
            have : want = false := by simpa using hwt
            subst this
            exact go hw h
        · rename_i hv
          exact skip (nowant (by rw [hv]; rfl)) h
        · rename_i v hv
          have hsame : ∀ {u : TV}, dn u = .bool v → dns (fr.set t u) = dns fr := fun hu => dns_set_same (by rw [hv, hu]; rfl)
          have hw := wanted (fr := fr) (v := v) (by rw [hv]; rfl)
          simp only [setK_eq] at h
          cases v with
          | true =>
            simp only [cond_true] at h
            rw [← hsame (u := .tt) rfl] at hw ⊢
            split at h
            · rename_i hwt; subst hwt; exact go hw h
            · rename_i hwt
              have : want = false := by simpa using hwt
              subst this
              exact skip hw h
          | false =>
            simp only [cond_false] at h
            rw [← hsame (u := .ff) rfl] at hw ⊢
            split at h
            · rename_i hwt; subst hwt; exact skip hw h
            · rename_i hwt
              have : want = false := by simpa using hwt
              subst this
              exact go hw h
        · cases h
end
end Go.Proofs.Ytgicljncknbgcaa.Abs
