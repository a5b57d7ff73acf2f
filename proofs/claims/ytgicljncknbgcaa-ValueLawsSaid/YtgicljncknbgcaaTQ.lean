/- Regions whose order is open: the reckoning is sound. -/
import Derived.Test.YtgicljncknbgcaaTP
namespace Go.Proofs.Ytgicljncknbgcaa.Abs
open Go Go.ChangeShapes Go.WideShapes Go.ChangeAt Go.RowKit
set_option linter.unusedVariables false
set_option linter.unusedSimpArgs false
section
variable {β : Type} {sc : Sc} {cf : Cfg} {b : β}
theorem tclear_bool {ts : List Nat} {v : TV} {t : Bool} (h : tclear ts v = .bool t) : v = .bool t := by
  cases v <;> simp only [tclear, tmark] at h <;> try exact h
  all_goals
    rename_i g
    cases g <;> simp only [tmark] at h <;> (try split at h) <;> simp [tplain] at h
theorem tclears_getD (ts : List Nat) (fr : List TV) (t : Nat) : (tclears ts fr).getD t .undef = tclear ts (fr.getD t .undef) := by
  unfold tclears
  rw [List.getD_eq_getElem?_getD, List.getElem?_map, List.getD_eq_getElem?_getD]
  cases fr[t]? with
  | none => rfl
  | some x => rfl
theorem execH3_sound (hC : CallSound sc.P cf.C) {A : Array Oper} {o : Oper} {frv fr : List TV} {sv : List TOb} {k : List TV → TV → Option β} (hfr : ∀ (ct : Nat) (t : Bool), frv.getD ct .undef = .bool t → dn (fr.getD ct .undef) = .bool t)
    (h : execH3 sc cf o.op frv sv fr k = some b) : ∃ fr' v, k fr' v = some b ∧ dns fr' = dns fr ∧ HPure sc.P A o (dns frv) (dnS sv) (dn v) := by
  have viaPure : (match tPure sc.P sc.wrap frv sv o.op with
      | some (g, v) => cond g (k fr v) none
      | none => none) = some b → ∃ fr' v, k fr' v = some b ∧ dns fr' = dns fr ∧ HPure sc.P A o (dns frv) (dnS sv) (dn v) := by
    intro h
    split at h
    · rename_i g v h1
      obtain ⟨h2, h3⟩ := cond_some h
      obtain ⟨a, h4, h5⟩ := tPure_spec h1 h2
      exact ⟨fr, v, h3, rfl, (HPure_pure (A := A) h4).weaken h5⟩
    · cases h
  obtain ⟨dst, op, type, pos, after, guard⟩ := o
  unfold execH3 at h
  dsimp only at h
  split at h
  · rename_i c x y
    have pick : ∀ {t : Bool} {fr2 : List TV} {z : Operand}, dns fr2 = dns fr → aEval (dns frv) c = .bool t → z = (if t = true then x else y) → k fr2 (tEval frv z) = some b →
        ∃ fr' v, k fr' v = some b ∧ dns fr' = dns fr ∧ HPure sc.P A ⟨dst, .pick c x y, type, pos, after, guard⟩ (dns frv) (dnS sv) (dn v) := by
      intro t fr2 z h1 h2 h3 h4
      refine ⟨fr2, _, h4, h1, HPure_pure ?_⟩
      rw [dn_tEval]
      simp only [aPureV, h2]
      subst h3
      cases t <;> rfl
    split at h
    · rename_i hc
      exact pick (t := true) rfl (by rw [← dn_tEval, hc]; rfl) rfl h
    · rename_i hc
      exact pick (t := false) rfl (by rw [← dn_tEval, hc]; rfl) rfl h
    · rename_i t hc
      split at h
      · rename_i ct
        have hc' : dn (fr.getD ct .undef) = .bool t := hfr ct t hc
        simp only [setK_eq] at h
        cases t with
        | true => exact pick (t := true) (dns_set_same (by rw [hc']; rfl)) (by rw [← dn_tEval, hc]; rfl) rfl h
        | false => exact pick (t := false) (dns_set_same (by rw [hc']; rfl)) (by rw [← dn_tEval, hc]; rfl) rfl h
      · cases h
    · cases h
  · rename_i c
    split at h
    · rename_i x hc
      split at h
      · rename_i f fcs hf
        rw [forceL_eq] at h
        have hf' : aEval (dns frv) x = .func (.func f) (dns fcs) := by rw [← dn_tEval, hf]; rfl
        have hargs : dns ((c.args.toList.map fun y => tsoft (tEval frv y)) ++ fcs) = (c.args.toList.map fun y => (aEval (dns frv) y).soft) ++ dns fcs := by rw [dns_app, ← argsOf_eq]
        split at h
        · rename_i hfree
          obtain ⟨hen, r, s', hok, hk'⟩ := hC f β _ [] _ b h
          split at hk'
          · rename_i hr
            have hfa := tfrees_spec _ hfree
            rw [hargs] at hok hfa
            refine ⟨fr, _, hk', rfl, ?_⟩
            rw [dn_tplain]
            exact HPure_callP rfl hc hf' hen (hok.weaken (AV.plain_wk _)) hfa (free_plain (tfree_spec r hr)) (AV.mark_plain _)
          · cases hk'
        · rw [forceL_eq] at h
          split at h
          · rename_i hfree
            obtain ⟨hen, r, s', hok, hk'⟩ := hC f β _ [] _ b h
            split at hk'
            · rename_i hr
              refine ⟨fr, _, hk', rfl, ?_⟩
              rw [dn_tplain]
              refine HPure_callR rfl hc hf' hen (hok.weaken (AV.plain_wk _)) (fun M G w cv hS hcv => ?_) (flat_plain (tflat_spec r hr)) (AV.mark_plain _)
              rw [← hargs] at hcv
              exact snaps_spec hS 4 _ cv hfree hcv
            · cases hk'
          · cases h
      · cases h
    · exact viaPure h
  · exact viaPure h
theorem HApp.more {P : Program} {A : Array Oper} {o : Oper} {fr : List AV} {v : AV} (h : HApp P A o fr [] v) (ts : List Nat) : HApp P A o fr ts v :=
  fun M G w a s hF hS hf K Q hK => h M G w a s hF hS hf K Q fun cv G' w' h1 h2 h3 => hK cv G' w' (h1.mono fun _ _ h => absurd h.2 (by simp)) (by rw [clearStore_nil] at h2; exact h2.weaken (clearStore_wk _ _)) h3
theorem HApp_none {P : Program} {A : Array Oper} {o : Oper} {fr : List AV} {c : Call} {x y : Operand} {t e : TypeId} {cs : List AV} {n size : Nat} {g g2 : Tag} (ho : o.op = .call c) (hc : c.callee = .builtin .append) (ha : c.args = #[x, y]) (ht : c.argTypes = #[t, t]) (he : aElem P t = some (e, size))
    (hx : aEval fr x = .list cs n g) (hy : aEval fr y = .list [] 0 g2) : HApp P A o fr [] (.list cs n g) := by
  intro M G w a s hF hS hf K Q hK
  have hm : ∀ z, z = x ∨ z = y → aEval (aForget (readsOf A o) fr) z = aEval fr z := fun z hz => aEval_forget (by simp [ho, Op.operands, Call.operands, ha]; rcases hz with rfl | rfl <;> simp)
  obtain ⟨cv, h1, h2⟩ := Step_append_none (s := s) ho hc ha ht he ((hm x (.inl rfl)).trans hx) ((hm y (.inr rfl)).trans hy) M G w a hS hf
  unfold Oper.wp
  rw [h1, Oper.upon_value]
  exact hK cv G w (Ext.refl _ _ _) (by rw [clearStore_nil]; exact hS) (by rw [hm x (.inl rfl), hx] at h2; exact h2)
theorem Sim.reTag {M : Nat → Prop} {G : Gh} {s : List Ob} {w : World} (h : Sim M G s w) (M2 : Nat → Prop) (ρ : Nat → Nat) (hk : ∀ (i : Nat) (o : Ob), s[i]? = some o → ∀ a ∈ o.cs, ∀ t, a.mark = some t → ∀ g, M2 g → G.tg g ≠ t) : Sim M (G.ren M2 ρ) s w := by
  refine ⟨h.n, h.inj, h.own, h.live, h.lt, fun i o hi hl => ?_⟩
  obtain ⟨vs, h1, h2, h3⟩ := h.at_ i o hi hl
  refine ⟨vs, h1, h2, fun k a v ha hv => ⟨VR0.mono (Ext.ren G w M2 ρ) a v (h3 k a v ha hv).1, ?_⟩⟩
  have ho := (h3 k a v ha hv).2
  cases a with
  | list cs n g =>
    cases g with
    | own t e z =>
      simp only [OwnC] at ho ⊢
      rcases ho with ho | ⟨q, cap, cur, k1, k2, k3, k4, k5, k6, k7⟩
      · exact .inl ho
      · refine .inr ⟨q, cap, cur, k1, k2, k3, k4, k5, ?_, k7⟩
        simp only [Gh.ren]
        rw [if_neg fun hh => hk i o hi _ (List.mem_of_getElem? ha) t rfl q hh k6]
        exact k6
    | _ => exact OwnC.of_plain rfl
  | _ => exact OwnC.of_plain rfl
/-- a row by another mark -/
theorem HApp_none_ren {P : Program} {A : Array Oper} {o : Oper} {fr : List AV} {c : Call} {x y : Operand} {t e : TypeId} {cs : List AV} {n size m : Nat} {g g2 : Tag} (d : Nat) (ho : o.op = .call c) (hc : c.callee = .builtin .append) (ha : c.args = #[x, y]) (ht : c.argTypes = #[t, t]) (he : aElem P t = some (e, size))
    (hx : aEval fr x = .list cs n g) (hy : aEval fr y = .list [] 0 g2) (hmk : ∀ q, (AV.list cs n g).mark = some q → q = m) : HApp P A o fr [m] ((AV.list cs n g).ren fun _ => d) := by
  intro M G w a s hF hS hf K Q hK
  have hm : ∀ z, z = x ∨ z = y → aEval (aForget (readsOf A o) fr) z = aEval fr z := fun z hz => aEval_forget (by simp [ho, Op.operands, Call.operands, ha]; rcases hz with rfl | rfl <;> simp)
  obtain ⟨cv, h1, h2⟩ := Step_append_none (s := s) ho hc ha ht he ((hm x (.inl rfl)).trans hx) ((hm y (.inr rfl)).trans hy) M G w a hS hf
  rw [hm x (.inl rfl), hx] at h2
  unfold Oper.wp
  rw [h1, Oper.upon_value]
  have hE := Ext.ren G w (fun b => M b ∧ G.tg b ∈ [m]) (fun _ => d)
  refine hK cv (G.ren (fun b => M b ∧ G.tg b ∈ [m]) fun _ => d) w hE ?_ ?_
  · refine (hS.weaken (clearStore_wk [m] s)).reTag _ _ fun i o hi b hb q hq g hg => ?_
    unfold clearStore at hi
    rw [List.getElem?_map] at hi
    obtain ⟨o0, _, rfl⟩ := map_some_eq hi
    obtain ⟨b0, _, rfl⟩ := List.mem_map.1 hb
    have h4 := clearMark_mark hq
    intro h5
    rw [← h5] at h4
    simp only [List.contains_eq_mem, decide_eq_false_iff_not] at h4
    exact h4 hg.2
  · have h3 := h2.2
    refine ⟨VR0.mono hE _ _ ?_, ?_⟩
    · have h4 := h2.1
      cases g with
      | own t0 e0 z0 =>
        simp only [AV.ren, VR0] at h4 ⊢
        obtain ⟨A, cap, k1, k2, _, k4⟩ := h4
        exact ⟨A, cap, k1, k2, (fun h => by cases h), k4⟩
      | _ => exact h4
    cases g with
    | own t0 e0 z0 =>
      have := hmk t0 rfl
      subst this
      simp only [AV.ren, OwnC] at h3 ⊢
      rcases h3 with h3 | ⟨q, cap, cur, k1, k2, k3, k4, k5, k6, k7⟩
      · exact .inl h3
      · exact .inr ⟨q, cap, cur, k1, k2, k3, k4, k5, by simp only [Gh.ren]; rw [if_pos ⟨k2, by simp [k6]⟩], k7⟩
    | _ => exact OwnC.of_plain rfl
theorem dn_retag (d : Nat) (v : TV) : dn (tren (fun _ => d) v) = (dn v).ren fun _ => d := dn_tren _ v
theorem tAppend_app {P : Program} {A : Array Oper} {o : Oper} {fr fr' : List TV} {s s' : List TOb} {c : Call} {x y : Operand} {t : TypeId} {d d2 m : Nat} {g : Bool} {v : TV} (ho : o.op = .call c) (hc : c.callee = .builtin .append) (ha : c.args = #[x, y]) (ht : c.argTypes = #[t, t])
    (h : tAppend P d fr s t (tEval fr x) (tEval fr y) = some (g, fr', v, s')) (hg : gdP g) (hm : tmark v = some m) : HApp P A o (dns fr) [m] (dn (tren (fun _ => d2) v)) := by
  unfold tAppend at h
  split at h
  · cases h
  rename_i e size he
  split at h
  · rename_i gy hy
    have hy' : aEval (dns fr) y = .list [] 0 gy := by rw [← dn_tEval, hy]; rfl
    split at h
    · rename_i ty xs gx hx
      cases h
      have hx' : aEval (dns fr) x = .list (xs.flatMap (cellsOf ty)) xs.length gx := by rw [← dn_tEval, hx]; rfl
      rw [hx] at hm ⊢
      rw [dn_retag]
      exact HApp_none_ren d2 ho hc ha ht he hx' hy' fun q hq => by
        have e : (dn (.tl ty xs gx)).mark = some q := hq
        rw [dn_mark, hm] at e
        exact (Option.some.inj e).symm
    · rename_i gx hx
      cases h
      have hx' : aEval (dns fr) x = .list [] 0 gx := by rw [← dn_tEval, hx]; rfl
      rw [hx] at hm ⊢
      rw [dn_retag]
      exact HApp_none_ren d2 ho hc ha ht he hx' hy' fun q hq => by
        have e : (dn (.ll [] 0 gx)).mark = some q := hq
        rw [dn_mark, hm] at e
        exact (Option.some.inj e).symm
    · cases h
  · rename_i ty ys gy hy
    have hy' : aEval (dns fr) y = .list (ys.flatMap (cellsOf ty)) ys.length gy := by rw [← dn_tEval, hy]; rfl
    split at h
    · rename_i hcnd
      obtain ⟨hs, h0⟩ := hcnd
      split at h
      · rename_i xs t0 hown
        cases h
        have ht0 : t0 = m := by simpa [tmark] using hm
        subst ht0
        have hfit := fits_of h0 (by simpa only [gdP, fits_iff] using hg)
        obtain ⟨xv, hxv⟩ : ∃ xv, tEval fr x = xv := ⟨_, rfl⟩
        have hx' : aEval (dns fr) x = dn xv := by rw [← dn_tEval, hxv]
        rw [hxv] at hown
        have own : ∀ {zs : List (El ty)}, aEval (dns fr) x = .list (zs.flatMap (cellsOf ty)) zs.length (.own t0 e size) → fitsB P e size (zs.length + ys.length) = true → HApp P A o (dns fr) [t0] (dn (tren (fun _ => d2) (.tl ty (zs ++ ys) (.own t0 e size)))) := by
          intro zs hx2 hfit
          show HApp P A o (dns fr) [t0] (.list ((zs ++ ys).flatMap (cellsOf ty)) (zs ++ ys).length (.own d2 e size))
          rw [List.flatMap_append, List.length_append]
          rcases Nat.eq_zero_or_pos ys.length with hz | hz
          · have hnil := List.eq_nil_of_length_eq_zero hz
            subst hnil
            have := HApp_none_ren (A := A) (m := t0) d2 ho hc ha ht he hx2 hy' fun q hq => (Option.some.inj hq).symm
            rw [List.flatMap_nil, List.append_nil]
            exact this
          · exact HApp_own d2 ho hc ha ht he hx2 hy' hz (by rw [flat_len, hs]) (flat_one ys) hfit
        have full : ∀ {zs : List (El ty)}, aEval (dns fr) x = .list (zs.flatMap (cellsOf ty)) zs.length .full → fitsB P e size (zs.length + ys.length) = true → HApp P A o (dns fr) [t0] (dn (tren (fun _ => d2) (.tl ty (zs ++ ys) (.own t0 e size)))) := by
          intro zs hx2 hfit
          show HApp P A o (dns fr) [t0] (.list ((zs ++ ys).flatMap (cellsOf ty)) (zs ++ ys).length (.own d2 e size))
          rw [List.flatMap_append, List.length_append]
          rcases Nat.eq_zero_or_pos ys.length with hz | hz
          · have hnil := List.eq_nil_of_length_eq_zero hz
            subst hnil
            have := ((HApp_none (A := A) ho hc ha ht he hx2 hy').more [t0]).weaken (WkM.full (t := d2) (e := e) (z := size) (by rw [flat_len, hs]))
            rw [List.flatMap_nil, List.append_nil]
            exact this
          · exact (HApp_full d2 ho hc ha ht he hx2 hy' hz (by rw [flat_len, hs]) (by rw [flat_len, hs]) (flat_one ys) hfit).more _
        unfold tOwned at hown
        split at hown
        · split at hown
          · rename_i hc2
            obtain ⟨rfl, rfl⟩ := hc2
            obtain ⟨zs, h1, h2⟩ := map_some_eq hown
            cases h2
            obtain ⟨e1, rfl⟩ := castTo_some h1
            subst e1
            exact own hx' hfit
          · cases hown
        · obtain ⟨zs, h1, h2⟩ := map_some_eq hown
          cases h2
          obtain ⟨e1, rfl⟩ := castTo_some h1
          subst e1
          exact full hx' hfit
        · cases hown
          exact full (zs := []) hx' hfit
        · split at hown
          · rename_i hc2
            obtain ⟨rfl, rfl⟩ := hc2
            cases hown
            exact own (zs := []) hx' hfit
          · cases hown
        · cases hown
      · cases h
    · cases h
  · cases h
theorem HStore_of {P : Program} {A : Array Oper} {o : Oper} {fr : List TV} {sv s' : List TOb} {t : TypeId} {x y : Operand} {g : Bool} {idx : Nat} (ho : o.op = .store t x y) (h : tStoreAt P sv t (tEval fr x) (tEval fr y) = some (g, s')) (hg : gdP g) (ht : tgtOf (tEval fr x) = some idx) (hi : idx < s'.length) :
    HStore P A o (dns fr) (dnS sv) idx (dnO (obAt s' idx)) := by
  have hm : ∀ z, z = x ∨ z = y → aEval (aForget (readsOf A o) (dns fr)) z = dn (tEval fr z) := fun z hz => by
    rw [aEval_forget (by simp [ho, Op.operands]; rcases hz with rfl | rfl <;> simp), dn_tEval]
  obtain ⟨idx', h1, h2⟩ := tStoreAt_core ho (hm x (.inl rfl)) (hm y (.inr rfl)) h hg
  rw [ht] at h1
  cases h1
  intro M G w a hS hf
  obtain ⟨w', k1, k2, k3, k4, k5, k6⟩ := h2 M G w a hS hf
  exact ⟨w', k1, k2, k3, k4, k5, _, k6, by rw [dnS_get, obAt_eq _ _ hi]; rfl⟩
theorem putB_some {γ : Type} {nb : Nat} {fr : List TV} {d : Option Nat} {v : TV} {k : List TV → Option γ} {c : γ} (h : putB nb fr d v k = some c) : tbelow nb v = true ∧ k (tPut fr d v) = some c := by
  unfold putB at h
  rw [forceV_eq] at h
  split at h
  · rename_i hb; rw [putK_eq] at h; exact ⟨hb, h⟩
  · cases h
def updV {α : Type} (f : Nat → α) (i : Nat) (x : α) : Nat → α := fun j => if j = i then x else f j
theorem updV_same {α : Type} (f : Nat → α) (i : Nat) (x : α) : updV f i x i = x := by simp [updV]
theorem updV_lt {α : Type} {f : Nat → α} {i j : Nat} {x : α} (h : j < i) : updV f i x j = f j := by simp [updV, Nat.ne_of_lt h]
def mm (nb n0 : Nat) : HW → TW → Prop
  | .alloc idx cs t, .alloc r => idx = nb + r
  | .store idx ob, .store o i => idx = idxOf nb n0 (.store o i)
  | .app ts, .app t0 => ts = [t0]
  | _, _ => False
theorem Mt_some {nb n0 j : Nat} {ws : List (Nat × TW)} {W : HW} (hm : Mt nb n0 ws j (some W)) : ∃ w, (j, w) ∈ ws ∧ mm nb n0 W w := by
  unfold Mt at hm
  cases hlk : lookN ws j with
  | none => rw [hlk] at hm; cases hm
  | some w =>
    rw [hlk] at hm
    refine ⟨w, lookN_mem hlk, ?_⟩
    cases w with
    | alloc r => obtain ⟨cs, t, e⟩ := hm; cases e; rfl
    | store o i => obtain ⟨ob, e⟩ := hm; cases e; rfl
    | app t0 => cases hm; rfl
theorem wsOK_pair {A : Array Oper} {n nb n0 j i : Nat} {ws : List (Nat × TW)} {w w' : TW} (hws : wsOK A n nb n0 ws = true) (h1 : (j, w) ∈ ws) (h2 : (i, w') ∈ ws) : wsPair nb n0 A j i w w' = true := by
  have := List.all_eq_true.1 hws _ h1
  rw [Bool.and_eq_true] at this
  exact List.all_eq_true.1 this.2 _ h2
theorem head3_sound (hC : CallSound sc.P cf.C) {hd : HDat} {A : Array Oper} {nb : Nat} {s0 : List Ob} {fr0 : List AV} {k : List TV → List TOb → Option β} {L : Nat} (hok : drawOK A hd.n L = true) (hws : wsOK A hd.n nb cf.n0 hd.ws = true) (hnb : nb = s0.length) :
    ∀ (l : List Oper) (i : Nat) (val : Nat → AV) (wr : Nat → Option HW) (fr : List TV) (s : List TOb), (∀ j, l[j]? = if j < l.length then A[i + j]? else none) → i + l.length = hd.n →
      dns fr = frAt A fr0 val i → dnS s = SR wr s0 hd.K hd.n (ltL i) hd.n → (∀ j, j < i → ∀ o, A[j]? = some o → PF sc.P A hd.n nb cf.n0 hd.K s0 hd.ws fr0 j o val wr) → (∀ j, i ≤ j → wr j = none) →
      head3 sc cf hd A nb cf.n0 l i fr s k = some b →
      ∃ val' wr' F S, k F S = some b ∧ dns F = frAt A fr0 val' hd.n ∧ dnS S = SR wr' s0 hd.K hd.n (ltL hd.n) hd.n ∧ (∀ j, j < hd.n → ∀ o, A[j]? = some o → PF sc.P A hd.n nb cf.n0 hd.K s0 hd.ws fr0 j o val' wr') ∧ (∀ j, hd.n ≤ j → wr' j = none)
  | [], i, val, wr, fr, s, hl, hin, hf, hs, hpf, hwr, h => by
    have e : i = hd.n := by simpa using hin
    subst e
    exact ⟨val, wr, fr, s, h, hf, hs, hpf, hwr⟩
  | o :: l, i, val, wr, fr, s, hl, hin, hf, hs, hpf, hwr, h => by
    have ho : A[i]? = some o := by simpa using (hl 0).symm
    have hl' : ∀ j, l[j]? = if j < l.length then A[i + 1 + j]? else none := fun j => by
      have := hl (j + 1)
      simpa [Nat.add_assoc, Nat.add_comm 1 j] using this
    have hin' : i + 1 + l.length = hd.n := by rw [← hin, List.length_cons]; omega
    have hilt : i < hd.n := by omega
    have hAsz : i < A.size := (Array.getElem?_eq_some_iff.1 ho).1
    simp only [head3, clearK_eq] at h
    obtain ⟨frv, hfrv⟩ : ∃ frv, frv = tclears (tsOf A i hd.ws) fr := ⟨_, rfl⟩
    rw [← hfrv] at h
    obtain ⟨sv, hsv, hmk⟩ := mskK_eq (deadOf nb cf.n0 A i hd.ws) (tsOf A i hd.ws) s
    rw [hmk] at h
    have efr : dns frv = frV A hd.ws fr0 val i := by rw [hfrv, dns_tclears, hf]; rfl
    have esv : dnS sv = svV A hd.n nb cf.n0 hd.K s0 hd.ws wr i := by rw [hsv, hs]; rfl
    -- one operation more
    have more : ∀ (v : AV) (W : Option HW) (fr2 : List TV) (s2 : List TOb), dns fr2 = aPut (dns fr) o.dst v → dnS s2 = SR (updV wr i W) s0 hd.K hd.n (ltL (i + 1)) hd.n →
        PF sc.P A hd.n nb cf.n0 hd.K s0 hd.ws fr0 i o (updV val i v) (updV wr i W) → head3 sc cf hd A nb cf.n0 l (i + 1) fr2 s2 k = some b →
        ∃ val' wr' F S, k F S = some b ∧ dns F = frAt A fr0 val' hd.n ∧ dnS S = SR wr' s0 hd.K hd.n (ltL hd.n) hd.n ∧ (∀ j, j < hd.n → ∀ o, A[j]? = some o → PF sc.P A hd.n nb cf.n0 hd.K s0 hd.ws fr0 j o val' wr') ∧ (∀ j, hd.n ≤ j → wr' j = none) := by
      intro v W fr2 s2 e1 e2 hp hh
      refine head3_sound hC hok hws hnb l (i + 1) (updV val i v) (updV wr i W) fr2 s2 hl' hin' ?_ e2 ?_ ?_ hh
      · rw [e1, hf]
        simp only [frAt]
        rw [frAt_congr (val := val) (val' := updV val i v) i fun j hj => updV_lt hj, ho, updV_same]
        rfl
      · intro j hj o' ho'
        by_cases hji : j = i
        · subst hji
          rw [ho] at ho'
          cases ho'
          exact hp
        · exact (hpf j (by omega) o' ho').congr (fun q hq => updV_lt (by omega)) fun q hq => updV_lt (by omega)
      · intro j hj
        simp only [updV]
        rw [if_neg (by omega)]
        exact hwr j (by omega)
    have hfrV : ∀ v, frV A hd.ws fr0 (updV val i v) i = dns frv := fun v => by
      rw [efr]; unfold frV; rw [frAt_congr (val := val) i fun j hj => updV_lt hj]
    have hsvV : ∀ W, svV A hd.n nb cf.n0 hd.K s0 hd.ws (updV wr i W) i = dnS sv := fun W => by
      rw [esv]; unfold svV; rw [SR_wcongr (wr := wr) fun j hj => updV_lt hj]
    have hSR : ∀ W, SR (updV wr i W) s0 hd.K hd.n (ltL i) hd.n = dnS s := fun W => by
      rw [hs, SR_wcongr (wr := wr) fun j hj => updV_lt hj]
    have hSRn : SR (updV wr i none) s0 hd.K hd.n (ltL (i + 1)) hd.n = dnS s := by
      rw [ltL_succ, SR_add hilt (by simp [ltL]) (by rw [updV_same]; intro _ _ _ h; cases h) (by rw [updV_same]; intro h; exact absurd rfl h), updV_same, hSR]
      rfl
    have hnone : ∀ j, i < j → ∀ W s', effS (updV wr i W j) s' = s' := fun j hj W s' => by
      simp only [updV]
      rw [if_neg (by omega), hwr j (by omega)]
      rfl
    have hMtn : lookN hd.ws i = none → Mt nb cf.n0 hd.ws i none := fun hlk => by unfold Mt; rw [hlk]
    -- it is carried out, and turns nothing
    have pure : ∀ (fr2 : List TV), dns fr2 = dns fr → lookN hd.ws i = none → aWanted A (dns frv) o = some true → execH3 sc cf o.op frv sv fr2 (fun fr v => putB nb fr o.dst v fun fr => head3 sc cf hd A nb cf.n0 l (i + 1) fr s k) = some b →
        ∃ val' wr' F S, k F S = some b ∧ dns F = frAt A fr0 val' hd.n ∧ dnS S = SR wr' s0 hd.K hd.n (ltL hd.n) hd.n ∧ (∀ j, j < hd.n → ∀ o, A[j]? = some o → PF sc.P A hd.n nb cf.n0 hd.K s0 hd.ws fr0 j o val' wr') ∧ (∀ j, hd.n ≤ j → wr' j = none) := by
      intro fr2 e2 hlk hw hx
      have hts2 : ∀ (ct : Nat) (t : Bool), frv.getD ct .undef = .bool t → dn (fr2.getD ct .undef) = .bool t := by
        intro ct t hc
        rw [← dns_getD, e2, dns_getD]
        rw [hfrv, tclears_getD] at hc
        rw [tclear_bool hc]
        rfl
      obtain ⟨fr3, v, h1, h2, h3⟩ := execH3_sound (A := A) hC hts2 hx
      obtain ⟨h4, h5⟩ := putB_some h1
      refine more (dn v) none _ s (by rw [dns_tPut, h2, e2]) hSRn.symm ⟨by rw [updV_same]; exact hMtn hlk, .inr ⟨by rw [hfrV]; exact hw, ?_⟩⟩ h5
      rw [updV_same, updV_same, hfrV, hsvV]
      exact ⟨tbelow_spec v h4, h3⟩
    have skip : ∀ (fr2 : List TV), dns fr2 = dns fr → lookN hd.ws i = none → aWanted A (dns frv) o = some false → putK fr2 o.dst (.tup []) (fun fr => head3 sc cf hd A nb cf.n0 l (i + 1) fr s k) = some b →
        ∃ val' wr' F S, k F S = some b ∧ dns F = frAt A fr0 val' hd.n ∧ dnS S = SR wr' s0 hd.K hd.n (ltL hd.n) hd.n ∧ (∀ j, j < hd.n → ∀ o, A[j]? = some o → PF sc.P A hd.n nb cf.n0 hd.K s0 hd.ws fr0 j o val' wr') ∧ (∀ j, hd.n ≤ j → wr' j = none) := by
      intro fr2 e2 hlk hw hx
      rw [putK_eq] at hx
      refine more (.tuple []) none _ s (by rw [dns_tPut, e2]; rfl) hSRn.symm ⟨by rw [updV_same]; exact hMtn hlk, .inl ⟨by rw [hfrV]; exact hw, updV_same _ _ _, updV_same _ _ _⟩⟩ hx
    split at h
    · rename_i w hlk
      split at h
      · rename_i hg
        have hw : aWanted A (dns frv) o = some true := by unfold aWanted; rw [hg]
        obtain ⟨dst, op, type, pos, after, guard⟩ := o
        unfold writeH at h
        dsimp only at h
        split at h
        · rename_i r t
          split at h
          · rename_i cs hz
            split at h
            · rename_i hr
              rw [forceS_eq, putK_eq] at h
              have hrK : r < hd.K := by rw [Nat.blt_eq] at hr; exact hr
              have hz' := tZero_spec hz
              refine more (.ref (nb + r) 0) (some (.alloc (nb + r) (dns cs) t)) _ _ (by rw [dns_tPut]; rfl) ?_ ⟨by rw [updV_same]; unfold Mt; rw [hlk]; exact ⟨_, _, rfl⟩, .inr ⟨by rw [hfrV]; exact hw, ?_⟩⟩ h
              · rw [ltL_succ, SR_alloc (i := i) (idx := nb + r) (cs := dns cs) (t := t) hilt (by simp [ltL]) (updV_same _ _ _) ?_ ?_ ?_, hSR]
                · rw [dnS_set]; rfl
                · intro j idx' cs' t' hji hj e
                  simp only [updV] at hj
                  rw [if_neg hji] at hj
                  rcases Nat.lt_or_ge j i with hlt | hge
                  · have hp := (hpf j hlt (A[j]'(by omega)) (Array.getElem?_eq_getElem (by omega))).1
                    rw [hj] at hp
                    obtain ⟨w', hw', hm'⟩ := Mt_some hp
                    cases w' with
                    | alloc r' =>
                      have hpp := wsOK_pair hws hw' (lookN_mem hlk)
                      simp only [wsPair, Bool.or_eq_true, Bool.not_eq_true'] at hpp
                      simp only [mm] at hm'
                      rcases hpp with hpp | hpp
                      · exact hji (Nat.eq_of_beq_eq_true hpp)
                      · have : r' = r := by omega
                        subst this
                        rw [Nat.beq_refl] at hpp
                        cases hpp
                    | _ => exact hm'.elim
                  · rw [hwr j hge] at hj; cases hj
                · intro j idx' ob hl hj e
                  simp only [ltL, decide_eq_true_eq] at hl
                  simp only [updV] at hj
                  rw [if_neg (by omega)] at hj
                  have hp := (hpf j hl (A[j]'(by omega)) (Array.getElem?_eq_getElem (by omega))).1
                  rw [hj] at hp
                  obtain ⟨w', hw', hm'⟩ := Mt_some hp
                  cases w' with
                  | store o' x' =>
                    have hpp := wsOK_pair hws (lookN_mem hlk) hw'
                    simp only [wsPair, Bool.or_eq_true, Bool.not_eq_true'] at hpp
                    simp only [mm] at hm'
                    rcases hpp with hpp | hpp
                    · have : ((TW.store o' x').dead nb cf.n0).contains (nb + r) = true := by
                        rw [← e, hm']
                        cases o' <;> simp [TW.dead, idxOf]
                      rw [this] at hpp
                      cases hpp
                    · unfold ancq at hpp
                      rw [Bool.and_eq_true, Nat.blt_eq] at hpp
                      omega
                  | _ => exact hm'.elim
                · obtain ⟨inf, z, _, _, e⟩ := zeroCells_spec hz'
                  rw [e]
                  intro a ha
                  obtain ⟨u, _, rfl⟩ := List.mem_map.1 ha
                  exact absS_mark u
              · rw [updV_same, updV_same]
                exact ⟨rfl, hz', rfl, by omega, by omega⟩
            · cases h
          · cases h
        · rename_i own ix t x y
          split at h
          · rename_i g s' hst
            split at h
            · rename_i idx htg
              split at h
              · rename_i hidx
                rw [Bool.and_eq_true, Nat.blt_eq] at hidx
                have hidx1 := Nat.eq_of_beq_eq_true hidx.1
                rw [forceO_eq] at h
                split at h
                · rename_i hbo
                  obtain ⟨hg1, h⟩ := cond_some h
                  rw [forceS_eq, putK_eq] at h
                  refine more (.tuple []) (some (.store idx (dnO (obAt s' idx)))) _ _ (by rw [dns_tPut]; rfl) ?_ ⟨by rw [updV_same]; unfold Mt; rw [hlk, hidx1]; exact ⟨_, rfl⟩, .inr ⟨by rw [hfrV]; exact hw, ?_⟩⟩ h
                  · rw [ltL_succ, SR_add hilt (by simp [ltL]) (by rw [updV_same]; intro _ _ _ h; cases h) (fun _ j hj _ => hnone j hj _), updV_same, hSR]
                    exact dnS_set _ _ _
                  · rw [updV_same, updV_same, hfrV, hsvV]
                    exact ⟨rfl, belowO_spec hbo, HStore_of rfl hst hg1 htg hidx.2⟩
                · cases h
              · cases h
            · cases h
          · cases h
        · rename_i t0 c
          split at h
          · rename_i hcl
            split at h
            · rename_i x y t t' hargs htys
              split at h
              · rename_i htt
                subst htt
                split at h
                · rename_i g fr' v s' hap
                  split at h
                  · rename_i m hm
                    split at h
                    · rename_i hmt
                      have hmt := Nat.eq_of_beq_eq_true hmt
                      subst hmt
                      obtain ⟨hg1, h⟩ := cond_some h
                      rw [forceS_eq] at h
                      obtain ⟨hb1, h⟩ := putB_some h
                      have ha : c.args = #[x, y] := by
                        apply Array.ext'
                        rw [hargs]
                      have ht : c.argTypes = #[t, t] := by
                        apply Array.ext'
                        rw [htys]
                      refine more (dn (tren (fun _ => 4000 + dst.getD 0) v)) (some (.app [m])) _ _ (by rw [dns_tPut]) ?_ ⟨by rw [updV_same]; unfold Mt; rw [hlk], .inr ⟨by rw [hfrV]; exact hw, ?_⟩⟩ h
                      · rw [ltL_succ, SR_add hilt (by simp [ltL]) (by rw [updV_same]; intro _ _ _ h; cases h) (fun _ j hj _ => hnone j hj _), updV_same, hSR]
                        exact dnS_clear _ _
                      · rw [updV_same, updV_same, hfrV]
                        exact ⟨tbelow_spec _ hb1, tAppend_app rfl hcl ha ht hap hg1 hm⟩
                    · cases h
                  · cases h
                · cases h
              · cases h
            · cases h
          · cases h
        · cases h
      · cases h
    · rename_i hlk
      split at h
      · rename_i hg
        exact pure fr rfl hlk (by unfold aWanted; rw [hg]) h
      · rename_i g want hg
        split at h
        · cases h
        · rename_i t ht
          have wanted : ∀ {v : Bool}, dn (frv.getD t .undef) = .bool v → aWanted A (dns frv) o = some (v == want) := by
            intro v hv
            unfold aWanted
            rw [hg]
            dsimp only
            rw [show (A[g]?).bind (·.dst) = some t from ht]
            dsimp only
            rw [dns_getD, hv]
          have nowant : dn (frv.getD t .undef) = .tuple [] → aWanted A (dns frv) o = some false := by
            intro hv
            unfold aWanted
            rw [hg]
            dsimp only
            rw [show (A[g]?).bind (·.dst) = some t from ht]
            dsimp only
            rw [dns_getD, hv]
          split at h
          · rename_i hv
            have hw := wanted (v := true) (by rw [hv]; rfl)
            split at h
            · rename_i hwt; subst hwt; exact pure fr rfl hlk hw h
            · rename_i hwt
              have : want = false := by simpa using hwt
              subst this
              exact skip fr rfl hlk hw h
          · rename_i hv
            have hw := wanted (v := false) (by rw [hv]; rfl)
            split at h
            · rename_i hwt; subst hwt; exact skip fr rfl hlk hw h
            · rename_i hwt
              have : want = false := by simpa using hwt
              subst this
              exact pure fr rfl hlk hw h
          · rename_i hv
            exact skip fr rfl hlk (nowant (by rw [hv]; rfl)) h
          · rename_i v hv
            have hv0 : fr.getD t .undef = .bool v := by
              have : (tclears (tsOf A i hd.ws) fr).getD t .undef = .bool v := by rw [← hfrv]; exact hv
              rw [tclears_getD] at this
              exact tclear_bool this
            have hsame : ∀ {u : TV}, dn u = .bool v → dns (fr.set t u) = dns fr := fun hu => dns_set_same (by rw [hv0, hu]; rfl)
            have hw := wanted (v := v) (by rw [hv]; rfl)
            simp only [setK_eq] at h
            cases v with
            | true =>
              simp only [cond_true] at h
              split at h
              · rename_i hwt; subst hwt; exact pure _ (hsame rfl) hlk hw h
              · rename_i hwt
                have : want = false := by simpa using hwt
                subst this
                exact skip _ (hsame rfl) hlk hw h
            | false =>
              simp only [cond_false] at h
              split at h
              · rename_i hwt; subst hwt; exact skip _ (hsame rfl) hlk hw h
              · rename_i hwt
                have : want = false := by simpa using hwt
                subst this
                exact pure _ (hsame rfl) hlk hw h
          · cases h
theorem draw3_sound (hC : CallSound sc.P cf.C) {hd : HDat} {A : Array Oper} {id : Nat} {fr : List TV} {s : List TOb} {k : List TV → List TOb → Option β} (h : draw3 sc cf hd A fr s k = some b) :
    ∃ F S, k F S = some b ∧ AW cf.n0 sc.P (.region id A true) (dns fr) (dnS s) (Ex .normal F S) := by
  unfold draw3 at h
  obtain ⟨h1, h2⟩ := cond_some h
  rw [Bool.and_eq_true, Bool.and_eq_true] at h1
  obtain ⟨⟨hok, hws⟩, hm⟩ := h1
  split at h2
  case isFalse => cases h2
  rename_i hL
  rw [forceS_eq] at h2
  have hn : hd.n ≤ A.size := (drawOK_spec hok).1
  have hlen : (A.toList.take hd.n).length = hd.n := by simp; omega
  obtain ⟨val, wr, F, S, h3, h4, h5, h6, h7⟩ := head3_sound (nb := s.length) (s0 := dnS s) (fr0 := dns fr) hC hok hws (dnS_length s).symm (A.toList.take hd.n) 0 (fun _ => .undef) (fun _ => none) fr (s ++ deads hd.K)
    (fun j => by
      rw [List.getElem?_take, hlen, Nat.zero_add]
      by_cases hj : j < hd.n
      · rw [if_pos hj, if_pos hj]; simp
      · rw [if_neg hj, if_neg hj]) (by rw [hlen, Nat.zero_add]) rfl (by
      rw [dnS_app, deads_eq]
      have : ∀ m, SR (fun _ => none) (dnS s) hd.K hd.n (ltL 0) m = dnS s ++ List.replicate hd.K deadO := by
        have hb : ∀ m, baseR (fun _ => none) (dnS s) hd.K (ltL 0) m = dnS s ++ List.replicate hd.K deadO := by
          intro m
          induction m with
          | zero => rfl
          | succ m ih => simp only [baseR, ih]
        intro m
        induction m with
        | zero => exact hb _
        | succ m ih => simp only [SR, ih]; simp [ltL]
      exact (this _).symm) (fun j hj => by omega) (fun _ _ => rfl) h2
  rw [clearK_eq] at h3
  obtain ⟨F2, S2, h8, h9⟩ := runOps_sound (n0 := cf.n0) hC (A := A) (A.toList.drop hd.n) (tclears (tsAll hd.ws) F) S k h3
  refine ⟨F2, S2, h8, ?_⟩
  have hHF := HF3_of (P := sc.P) (nb := s.length) (n0 := cf.n0) (K := hd.K) (s0 := dnS s) (fr0 := dns fr) hok hws h6 h7
  refine AL_draw3 (n := hd.n) (K := hd.K) (wr := wr) (val := val) hm (by rw [dns_length, hL]; exact hok) h7 (by rw [dnS_length]; exact hHF) ?_
  have e1 : SR wr (dnS s) hd.K hd.n (fun _ => true) hd.n = dnS S := by
    rw [h5]
    exact SR_congr (fun j hj => by simp [ltL, hj]) _ (Nat.le_refl _)
  rw [e1]
  refine AL_weaken ?_ (.refl _) h9
  rw [dns_tclears, h4]
  refine ⟨by simp [clearMarks_length], fun t => ?_⟩
  rw [clearMarks_getD, clearMarks_getD, ← clearMark_absorb (ts := tsAll hd.ws) (t' := tsR wr (fun _ => true) hd.n)]
  · exact clear_wk _ _
  · intro x hx
    obtain ⟨j, hj1, _, hj3⟩ := tsR_mem.1 hx
    have hm2 := (h6 j hj1 A[j] (Array.getElem?_eq_getElem (by omega))).1
    cases hW : wr j with
    | none => rw [hW] at hj3; cases hj3
    | some W =>
      rw [hW] at hm2 hj3
      obtain ⟨w, hw1, hw2⟩ := Mt_some hm2
      cases W with
      | app ts =>
        cases w with
        | app t0 => simp only [mm] at hw2; subst hw2; exact tsAll_mem hw1 x hj3
        | _ => exact hw2.elim
      | _ => cases hj3
end
end Go.Proofs.Ytgicljncknbgcaa.Abs
