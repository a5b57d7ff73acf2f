/- Functions that are handed objects: what is reckoned is sound. -/
import Derived.Test.YtgicljncknbgcaaTS
namespace Go.Proofs.Ytgicljncknbgcaa.Abs
open Go Go.ChangeShapes Go.WideShapes Go.ChangeAt Go.RowKit
set_option linter.unusedVariables false
set_option linter.unusedSimpArgs false

/-- objects, one by one -/
def encO1 (ρ : Nat → Nat) (len : Nat → Nat) (os : List OT) (y : ElsO os) : List Ob := dnS (encO ρ len os y)
theorem encO_length (ρ len : Nat → Nat) : ∀ (os : List OT) (y : ElsO os), (encO ρ len os y).length = os.length
  | [], _ => rfl
  | .cells _ _ :: os, y => by simp only [encO, List.length_cons, encO_length ρ len os y.2]
  | .tarr _ _ :: os, y => by simp only [encO, List.length_cons, encO_length ρ len os y.2]
theorem dnO_pi (ρ len : Nat → Nat) : ∀ (os : List OT) (y : ElsO os), dnS (encO ρ len os y) = (dnS (encO (fun c => c) len os y)).map (Ob.pi ρ)
  | [], _ => rfl
  | .cells ks t :: os, y => by
    simp only [encO, dnS, List.map_cons]
    have := dnO_pi ρ len os y.2
    simp only [dnS] at this
    rw [this]
    simp only [dnO, Ob.pi, encP_pi ρ len ks y.1]
  | .tarr ty t :: os, y => by
    simp only [encO, dnS, List.map_cons]
    have := dnO_pi ρ len os y.2
    simp only [dnS] at this
    rw [this]
    simp only [dnO, Ob.pi]
    rw [pis_free (flat_free y.1)]
theorem encO_ok {m : Nat} (len : Nat → Nat) : ∀ (os : List OT) (y : ElsO os), osOK m os = true → ∀ (c : Nat) (oc : Ob), (dnS (encO (fun c => c) len os y))[c]? = some oc → oc.live = true ∧ embs m oc.cs = true
  | [], _, _, c, oc, h => by simp [encO, dnS] at h
  | .cells ks t :: os, y, h, c, oc, hc => by
    simp only [osOK, Bool.and_eq_true] at h
    cases c with
    | zero => simp only [encO, dnS, List.map_cons, List.getElem?_cons_zero, Option.some.injEq] at hc; subst hc; exact ⟨rfl, encP_emb len ks y.1 h.1⟩
    | succ c => exact encO_ok len os y.2 h.2 c oc (by simpa only [encO, dnS, List.map_cons, List.getElem?_cons_succ] using hc)
  | .tarr ty t :: os, y, h, c, oc, hc => by
    simp only [osOK] at h
    cases c with
    | zero => simp only [encO, dnS, List.map_cons, List.getElem?_cons_zero, Option.some.injEq] at hc; subst hc; exact ⟨rfl, frees_embs _ (flat_free y.1)⟩
    | succ c => exact encO_ok len os y.2 h c oc (by simpa only [encO, dnS, List.map_cons, List.getElem?_cons_succ] using hc)
theorem WkMs.at {a b : List AV} (h : WkMs a b) : ∀ (k : Nat) (x y : AV), a[k]? = some x → b[k]? = some y → WkM x y := h.get
theorem decO_spec {β : Type} {π : List Nat} {s : List TOb} {l : List (Nat × Nat)} {σ : Nat → Nat} {m : Nat} (hσ : SigOK l σ) {b : β} : ∀ (os : List OT) (is : List Nat) (k : ElsO os → Option β), osOK m os = true → decO π s l os is k = some b →
    ∃ y, k y = some b ∧ is.length = os.length ∧ (∀ (c i : Nat) (ty : Ty) (xs : List (El ty)) (t : TypeId) (lv : Bool), is[c]? = some i → s[i]? = some (.tarr ty xs t lv) → lenO os y c = xs.length) ∧
      ∀ len, LenOK π s len → ∀ (c i : Nat) (oc : Ob), is[c]? = some i → (dnS (encO (fun c => c) len os y))[c]? = some oc → ∃ o, (dnS s)[i]? = some o ∧ ObIn (piF π) σ m o oc
  | [], [], k, _, h => ⟨(), h, rfl, fun c i ty xs t lv hc => by simp at hc, fun len hl c i oc hc => by simp at hc⟩
  | [], _ :: _, k, _, h => by simp [decO] at h
  | .cells _ _ :: _, [], k, _, h => by simp [decO] at h
  | .tarr _ _ :: _, [], k, _, h => by simp [decO] at h
  | .cells ks t :: os, i :: is, k, ho, h => by
    simp only [osOK, Bool.and_eq_true] at ho
    simp only [decO] at h
    split at h
    · rename_i cs t' live hs
      obtain ⟨hc, h1⟩ := cond_some h
      rw [Bool.and_eq_true] at hc
      have e1 := Nat.eq_of_beq_eq_true hc.2
      subst e1
      have hl1 := hc.1
      subst hl1
      obtain ⟨x, h2, h3⟩ := decP_spec hσ ks cs _ h1
      obtain ⟨y, h4, h5, h6, h7⟩ := decO_spec hσ os is _ ho.2 h2
      refine ⟨(x, y), h4, by simp [h5], ?_, ?_⟩
      · intro c j ty xs tt lv hj hsj
        cases c with
        | zero => simp only [List.getElem?_cons_zero, Option.some.injEq] at hj; subst hj; rw [hs] at hsj; cases hsj
        | succ c => exact h6 c j ty xs tt lv (by simpa using hj) hsj
      · intro len hl c j oc hj hoc
        cases c with
        | zero =>
          simp only [List.getElem?_cons_zero, Option.some.injEq] at hj
          subst hj
          simp only [encO, dnS, List.map_cons, List.getElem?_cons_zero, Option.some.injEq] at hoc
          subst hoc
          refine ⟨dnO (.cells cs t true), by rw [dnS_get, hs]; rfl, rfl, rfl, rfl, ?_, encP_emb len ks x ho.1, ?_⟩
          · have := (h3 len hl).len
            simp only [pis_length, List.length_map] at this
            exact this
          · intro kk a a1 ha ha1
            refine (h3 len hl).get kk _ _ ?_ ?_
            · rw [List.getElem?_map]; simp only [dnO] at ha; rw [ha]; rfl
            · rw [pis_map, List.getElem?_map]; simp only [dnO] at ha1; rw [ha1]; rfl
        | succ c => exact h7 len hl c j oc (by simpa using hj) (by simpa only [encO, dnS, List.map_cons, List.getElem?_cons_succ] using hoc)
    · cases h
  | .tarr ty t :: os, i :: is, k, ho, h => by
    simp only [osOK] at ho
    simp only [decO] at h
    split at h
    · rename_i ty' xs t' live hs
      obtain ⟨hc, h1⟩ := cond_some h
      rw [Bool.and_eq_true] at hc
      have e1 := Nat.eq_of_beq_eq_true hc.2
      subst e1
      have hl1 := hc.1
      subst hl1
      split at h1
      · rename_i x hx
        obtain ⟨ety, e2⟩ := castTo_some hx
        subst ety
        obtain ⟨y, h4, h5, h6, h7⟩ := decO_spec hσ os is _ ho h1
        have e2 : x = xs := e2
        subst e2
        refine ⟨(x, y), h4, by simp [h5], ?_, ?_⟩
        · intro c j ty2 xs2 tt lv hj hsj
          cases c with
          | zero =>
            simp only [List.getElem?_cons_zero, Option.some.injEq] at hj
            subst hj
            rw [hs] at hsj
            cases hsj
            rfl
          | succ c => exact h6 c j ty2 xs2 tt lv (by simpa using hj) hsj
        · intro len hl c j oc hj hoc
          cases c with
          | zero =>
            simp only [List.getElem?_cons_zero, Option.some.injEq] at hj
            subst hj
            simp only [encO, dnS, List.map_cons, List.getElem?_cons_zero, Option.some.injEq] at hoc
            subst hoc
            refine ⟨dnO (.tarr ty' x t true), by rw [dnS_get, hs]; rfl, rfl, rfl, rfl, rfl, frees_embs _ (flat_free x), ?_⟩
            intro kk a a1 ha ha1
            simp only [dnO] at ha ha1
            have hfree : a.free = true := by
              obtain ⟨x1, _, hx1⟩ := List.mem_flatMap.1 (List.mem_of_getElem? ha)
              exact cellsOf_free ty' x1 a hx1
            have e3 : a1 = a := Option.some.inj (ha1.symm.trans ha)
            rw [e3, ren_none _ (flat_mark x _ (List.mem_of_getElem? ha)), pi_free hfree]
            exact .refl _
          | succ c => exact h7 len hl c j oc (by simpa using hj) (by simpa only [encO, dnS, List.map_cons, List.getElem?_cons_succ] using hoc)
      · cases h1
    · cases h
theorem marksP_mem : ∀ (ps : List PK) (vs : List TV) (t : Nat), t ∈ (marksP ps vs).map (·.1) → ∃ v ∈ vs, tmark v = some t
  | [], vs, t, h => by cases vs <;> simp [marksP] at h
  | p :: ps, [], t, h => by cases p <;> simp [marksP] at h
  | p :: ps, v :: vs, t, h => by
    have rr : t ∈ (marksP ps vs).map (·.1) → ∃ u ∈ v :: vs, tmark u = some t := fun h => by
      obtain ⟨u, h1, h2⟩ := marksP_mem ps vs t h
      exact ⟨u, List.mem_cons_of_mem _ h1, h2⟩
    cases p <;> simp only [marksP] at h <;> try exact rr h
    split at h
    · rename_i t' ht
      simp only [List.map_cons, List.mem_cons] at h
      rcases h with rfl | h
      · exact ⟨v, List.mem_cons_self, ht⟩
      · exact rr h
    · exact rr h
theorem mem_storeMarks {s : List TOb} {i : Nat} {cs : List TV} {t : TypeId} {lv : Bool} {v : TV} {q : Nat} (hi : s[i]? = some (.cells cs t lv)) (hv : v ∈ cs) (hq : tmark v = some q) : q ∈ storeMarks (dnS s) := by
  refine List.mem_flatMap.2 ⟨dnO (.cells cs t lv), List.mem_map.2 ⟨_, List.mem_of_getElem? hi, rfl⟩, List.mem_filterMap.2 ⟨dn v, ?_, by rw [dn_mark]; exact hq⟩⟩
  simp only [dnO, dns_map]
  exact List.mem_map.2 ⟨v, hv, rfl⟩
theorem marksOs_mem {s : List TOb} : ∀ (os : List OT) (is : List Nat) (t : Nat), t ∈ (marksOs s os is).map (·.1) → t ∈ storeMarks (dnS s)
  | [], is, t, h => by cases is <;> simp [marksOs] at h
  | o :: os, [], t, h => by cases o <;> simp [marksOs] at h
  | .cells ks _ :: os, i :: is, t, h => by
    simp only [marksOs] at h
    split at h
    · rename_i cs tt lv hs
      rw [List.map_append, List.mem_append] at h
      rcases h with h | h
      · obtain ⟨v, h1, h2⟩ := marksP_mem ks cs t h
        exact mem_storeMarks hs h1 h2
      · exact marksOs_mem os is t h
    · simp at h
  | .tarr _ _ :: os, i :: is, t, h => by
    simp only [marksOs] at h
    exact marksOs_mem os is t h
theorem memN_iff {x : Nat} : ∀ {l : List Nat}, memN x l = true ↔ x ∈ l
  | [] => by simp [memN]
  | y :: l => by
    simp only [memN, Bool.or_eq_true, List.mem_cons, memN_iff (l := l)]
    refine or_congr ⟨Nat.eq_of_beq_eq_true, fun h => by subst h; exact Nat.beq_refl x⟩ Iff.rfl
theorem nodupN_spec : ∀ {l : List Nat}, nodupN l = true → l.Nodup
  | [], _ => List.nodup_nil
  | x :: l, h => by
    simp only [nodupN, Bool.and_eq_true, Bool.not_eq_true'] at h
    refine List.nodup_cons.2 ⟨fun hx => ?_, nodupN_spec h.2⟩
    rw [memN_iff.2 hx] at h
    cases h.1
theorem othOK_spec {π Ts : List Nat} : ∀ (s : List TOb) (i : Nat), othOK π Ts i s = true → ∀ (j : Nat) (o : Ob), (dnS s)[j]? = some o → (i + j) ∉ π → o.live = true → ∀ (a : AV) (t : Nat), a ∈ o.cs → a.mark = some t → t ∉ Ts
  | [], i, h, j, o, hj => by simp [dnS] at hj
  | .cells cs tt live :: s, i, h, j, o, hj => by
    intro hp hl a t ha hm
    simp only [othOK, Bool.and_eq_true, Bool.or_eq_true] at h
    cases j with
    | zero =>
      simp only [dnS, List.map_cons, List.getElem?_cons_zero, Option.some.injEq] at hj
      subst hj
      simp only [dnO] at hl ha
      rcases h.1 with (h1 | h1) | h1
      · exact absurd (memN_iff.1 h1) hp
      · rw [hl] at h1; cases h1
      · rw [dns_map] at ha
        obtain ⟨v, hv, rfl⟩ := List.mem_map.1 ha
        rw [dn_mark] at hm
        have := List.all_eq_true.1 h1 v hv
        rw [hm] at this
        intro hT
        simp only [Bool.not_eq_true'] at this
        rw [memN_iff.2 hT] at this
        cases this
    | succ j =>
      exact othOK_spec s (i + 1) h.2 j o (by simpa only [dnS, List.map_cons, List.getElem?_cons_succ] using hj) (by rw [show i + 1 + j = i + (j + 1) by omega]; exact hp) hl a t ha hm
  | .tarr ty xs tt live :: s, i, h, j, o, hj => by
    intro hp hl a t ha hm
    simp only [othOK] at h
    cases j with
    | zero =>
      simp only [dnS, List.map_cons, List.getElem?_cons_zero, Option.some.injEq] at hj
      subst hj
      rw [flat_mark xs a ha] at hm
      cases hm
    | succ j =>
      exact othOK_spec s (i + 1) h j o (by simpa only [dnS, List.map_cons, List.getElem?_cons_succ] using hj) (by rw [show i + 1 + j = i + (j + 1) by omega]; exact hp) hl a t ha hm
theorem setAll_length : ∀ (is : List Nat) (s os : List TOb), (setAll s is os).length = s.length
  | [], s, os => by cases os <;> rfl
  | i :: is, s, [] => rfl
  | i :: is, s, o :: os => by simp only [setAll, setAll_length is, List.length_set]
theorem setAll_other : ∀ (is : List Nat) (s os : List TOb) (j : Nat), j ∉ is → (setAll s is os)[j]? = s[j]?
  | [], s, os, j, _ => by cases os <;> rfl
  | i :: is, s, [], j, _ => rfl
  | i :: is, s, o :: os, j, h => by
    simp only [List.mem_cons, not_or] at h
    simp only [setAll]
    rw [setAll_other is _ os j h.2, List.getElem?_set_ne (fun e => h.1 e.symm)]
theorem setAll_at : ∀ (is : List Nat) (s os : List TOb), is.Nodup → is.length = os.length → (∀ i ∈ is, i < s.length) → ∀ (c i : Nat), is[c]? = some i → (setAll s is os)[i]? = os[c]?
  | [], s, os, _, _, _, c, i, h => by simp at h
  | j :: is, s, [], _, hl, _, c, i, h => by simp at hl
  | j :: is, s, o :: os, hn, hl, hb, c, i, h => by
    obtain ⟨h1, h2⟩ := List.nodup_cons.1 hn
    simp only [setAll]
    cases c with
    | zero =>
      simp only [List.getElem?_cons_zero, Option.some.injEq] at h
      subst h
      rw [setAll_other is _ os j h1, List.getElem?_set_self (hb j List.mem_cons_self)]
      rfl
    | succ c =>
      rw [setAll_at is _ os h2 (by simpa using hl) (fun i hi => by rw [List.length_set]; exact hb i (List.mem_cons_of_mem _ hi)) c i (by simpa using h)]
      rfl
theorem notin_bound : ∀ (l : List Nat), ∃ n, n ∉ l
  | l => by
    refine ⟨l.sum + 1, fun h => ?_⟩
    have : ∀ (l : List Nat) (x : Nat), x ∈ l → x ≤ l.sum := by
      intro l
      induction l with
      | nil => intro x h; cases h
      | cons a l ih =>
        intro x h
        rw [List.sum_cons]
        rcases List.mem_cons.1 h with rfl | h
        · omega
        · have := ih x h; omega
    have := this l _ h
    omega
/-- what a list of marks makes of the others -/
def sigOf (l : List (Nat × Nat)) (big : Nat) (t : Nat) : Nat := match lookN2 l t with
  | some x => x
  | none => big
theorem sigOf_ok (l : List (Nat × Nat)) (big : Nat) : SigOK l (sigOf l big) := fun t x h => by unfold sigOf; rw [h]
theorem sigOf_in {l : List (Nat × Nat)} {big t : Nat} {L : List Nat} (hb : big ∉ L) (h : sigOf l big t ∈ L) : t ∈ l.map (·.1) := by
  unfold sigOf at h
  split at h
  · rename_i x hx; exact lookN2_mem hx
  · exact absurd h hb
/-- the store told otherwise -/
theorem Ok.post {P : Program} {f : FuncId} {args : List AV} {s s' s'' : List Ob} {r r' : AV} (σ : Nat → Nat) (h : Ok P f args s r s') (hr : Wk r r') (hs : WkS (s'.map (renO σ)) s'') : Ok P f args s r' s'' := by
  intro M G w cargs hS hargs
  refine (h M G w cargs hS hargs).mono ?_
  rintro e w' ⟨v, G', rfl, h1, h2, h3⟩
  refine ⟨v, G'.ren (MofS M G s w) σ, rfl, VR0.mono (Ext.ren G' w' (MofS M G s w) σ) _ _ (hr _ _ _ h1), (h2.ren σ).weaken hs, ?_⟩
  exact h3.trans (Ext.ren G' w' (MofS M G s w) σ) fun b _ hb => hb
theorem joinR_pi {one : Bool} {π : Nat → Nat} {a b : List TV} (h : dns a = pis π (dns b)) : dn (joinR one a) = (dn (joinR one b)).pi π := by
  have tup : dn (TV.tup a) = (dn (TV.tup b)).pi π := by simp only [dn, AV.pi, h]
  cases one with
  | false =>
    have e : ∀ l, joinR false l = .tup l := fun l => by cases l with | nil => rfl | cons x l => cases l <;> rfl
    rw [e, e]
    exact tup
  | true =>
    match a, b, h with
    | [], [], _ => exact tup
    | [x], [y], h =>
      simp only [dns, pis, List.cons.injEq, and_true] at h
      exact h
    | x :: x2 :: l, y :: y2 :: l2, h => exact tup
    | [], _ :: _, h => simp [dns, pis] at h
    | _ :: _, [], h => simp [dns, pis] at h
    | [_], _ :: _ :: _, h => simp [dns, pis] at h
    | _ :: _ :: _, [_], h => simp [dns, pis] at h
theorem joinR_emb {one : Bool} {m : Nat} {a : List TV} (h : embs m (dns a) = true) : (dn (joinR one a)).emb m = true := by
  have tup : (dn (TV.tup a)).emb m = true := by simp only [dn, AV.emb, h]
  cases one with
  | false =>
    have e : ∀ l, joinR false l = .tup l := fun l => by cases l with | nil => rfl | cons x l => cases l <;> rfl
    rw [e]
    exact tup
  | true =>
    match a, h with
    | [], _ => exact tup
    | [x], h => simp only [dns, embs, Bool.and_true] at h; exact h
    | x :: x2 :: l, h => exact tup
theorem piF_range (n c : Nat) (h : c < n) : piF (List.range n) c = c := by
  unfold piF
  rw [List.getD_eq_getElem?_getD, List.getElem?_range h]
  rfl
theorem splitR_spec {β : Type} {one : Bool} {r : TV} {k : List TV → Option β} {b : β} (h : splitR one r k = some b) : ∃ rl, k rl = some b ∧ ∀ L : List TV, Wks (dns rl) (dns L) → Wk (dn r) (dn (joinR one L)) := by
  cases one with
  | true =>
    refine ⟨[r], h, fun L hL => ?_⟩
    cases L with
    | nil => cases hL
    | cons x L =>
      cases L with
      | nil => cases hL with | cons q1 q2 => exact q1
      | cons y L => cases hL with | cons q1 q2 => cases q2
  | false =>
    cases r <;> try (cases h; done)
    rename_i l
    refine ⟨l, h, fun L hL => ?_⟩
    have e : joinR false L = .tup L := by cases L with | nil => rfl | cons x l => cases l <;> rfl
    rw [e]
    exact .tuple hL
theorem nodup_inj {l : List Nat} (h : l.Nodup) {c d : Nat} (hc : c < l.length) (hd : d < l.length) (e : l[c] = l[d]) : c = d := by
  have h2 := List.pairwise_iff_getElem.1 h
  rcases Nat.lt_trichotomy c d with h3 | h3 | h3
  · exact absurd e (h2 c d hc hd h3)
  · exact h3
  · exact absurd e.symm (h2 d c hd hc h3)
theorem kObj_spec {P : Program} {f : FuncId} {args : List AV} {sc : List Ob} {sh : Shape} {r : TV} {s : List TOb} {z : ElsO sh.os × Els (pTy sh.rts)} (hsh : shOK sh = true) (hok : Ok P f args sc (dn r) (dnS s)) (h : kObj sh r s = some z) :
    Ok P f args sc (dn (joinR sh.one (encP (fun c => c) (lenO sh.os z.1) sh.rts z.2))) (dnS (encO (fun c => c) (lenO sh.os z.1) sh.os z.1)) := by
  simp only [shOK, Bool.and_eq_true] at hsh
  obtain ⟨⟨⟨⟨⟨h1, h2⟩, h3⟩, h4⟩, h5⟩, h6⟩ := hsh
  unfold kObj at h
  obtain ⟨rl, hrl, hw⟩ := splitR_spec h
  obtain ⟨hc, h7⟩ := cond_some hrl
  rw [Bool.and_eq_true] at hc
  have hlen := Nat.eq_of_beq_eq_true hc.1
  have hunm := unm_spec hc.2
  obtain ⟨l, hl⟩ : ∃ l, l = marksOs s sh.os (List.range sh.os.length) := ⟨_, rfl⟩
  rw [← hl] at h7
  have hσ := sigOf_ok l 0
  obtain ⟨y, h8, h9, h10, h11⟩ := decO_spec (m := sh.os.length) hσ sh.os _ _ h3 h7
  obtain ⟨x, h12, h13⟩ := decP_spec hσ sh.rts rl _ h8
  cases h12
  have hLen : LenOK (List.range sh.os.length) s (lenO sh.os y) := fun c i ty xs t lv hc hs => h10 c i ty xs t lv hc hs
  have hpid : ∀ c, c < sh.os.length → piF (List.range sh.os.length) c = c := fun c hc => piF_range _ _ hc
  refine hok.post (sigOf l 0) ?_ ?_
  · refine hw _ ?_
    have := (h13 _ hLen).toWks (unm_dns hunm)
    rwa [pis_id hpid _ (encP_emb _ sh.rts x h4)] at this
  · refine ⟨by simp only [dnS_length, encO_length, List.length_map, hlen], fun i o oc ho hoc => ?_⟩
    rw [List.getElem?_map] at ho
    obtain ⟨o0, ho1, rfl⟩ := map_some_eq ho
    have hi : i < sh.os.length := by
      have := lt_of_some hoc
      rw [dnS_length, encO_length] at this
      exact this
    obtain ⟨o', q1, q2, q3, q4, q5, q6, q7⟩ := h11 _ hLen i i oc (List.getElem?_range hi) hoc
    rw [ho1] at q1
    cases q1
    refine fun _ => ⟨q4, q2, by rw [q5]; simp [renO], fun k a a' ha ha' => ?_⟩
    simp only [renO, List.getElem?_map] at ha
    obtain ⟨a0, ha1, rfl⟩ := map_some_eq ha
    have := q7 k a0 a' ha1 ha'
    rwa [pi_id hpid a' (embs_get q6 ha')] at this
def pmarks : List PK → List Nat
  | [] => []
  | .own _ m _ _ :: ps => m :: pmarks ps
  | .val _ :: ps => pmarks ps
  | .ref _ :: ps => pmarks ps
  | .arr _ :: ps => pmarks ps
  | .fn _ _ :: ps => pmarks ps
  | .nilp :: ps => pmarks ps
  | .ep _ :: ps => pmarks ps
def omarks : List OT → List Nat
  | [] => []
  | .cells ks _ :: os => pmarks ks ++ omarks os
  | .tarr _ _ :: os => omarks os
theorem encP_marks (ρ len : Nat → Nat) : ∀ (ps : List PK) (x : Els (pTy ps)), ∀ a ∈ encP ρ len ps x, ∀ t, tmark a = some t → t ∈ pmarks ps
  | [], _, a, h, t, ht => by simp [encP] at h
  | .val ty :: ps, x, a, ha, t, ht => by
    simp only [encP, List.mem_cons] at ha
    rcases ha with rfl | ha
    · rw [tval_mark ty x.1] at ht; cases ht
    · exact encP_marks ρ len ps x.2 a ha t ht
  | .own ty m e z :: ps, x, a, ha, t, ht => by
    simp only [encP, List.mem_cons] at ha
    rcases ha with rfl | ha
    · simp only [tmark, Option.some.injEq] at ht; subst ht; simp [pmarks]
    · simp only [pmarks, List.mem_cons]; exact .inr (encP_marks ρ len ps x.2 a ha t ht)
  | .ref c :: ps, x, a, ha, t, ht => by
    simp only [encP, List.mem_cons] at ha
    rcases ha with rfl | ha
    · cases ht
    · exact encP_marks ρ len ps x a ha t ht
  | .arr c :: ps, x, a, ha, t, ht => by
    simp only [encP, List.mem_cons] at ha
    rcases ha with rfl | ha
    · cases ht
    · exact encP_marks ρ len ps x a ha t ht
  | .fn f n :: ps, x, a, ha, t, ht => by
    simp only [encP, List.mem_cons] at ha
    rcases ha with rfl | ha
    · cases ht
    · exact encP_marks ρ len ps x a (List.mem_of_mem_drop ha) t ht
  | .ep n :: ps, x, a, ha, t, ht => by
    simp only [encP, List.mem_cons] at ha
    rcases ha with rfl | ha
    · cases ht
    · exact encP_marks ρ len ps x a (List.mem_of_mem_drop ha) t ht
  | .nilp :: ps, x, a, ha, t, ht => by
    simp only [encP, List.mem_cons] at ha
    rcases ha with rfl | ha
    · cases ht
    · exact encP_marks ρ len ps x a ha t ht
theorem encO_marks (ρ len : Nat → Nat) : ∀ (os : List OT) (y : ElsO os) (t : Nat), t ∈ storeMarks (dnS (encO ρ len os y)) → t ∈ omarks os
  | [], _, t, h => by simp [encO, dnS, storeMarks] at h
  | .cells ks tt :: os, y, t, h => by
    simp only [encO, dnS, List.map_cons, storeMarks, List.flatMap_cons, List.mem_append] at h
    simp only [omarks, List.mem_append]
    rcases h with h | h
    · refine .inl ?_
      obtain ⟨a, ha, hm⟩ := List.mem_filterMap.1 h
      simp only [dnO, dns_map] at ha
      obtain ⟨v, hv, rfl⟩ := List.mem_map.1 ha
      rw [dn_mark] at hm
      exact encP_marks ρ len ks y.1 v hv t hm
    · exact .inr (encO_marks ρ len os y.2 t h)
  | .tarr ty tt :: os, y, t, h => by
    simp only [encO, dnS, List.map_cons, storeMarks, List.flatMap_cons, List.mem_append] at h
    simp only [omarks]
    rcases h with h | h
    · obtain ⟨a, ha, hm⟩ := List.mem_filterMap.1 h
      simp only [dnO] at ha
      rw [flat_mark y.1 a ha] at hm
      cases hm
    · exact encO_marks ρ len os y.2 t h
theorem findPi_length (args : List TV) (s : List TOb) : ∀ (rs : List Root) (acc π : List Nat), findPi args s rs acc = some π → π.length = acc.length + rs.length
  | [], acc, π, h => by simp only [findPi, Option.some.injEq] at h; subst h; simp
  | r :: rs, acc, π, h => by
    simp only [findPi] at h
    split at h
    · have := findPi_length args s rs _ _ h; simp at this ⊢; omega
    · have := findPi_length args s rs _ _ h; simp at this ⊢; omega
    · cases h
theorem objEnt_sound {P : Program} {N : Nat} {C : CallT} {fh : FH} {f : FuncId} {fn : Func} {c : Code} {sh : Shape} {m : ObjM sh} (hC : CallSound P C) (hf : P.funcs[f]? = some fn) (hb : fn.body = some c) (hen : enters P f = true) (hsh : shOK sh = true)
    (hm : ∀ y x, callBody DR P N C fh fn c (ElsO sh.os × Els (pTy sh.rts)) (encP (fun c => c) (lenO sh.os y) sh.ps x) (encO (fun c => c) (lenO sh.os y) sh.os y) (kObj sh) = m y x) : EntSound P f (objEnt sh m) := by
  intro β args s k b h
  unfold objEnt at h
  split at h
  case h_1 => cases h
  rename_i π hπ
  obtain ⟨hc, h1⟩ := cond_some h
  simp only [Bool.and_eq_true] at hc
  obtain ⟨⟨c1, c2⟩, c3⟩ := hc
  obtain ⟨l, hl⟩ : ∃ l, l = marksOs s sh.os π := ⟨_, rfl⟩
  rw [← hl] at h1 c3
  have hsh0 := hsh
  simp only [shOK, Bool.and_eq_true] at hsh
  obtain ⟨⟨⟨⟨⟨s1, s2⟩, s3⟩, s4⟩, s5⟩, s6⟩ := hsh
  obtain ⟨big, hbig⟩ := notin_bound (omarks sh.os)
  obtain ⟨σ, hσd⟩ : ∃ σ, σ = sigOf l big := ⟨_, rfl⟩
  have hσ : SigOK l σ := by rw [hσd]; exact sigOf_ok l big
  obtain ⟨x, h2, h3⟩ := decP_spec hσ sh.ps args _ h1
  obtain ⟨y, h4, h5, h6, h7⟩ := decO_spec (m := sh.os.length) hσ sh.os π _ s3 h2
  have hLen : LenOK π s (lenO sh.os y) := fun c i ty xs t lv hc hs => h6 c i ty xs t lv hc hs
  have h3 := h3 _ hLen
  have h7 := h7 _ hLen
  split at h4
  case h_2 => cases h4
  rename_i z hz
  rw [forceS_eq, forceV_eq] at h4
  refine ⟨hen, _, _, ?_, h4⟩
  -- the callee alone with its objects
  have hmark : ∀ a ∈ encP (fun c => c) (lenO sh.os y) sh.ps x, tmark a = none := encP_unm _ _ sh.ps x s2
  obtain ⟨r0, s0, hok, hk⟩ := callBody_sound (b := z) DR_sound hC hf hb hmark ((hm y x).trans hz)
  have hok2 := kObj_spec hsh0 hok hk
  have hpl : π.length = sh.os.length := h5
  have hnd := nodupN_spec c2
  have hat : ∀ c, c < sh.os.length → π[c]? = some (piF π c) := fun c hc => by
    unfold piF
    rw [List.getD_eq_getElem?_getD, List.getElem?_eq_getElem (by omega)]
    rfl
  have hmem : ∀ c, c < sh.os.length → piF π c ∈ π := fun c hc => List.mem_of_getElem? (hat c hc)
  have hbnd : ∀ i ∈ π, i < s.length := by
    intro i hi
    obtain ⟨c, hc⟩ := List.mem_iff_getElem?.1 hi
    have hcl : c < sh.os.length := by rw [← hpl]; exact lt_of_some hc
    have : ∃ oc, (dnS (encO (fun c => c) (lenO sh.os y) sh.os y))[c]? = some oc := ⟨_, List.getElem?_eq_getElem (by rw [dnS_length, encO_length]; exact hcl)⟩
    obtain ⟨oc, hoc⟩ := this
    obtain ⟨o, ho, _⟩ := h7 c i oc hc hoc
    have := lt_of_some ho
    rwa [dnS_length] at this
  have hnews : (encO (piF π) (lenO sh.os z.1) sh.os z.1).length = π.length := by rw [encO_length, hpl]
  rw [joinR_pi (encP_pi (piF π) (lenO sh.os z.1) sh.rts z.2)]
  refine Ok_embed (π := piF π) (σ := σ) (m := sh.os.length) (Ts := l.map (·.1)) hok2 (by rw [dnS_length, encO_length]) (by rw [dnS_length, encO_length]) ?_ ?_ ?_ ?_ ?_ ?_ ?_ ?_ ?_ ?_ ?_ ?_
  · intro c d hc hd e
    have e1 := hat c hc
    have e2 := hat d hd
    rw [e] at e1
    have hlc : c < π.length := by omega
    have hld : d < π.length := by omega
    rw [List.getElem?_eq_getElem hlc] at e1
    rw [List.getElem?_eq_getElem hld] at e2
    exact nodup_inj hnd hlc hld (Option.some.inj (e1.trans e2.symm))
  · intro c oc hoc
    have hcl : c < sh.os.length := by
      have := lt_of_some hoc
      rwa [dnS_length, encO_length] at this
    exact h7 c _ oc (hat c hcl) hoc
  · exact encO_ok _ sh.os z.1 s3
  · intro t ht
    rw [hσd] at ht
    exact sigOf_in (L := storeMarks (dnS (encO (fun c => c) (lenO sh.os y) sh.os y))) (fun hb => hbig (encO_marks _ _ sh.os y _ hb)) ht
  · intro t ht
    rw [hl] at ht
    exact marksOs_mem sh.os π t ht
  · intro i o hi hp
    refine othOK_spec s 0 c3 i o hi ?_
    rw [Nat.zero_add]
    intro hip
    obtain ⟨c, hc⟩ := List.mem_iff_getElem?.1 hip
    have hcl : c < sh.os.length := by rw [← hpl]; exact lt_of_some hc
    refine hp c hcl ?_
    have := hat c hcl
    rw [hc] at this
    exact (Option.some.inj this).symm
  · rw [dnS_length, dnS_length, setAll_length]
  · intro c hc
    rw [dnS_get, setAll_at π s _ hnd hnews.symm hbnd c _ (hat c hc), ← dnS_get, dnO_pi, List.getElem?_map]
  · intro i hp
    rw [dnS_get, dnS_get, setAll_other π s _ i]
    intro hip
    obtain ⟨c, hc⟩ := List.mem_iff_getElem?.1 hip
    have hcl : c < sh.os.length := by rw [← hpl]; exact lt_of_some hc
    refine hp c hcl ?_
    have := hat c hcl
    rw [hc] at this
    exact (Option.some.inj this).symm
  · exact h3.toWks (unm_dns (unm_spec c1))
  · exact encP_emb _ sh.ps x s1
  · exact joinR_emb (encP_emb _ sh.rts z.2 s4)
/-! functions that are handed functions, and what others read -/
def pFree : List PK → Bool
  | [] => true
  | .val _ :: ps => pFree ps
  | .fn _ _ :: ps => pFree ps
  | .nilp :: ps => pFree ps
  | .ep n :: ps => Nat.blt 0 n && !ps.isEmpty && pFree ps
  | .ref _ :: _ => false
  | .arr _ :: _ => false
  | .own _ _ _ _ :: _ => false
theorem frees_app : ∀ {a b : List AV}, frees (a ++ b) = (frees a && frees b)
  | [], b => by simp [frees]
  | x :: a, b => by simp only [List.cons_append, frees, frees_app (a := a), Bool.and_assoc]
theorem frees_td {n : Nat} {l : List AV} (h : frees l = true) : frees (l.take n) = true ∧ frees (l.drop n) = true := by
  rw [← List.take_append_drop n l, frees_app, Bool.and_eq_true] at h
  exact h
theorem encP_free (ρ len : Nat → Nat) : ∀ (ps : List PK) (x : Els (pTy ps)), pFree ps = true → frees (dns (encP ρ len ps x)) = true
  | [], _, _ => rfl
  | .val t :: ps, x, h => by
    simp only [pFree] at h
    simp only [encP, dns, frees, encP_free ρ len ps x.2 h, Bool.and_true]
    exact tval_free t x.1
  | .own .. :: ps, x, h => by simp [pFree] at h
  | .ref c :: ps, x, h => by simp [pFree] at h
  | .arr c :: ps, x, h => by simp [pFree] at h
  | .fn f n :: ps, x, h => by
    simp only [pFree] at h
    have h2 := frees_td (n := n) (encP_free ρ len ps x h)
    simp only [encP, dns, frees, dn, AV.free, dns_take, dns_drop, h2.1, h2.2, Bool.and_self]
  | .nilp :: ps, x, h => by
    simp only [pFree] at h
    simp only [encP, dns, frees, encP_free ρ len ps x h, Bool.and_true, dn, AV.free]
  | .ep n :: ps, x, h => by
    simp only [pFree, Bool.and_eq_true, Nat.blt_eq, Bool.not_eq_true'] at h
    have h2 := frees_td (n := n) (encP_free ρ len ps x h.2)
    have h3 : (dns (encP ρ len ps x)).take n ≠ [] := by
      have h4 := encP_ne ρ len ps x h.1.2
      rw [dns_map, ← List.map_take]
      intro h5
      have h6 := List.map_eq_nil_iff.1 h5
      rcases List.take_eq_nil_iff.1 h6 with h7 | h7
      · omega
      · exact h4 h7
    simp only [encP, dns, frees, dn, AV.free, dns_take, dns_drop, h2.1, h2.2, Bool.and_self, Bool.and_true, Bool.not_eq_true', List.isEmpty_eq_false_iff]
    exact h3
theorem pFree_own : ∀ (ps : List PK), pFree ps = true → noOwn ps = true
  | [], _ => rfl
  | .val _ :: ps, h => pFree_own ps h
  | .fn _ _ :: ps, h => pFree_own ps h
  | .nilp :: ps, h => pFree_own ps h
  | .ep n :: ps, h => by simp only [pFree, Bool.and_eq_true] at h; exact pFree_own ps h.2
  | .ref _ :: _, h => by simp [pFree] at h
  | .arr _ :: _, h => by simp [pFree] at h
  | .own _ _ _ _ :: _, h => by simp [pFree] at h
theorem pFree_ok : ∀ (ps : List PK), pFree ps = true → pOK 0 ps = true
  | [], _ => rfl
  | .val _ :: ps, h => pFree_ok ps h
  | .fn _ _ :: ps, h => pFree_ok ps h
  | .nilp :: ps, h => pFree_ok ps h
  | .ep n :: ps, h => by
    simp only [pFree, Bool.and_eq_true] at h
    simp only [pOK, Bool.and_eq_true]
    exact ⟨h.1, pFree_ok ps h.2⟩
  | .ref _ :: _, h => by simp [pFree] at h
  | .arr _ :: _, h => by simp [pFree] at h
  | .own _ _ _ _ :: _, h => by simp [pFree] at h
abbrev encA2 (ps : List PK) (x : Els (pTy ps)) : List TV := encP (fun c => c) (fun _ => 0) ps x
def patEnt (ps : List PK) (rts : List Ty) (m : Els (pTy ps) → Option (RT rts)) : Ent := fun β args s k => cond (unm args) (decP [] [] [] ps args fun x => match m x with
  | some r => k (encR rts r) s
  | none => none) none
theorem patEnt_sound {P : Program} {N : Nat} {C : CallT} {fh : FH} {f : FuncId} {fn : Func} {c : Code} {ps : List PK} {rts : List Ty} {m : Els (pTy ps) → Option (RT rts)} (hC : CallSound P C) (hf : P.funcs[f]? = some fn) (hb : fn.body = some c) (hen : enters P f = true)
    (hp : pFree ps = true) (hm : ∀ x, callBody DR P N C fh fn c (RT rts) (encA2 ps x) [] (kPure rts) = m x) : EntSound P f (patEnt ps rts m) := by
  intro β args s k b h
  unfold patEnt at h
  obtain ⟨hu, h⟩ := cond_some h
  obtain ⟨x, h1, h2⟩ := decP_spec (σ := fun t => t) (l := []) (fun t x hx => by cases hx) ps args _ h
  split at h1
  case h_2 => cases h1
  rename_i r hr
  refine ⟨hen, encR rts r, s, ?_, h1⟩
  have hmk : ∀ a ∈ encA2 ps x, tmark a = none := encP_unm _ _ ps x (pFree_own ps hp)
  obtain ⟨r0, s', h3, h4⟩ := callBody_sound (b := r) DR_sound hC hf hb hmk ((hm x).trans hr)
  unfold kPure at h4
  split at h4
  case h_2 => cases h4
  have h5 := h3.weaken (decR_spec h4)
  refine (Ok_everywhere h5 (encP_free _ _ ps x hp) (encR_free rts r) _).args ?_
  have h6 := (h2 (fun _ => 0) (fun c i ty xs t lv hc => by simp at hc)).toWks (unm_dns (unm_spec hu))
  rwa [pis_id (m := 0) (fun c hc => by omega) _ (encP_emb _ ps x (pFree_ok ps hp))] at h6
end Go.Proofs.Ytgicljncknbgcaa.Abs
