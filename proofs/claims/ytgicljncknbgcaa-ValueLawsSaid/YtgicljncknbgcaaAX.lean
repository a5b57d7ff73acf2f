/- A region whose order is open, whose head also makes objects, stores and appends. -/
import Derived.Test.YtgicljncknbgcaaAQ
namespace Go.Proofs.Ytgicljncknbgcaa.Abs
open Go Go.ChangeShapes Go.WideShapes Go.ChangeAt Go.RowKit
set_option linter.unusedVariables false
set_option linter.unusedSimpArgs false

/-- what an operation of the head turns -/
inductive HW where
  | alloc (idx : Nat) (cs : List AV) (t : TypeId)
  | store (idx : Nat) (ob : Ob)
  | app (ts : List Nat)
def HW.ts : Option HW → List Nat
  | some (.app ts) => ts
  | _ => []
def effS (w : Option HW) (s : List Ob) : List Ob := match w with
  | some (.store idx ob) => s.set idx ob
  | some (.app ts) => clearStore ts s
  | _ => s
def deadO : Ob := ⟨[], 0, false⟩
def baseR (wr : Nat → Option HW) (s0 : List Ob) (K : Nat) (L : Nat → Bool) : Nat → List Ob
  | 0 => s0 ++ List.replicate K deadO
  | m + 1 => match wr m with
    | some (.alloc idx cs t) => if L m = true then (baseR wr s0 K L m).set idx ⟨cs, t, true⟩ else baseR wr s0 K L m
    | _ => baseR wr s0 K L m
def SR (wr : Nat → Option HW) (s0 : List Ob) (K n : Nat) (L : Nat → Bool) : Nat → List Ob
  | 0 => baseR wr s0 K L n
  | m + 1 => if L m = true then effS (wr m) (SR wr s0 K n L m) else SR wr s0 K n L m
/-- the marks that are used up -/
def tsR (wr : Nat → Option HW) (L : Nat → Bool) : Nat → List Nat
  | 0 => []
  | m + 1 => if L m = true then HW.ts (wr m) ++ tsR wr L m else tsR wr L m
theorem tsR_mem {wr : Nat → Option HW} {L : Nat → Bool} {t : Nat} : ∀ {n : Nat}, t ∈ tsR wr L n ↔ ∃ j, j < n ∧ L j = true ∧ t ∈ HW.ts (wr j)
  | 0 => by simp [tsR]
  | m + 1 => by
    simp only [tsR]
    constructor
    · intro h
      split at h
      · rename_i hl
        rcases List.mem_append.1 h with h | h
        · exact ⟨m, by omega, hl, h⟩
        · obtain ⟨j, h1, h2⟩ := tsR_mem.1 h
          exact ⟨j, by omega, h2⟩
      · obtain ⟨j, h1, h2⟩ := tsR_mem.1 h
        exact ⟨j, by omega, h2⟩
    · rintro ⟨j, h1, h2, h3⟩
      by_cases hj : j = m
      · subst hj
        rw [if_pos h2]
        exact List.mem_append.2 (.inl h3)
      · have : t ∈ tsR wr L m := tsR_mem.2 ⟨j, by omega, h2, h3⟩
        split
        · exact List.mem_append.2 (.inr this)
        · exact this

/-! stores that are the same but for some objects and marks -/
structure Rl (dead ts : List Nat) (X Y : List Ob) : Prop where
  len : X.length = Y.length
  at_ : ∀ (o : Nat) (a b : Ob), X[o]? = some a → Y[o]? = some b → o ∈ dead ∨ (a.live = b.live ∧ a.t = b.t ∧ a.cs.map (clearMark ts) = b.cs.map (clearMark ts))
section
variable {dead ts : List Nat} {X Y : List Ob}
theorem Rl.refl (X : List Ob) : Rl dead ts X X := ⟨rfl, fun o a b h1 h2 => by rw [h1] at h2; cases h2; exact .inr ⟨rfl, rfl, rfl⟩⟩
theorem Rl.set (h : Rl dead ts X Y) (o : Nat) (c : Ob) : Rl dead ts (X.set o c) (Y.set o c) := by
  refine ⟨by simp [h.len], fun i a b h1 h2 => ?_⟩
  rw [List.getElem?_set] at h1 h2
  by_cases hi : o = i
  · rw [if_pos hi] at h1 h2
    split at h1
    · split at h2
      · cases h1; cases h2; exact .inr ⟨rfl, rfl, rfl⟩
      · cases h2
    · cases h1
  · rw [if_neg hi] at h1 h2
    exact h.at_ i a b h1 h2
theorem Rl.setL (h : Rl dead ts X Y) {o : Nat} (c : Ob) (ho : o ∈ dead) : Rl dead ts (X.set o c) Y := by
  refine ⟨by simp [h.len], fun i a b h1 h2 => ?_⟩
  rw [List.getElem?_set] at h1
  by_cases hi : o = i
  · subst hi; exact .inl ho
  · rw [if_neg hi] at h1
    exact h.at_ i a b h1 h2
theorem Rl.setR (h : Rl dead ts X Y) {o : Nat} (c : Ob) (ho : o ∈ dead) : Rl dead ts X (Y.set o c) := by
  refine ⟨by simp [h.len], fun i a b h1 h2 => ?_⟩
  rw [List.getElem?_set] at h2
  by_cases hi : o = i
  · subst hi; exact .inl ho
  · rw [if_neg hi] at h2
    exact h.at_ i a b h1 h2
theorem clearMark_cases (ts : List Nat) (x : AV) : clearMark ts x = x ∨ (clearMark ts x = x.plain ∧ ∃ t, x.mark = some t ∧ t ∈ ts) := by
  unfold clearMark
  split
  · rename_i t ht
    split
    · rename_i hc; exact .inr ⟨rfl, t, ht, by simpa using hc⟩
    · exact .inl rfl
  · exact .inl rfl
theorem clearMark_plain (ts : List Nat) (x : AV) : clearMark ts x.plain = x.plain := by
  unfold clearMark
  rw [x.mark_plain]
theorem clearMark_of (ts : List Nat) {x : AV} {t : Nat} (h : x.mark = some t) : clearMark ts x = if t ∈ ts then x.plain else x := by
  unfold clearMark
  rw [h]
  simp only [List.contains_eq_mem, decide_eq_true_eq]
theorem clearMark_absorb {t' : List Nat} (h : ∀ t ∈ t', t ∈ ts) (x : AV) : clearMark ts (clearMark t' x) = clearMark ts x := by
  rcases clearMark_cases t' x with e | ⟨e, t, h1, h2⟩
  · rw [e]
  · rw [e, clearMark_plain, clearMark_of ts h1, if_pos (h t h2)]
theorem clearMark_comm (a b : List Nat) (x : AV) : clearMark a (clearMark b x) = clearMark b (clearMark a x) := by
  cases hx : x.mark with
  | none => simp [clearMark, hx]
  | some t =>
    rw [clearMark_of b hx, clearMark_of a hx]
    split <;> split <;> simp [clearMark_plain, clearMark_of _ hx, *]
theorem clear_cong {t' : List Nat} {xs ys : List AV} (h : xs.map (clearMark ts) = ys.map (clearMark ts)) : (xs.map (clearMark t')).map (clearMark ts) = (ys.map (clearMark t')).map (clearMark ts) := by
  have e : ∀ zs : List AV, (zs.map (clearMark t')).map (clearMark ts) = (zs.map (clearMark ts)).map (clearMark t') := fun zs => by
    simp only [List.map_map]
    exact List.map_congr_left fun z _ => clearMark_comm ts t' z
  rw [e, e, h]
theorem Rl.clear (h : Rl dead ts X Y) (t' : List Nat) : Rl dead ts (clearStore t' X) (clearStore t' Y) := by
  refine ⟨by simp [clearStore, h.len], fun i a b h1 h2 => ?_⟩
  obtain ⟨a', h3, rfl⟩ := clearStore_get h1
  obtain ⟨b', h4, rfl⟩ := clearStore_get h2
  exact (h.at_ i a' b' h3 h4).imp id fun ⟨k1, k2, k3⟩ => ⟨k1, k2, clear_cong k3⟩
theorem Rl.clearL (h : Rl dead ts X Y) {t' : List Nat} (ht : ∀ t ∈ t', t ∈ ts) : Rl dead ts (clearStore t' X) Y := by
  refine ⟨by simp [clearStore, h.len], fun i a b h1 h2 => ?_⟩
  obtain ⟨a', h3, rfl⟩ := clearStore_get h1
  refine (h.at_ i a' b h3 h2).imp id fun ⟨k1, k2, k3⟩ => ⟨k1, k2, ?_⟩
  simp only
  rw [← k3, List.map_map]
  exact List.map_congr_left fun z _ => clearMark_absorb ht z
theorem Rl.clearR (h : Rl dead ts X Y) {t' : List Nat} (ht : ∀ t ∈ t', t ∈ ts) : Rl dead ts X (clearStore t' Y) := by
  refine ⟨by simp [clearStore, h.len], fun i a b h1 h2 => ?_⟩
  obtain ⟨b', h3, rfl⟩ := clearStore_get h2
  refine (h.at_ i a b' h1 h3).imp id fun ⟨k1, k2, k3⟩ => ⟨k1, k2, ?_⟩
  simp only
  rw [k3, List.map_map]
  exact (List.map_congr_left fun z _ => clearMark_absorb ht z).symm
end
/-- what an operation must not meet in another order -/
def hid (dead ts : List Nat) : Option HW → Prop
  | some (.alloc idx _ _) => idx ∈ dead
  | some (.store idx _) => idx ∈ dead
  | some (.app t') => ∀ t ∈ t', t ∈ ts
  | none => True
theorem base_rel {wr : Nat → Option HW} {s0 : List Ob} {K : Nat} {L L' : Nat → Bool} {dead ts : List Nat} : ∀ m, (∀ j, j < m → L j ≠ L' j → hid dead ts (wr j)) → Rl dead ts (baseR wr s0 K L m) (baseR wr s0 K L' m)
  | 0, _ => .refl _
  | m + 1, h => by
    have ih := base_rel (s0 := s0) (K := K) m fun j hj => h j (by omega)
    have hm := h m (by omega)
    simp only [baseR]
    cases hw : wr m with
    | none => exact ih
    | some w =>
      cases w with
      | alloc idx cs t =>
        simp only
        by_cases e : L m = L' m
        · rw [e]; split
          · exact ih.set _ _
          · exact ih
        · have hd := hm e
          rw [hw] at hd
          simp only [hid] at hd
          split <;> split
          · exact ih.set _ _
          · exact ih.setL _ hd
          · exact ih.setR _ hd
          · exact ih
      | store => exact ih
      | app => exact ih
theorem SR_rel {wr : Nat → Option HW} {s0 : List Ob} {K n : Nat} {L L' : Nat → Bool} {dead ts : List Nat} (h : ∀ j, j < n → L j ≠ L' j → hid dead ts (wr j)) : ∀ m, m ≤ n → Rl dead ts (SR wr s0 K n L m) (SR wr s0 K n L' m)
  | 0, _ => base_rel n h
  | m + 1, hm => by
    have ih := SR_rel (s0 := s0) (K := K) h m (by omega)
    have hd := h m (by omega)
    simp only [SR]
    by_cases e : L m = L' m
    · rw [e]
      split
      · cases hw : wr m with
        | none => exact ih
        | some w =>
          cases w with
          | alloc => exact ih
          | store idx ob => exact ih.set _ _
          | app t' => exact ih.clear _
      · exact ih
    · have hd := hd e
      cases hw : wr m with
      | none => simpa [effS] using ih
      | some w =>
        rw [hw] at hd
        cases w with
        | alloc => simpa [effS] using ih
        | store idx ob =>
          simp only [hid] at hd
          simp only [effS]
          split <;> split
          · exact ih.set _ _
          · exact ih.setL _ hd
          · exact ih.setR _ hd
          · exact ih
        | app t' =>
          simp only [hid] at hd
          simp only [effS]
          split <;> split
          · exact ih.clear _
          · exact ih.clearL hd
          · exact ih.clearR hd
          · exact ih
/-- the store as it is seen: some objects hidden, some marks cleared -/
def mskS (dead ts : List Nat) : Nat → List Ob → List Ob
  | _, [] => []
  | i, o :: s => (if dead.contains i then { o with live := false } else { o with cs := o.cs.map (clearMark ts) }) :: mskS dead ts (i + 1) s
theorem mskS_length {dead ts : List Nat} : ∀ (i : Nat) (s : List Ob), (mskS dead ts i s).length = s.length
  | _, [] => rfl
  | i, o :: s => by simp [mskS, mskS_length (i + 1) s]
theorem mskS_get {dead ts : List Nat} : ∀ (i : Nat) (s : List Ob) (k : Nat), (mskS dead ts i s)[k]? = (s[k]?).map fun o => if dead.contains (i + k) then { o with live := false } else { o with cs := o.cs.map (clearMark ts) }
  | _, [], k => by simp [mskS]
  | i, o :: s, 0 => by simp [mskS]
  | i, o :: s, k + 1 => by
    simp only [mskS, List.getElem?_cons_succ]
    rw [mskS_get (i + 1) s k, show i + 1 + k = i + (k + 1) by omega]
theorem Rl.msk {dead ts : List Nat} {X Y : List Ob} (h : Rl dead ts X Y) : WkS X (mskS dead ts 0 Y) := by
  refine ⟨by rw [mskS_length, h.len], fun i a b h1 h2 => ?_⟩
  rw [mskS_get, Nat.zero_add] at h2
  cases hy : Y[i]? with
  | none => rw [hy] at h2; cases h2
  | some y =>
    rw [hy] at h2
    simp only [Option.map_some, Option.some.injEq] at h2
    intro hl
    split at h2
    · subst h2; cases hl
    · rename_i hc
      subst h2
      rcases h.at_ i a y h1 hy with hd | ⟨k1, k2, k3⟩
      · exact absurd (by simpa using hd) hc
      · refine ⟨k2.symm, k1.trans hl, ?_, fun k u u' hu hu' => ?_⟩
        · have := congrArg List.length k3
          simpa using this.symm
        · have e : (a.cs.map (clearMark ts))[k]? = some (clearMark ts u) := by rw [List.getElem?_map, hu]; rfl
          rw [k3] at e
          simp only at hu'
          rw [hu'] at e
          cases e
          exact clear_wk ts u
theorem SR_length {wr : Nat → Option HW} {s0 : List Ob} {K n : Nat} {L : Nat → Bool} : ∀ m, (SR wr s0 K n L m).length = s0.length + K := by
  have hb : ∀ m, (baseR wr s0 K L m).length = s0.length + K := by
    intro m
    induction m with
    | zero => simp [baseR]
    | succ m ih => simp only [baseR]; split <;> (try split) <;> simp [ih]
  intro m
  induction m with
  | zero => exact hb n
  | succ m ih =>
    simp only [SR]
    split
    · unfold effS; split <;> simp [clearStore, ih]
    · exact ih
def addL (L : Nat → Bool) (i : Nat) : Nat → Bool := fun j => if j = i then true else L j
/-- one more is listed, that turns what is there -/
theorem SR_add {wr : Nat → Option HW} {s0 : List Ob} {K n i : Nat} {L : Nat → Bool} (hi : i < n) (hL : L i = false) (hna : ∀ idx cs t, wr i ≠ some (.alloc idx cs t)) (hch : wr i ≠ none → ∀ j, i < j → L j = true → ∀ s, effS (wr j) s = s) :
    SR wr s0 K n (addL L i) n = effS (wr i) (SR wr s0 K n L n) := by
  have hb : ∀ m, baseR wr s0 K (addL L i) m = baseR wr s0 K L m := by
    intro m
    induction m with
    | zero => rfl
    | succ m ih =>
      simp only [baseR, ih]
      by_cases hm : m = i
      · subst hm
        cases hw : wr m with
        | none => rfl
        | some w => cases w <;> first | exact absurd hw (hna _ _ _) | rfl
      · simp only [addL, if_neg hm]
  have key : ∀ m, SR wr s0 K n (addL L i) m = if i < m then effS (wr i) (SR wr s0 K n L m) else SR wr s0 K n L m := by
    intro m
    induction m with
    | zero => simp [SR, hb]
    | succ m ih =>
      simp only [SR]
      by_cases hm : m = i
      · subst hm
        rw [ih]
        simp [addL, hL]
      · rw [ih]
        simp only [addL, if_neg hm]
        by_cases him : i < m
        · rw [if_pos him, if_pos (show i < m + 1 by omega)]
          by_cases hw : wr i = none
          · rw [hw]; rfl
          · split
            · rename_i hl
              rw [hch hw m him hl, hch hw m him hl]
            · rfl
        · rw [if_neg him, if_neg (show ¬ i < m + 1 by omega)]
  rw [key, if_pos hi]
theorem clear_same {ts : List Nat} {cs : List AV} (h : ∀ a ∈ cs, a.mark = none) : cs.map (clearMark ts) = cs := by
  induction cs with
  | nil => rfl
  | cons a cs ih => rw [List.map_cons, cm_none (h a (by simp)), ih fun b hb => h b (by simp [hb])]
/-- one more object -/
theorem SR_alloc {wr : Nat → Option HW} {s0 : List Ob} {K n i idx : Nat} {cs : List AV} {t : TypeId} {L : Nat → Bool} (hi : i < n) (hL : L i = false) (hw : wr i = some (.alloc idx cs t)) (hu : ∀ j idx' cs' t', j ≠ i → wr j = some (.alloc idx' cs' t') → idx' ≠ idx)
    (hs : ∀ j idx' ob, L j = true → wr j = some (.store idx' ob) → idx' ≠ idx) (hm : ∀ a ∈ cs, a.mark = none) :
    SR wr s0 K n (addL L i) n = (SR wr s0 K n L n).set idx ⟨cs, t, true⟩ := by
  have hb : ∀ m, baseR wr s0 K (addL L i) m = if i < m then (baseR wr s0 K L m).set idx ⟨cs, t, true⟩ else baseR wr s0 K L m := by
    intro m
    induction m with
    | zero => rfl
    | succ m ih =>
      simp only [baseR, ih]
      by_cases hmi : m = i
      · subst hmi
        rw [hw]
        simp [addL, hL]
      · simp only [addL, if_neg hmi]
        by_cases him : i < m
        · rw [if_pos him, if_pos (show i < m + 1 by omega)]
          cases hwm : wr m with
          | none => rfl
          | some w =>
            cases w with
            | alloc idx' cs' t' =>
              simp only
              split
              · exact List.set_comm _ _ (Ne.symm (hu m idx' cs' t' hmi hwm))
              · rfl
            | _ => rfl
        · rw [if_neg him, if_neg (show ¬ i < m + 1 by omega)]
  have key : ∀ m, SR wr s0 K n (addL L i) m = (SR wr s0 K n L m).set idx ⟨cs, t, true⟩ := by
    intro m
    induction m with
    | zero => simp only [SR]; rw [hb, if_pos hi]
    | succ m ih =>
      simp only [SR]
      by_cases hmi : m = i
      · subst hmi
        rw [ih]
        simp [addL, hL, hw, effS]
      · simp only [addL, if_neg hmi]
        split
        · rename_i hl
          rw [ih]
          cases hwm : wr m with
          | none => rfl
          | some w =>
            cases w with
            | alloc => rfl
            | store idx' ob =>
              simp only [effS]
              exact List.set_comm _ _ (Ne.symm (hs m idx' ob hl hwm))
            | app ts =>
              simp only [effS, clearStore, List.map_set]
              rw [clear_same hm]
        · exact ih
  exact key n
theorem SR_congr {wr : Nat → Option HW} {s0 : List Ob} {K n : Nat} {L L' : Nat → Bool} (h : ∀ j, j < n → L j = L' j) : ∀ m, m ≤ n → SR wr s0 K n L m = SR wr s0 K n L' m := by
  have hb : ∀ m, m ≤ n → baseR wr s0 K L m = baseR wr s0 K L' m := by
    intro m
    induction m with
    | zero => intro _; rfl
    | succ m ih => intro hm; simp only [baseR, ih (by omega), h m (by omega)]
  intro m
  induction m with
  | zero => intro _; exact hb n (Nat.le_refl _)
  | succ m ih => intro hm; simp only [SR, ih (by omega), h m (by omega)]
end Go.Proofs.Ytgicljncknbgcaa.Abs
