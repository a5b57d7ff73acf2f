/- A region whose order is open, whose head also makes objects, stores and appends. -/
import Derived.Test.YtmacghaihlfcpaaGreatL4
namespace Go.Proofs.YtmacghaihlfcpaaGreat.Abs
noncomputable section
open Go Go.ChangeShapes Go.WideShapes Go.ChangeAt Go.RowKit
set_option linter.unusedVariables false
set_option linter.unusedSimpArgs false

/-- what an operation of the head turns -/
inductive HW where
  | alloc (idx : Nat) (cs : List AV) (t : TypeId)
  | store (idx : Nat) (ob : Ob)
  | app (ts : List Nat)
def HW.ts : Option HW → List Nat
  | some (.app ts) => ts
  | _ => []
def effS (w : Option HW) (s : List Ob) : List Ob := match w with
  | some (.store idx ob) => s.set idx ob
  | some (.app ts) => clearStore ts s
  | _ => s
def deadO : Ob := ⟨[], 0, false⟩
def baseR (wr : Nat → Option HW) (s0 : List Ob) (K : Nat) (L : Nat → Bool) : Nat → List Ob
  | 0 => s0 ++ List.replicate K deadO
  | m + 1 => match wr m with
    | some (.alloc idx cs t) => if L m = true then (baseR wr s0 K L m).set idx ⟨cs, t, true⟩ else baseR wr s0 K L m
    | _ => baseR wr s0 K L m
def SR (wr : Nat → Option HW) (s0 : List Ob) (K n : Nat) (L : Nat → Bool) : Nat → List Ob
  | 0 => baseR wr s0 K L n
  | m + 1 => if L m = true then effS (wr m) (SR wr s0 K n L m) else SR wr s0 K n L m
/-- the marks that are used up -/
def tsR (wr : Nat → Option HW) (L : Nat → Bool) : Nat → List Nat
  | 0 => []
  | m + 1 => if L m = true then HW.ts (wr m) ++ tsR wr L m else tsR wr L m
theorem tsR_mem {wr : Nat → Option HW} {L : Nat → Bool} {t : Nat} : ∀ {n : Nat}, t ∈ tsR wr L n ↔ ∃ j, j < n ∧ L j = true ∧ t ∈ HW.ts (wr j)
  | 0 => by simp [tsR]
  | m + 1 => by
    simp only [tsR]
    constructor
    · intro h
      split at h
      · rename_i hl
        rcases List.mem_append.1 h with h | h
        · exact ⟨m, by omega, hl, h⟩
        · obtain ⟨j, h1, h2⟩ := tsR_mem.1 h
          exact ⟨j, by omega, h2⟩
      · obtain ⟨j, h1, h2⟩ := tsR_mem.1 h
        exact ⟨j, by omega, h2⟩
    · rintro ⟨j, h1, h2, h3⟩
      by_cases hj : j = m
      · subst hj
        rw [if_pos h2]
        exact List.mem_append.2 (.inl h3)
      · have : t ∈ tsR wr L m := tsR_mem.2 ⟨j, by omega, h2, h3⟩
        split
        · exact List.mem_append.2 (.inr this)
        · exact this

/-! stores that are the same but for some objects and marks -/
structure Rl (dead ts : List Nat) (X Y : List Ob) : Prop where
  len : X.length = Y.length
  at_ : ∀ (o : Nat) (a b : Ob), X[o]? = some a → Y[o]? = some b → o ∈ dead ∨ (a.live = b.live ∧ a.t = b.t ∧ a.cs.map (clearMark ts) = b.cs.map (clearMark ts))
section
variable {dead ts : List Nat} {X Y : List Ob}
theorem Rl.refl (X : List Ob) : Rl dead ts X X := ⟨rfl, fun o a b h1 h2 => by rw [h1] at h2; cases h2; exact .inr ⟨rfl, rfl, rfl⟩⟩
theorem Rl.set (h : Rl dead ts X Y) (o : Nat) (c : Ob) : Rl dead ts (X.set o c) (Y.set o c) := by
  refine ⟨by simp [h.len], fun i a b h1 h2 => ?_⟩
  rw [List.getElem?_set] at h1 h2
  by_cases hi : o = i
  · rw [if_pos hi] at h1 h2
    split at h1
    · split at h2
      · cases h1; cases h2; exact .inr ⟨rfl, rfl, rfl⟩
      · cases h2
    · cases h1
  · rw [if_neg hi] at h1 h2
    exact h.at_ i a b h1 h2
theorem Rl.setL (h : Rl dead ts X Y) {o : Nat} (c : Ob) (ho : o ∈ dead) : Rl dead ts (X.set o c) Y := by
  refine ⟨by simp [h.len], fun i a b h1 h2 => ?_⟩
  rw [List.getElem?_set] at h1
  by_cases hi : o = i
  · subst hi; exact .inl ho
  · rw [if_neg hi] at h1
    exact h.at_ i a b h1 h2
theorem Rl.setR (h : Rl dead ts X Y) {o : Nat} (c : Ob) (ho : o ∈ dead) : Rl dead ts X (Y.set o c) := by
  refine ⟨by simp [h.len], fun i a b h1 h2 => ?_⟩
  rw [List.getElem?_set] at h2
  by_cases hi : o = i
  · subst hi; exact .inl ho
  · rw [if_neg hi] at h2
    exact h.at_ i a b h1 h2
theorem clearMark_cases (ts : List Nat) (x : AV) : clearMark ts x = x ∨ (clearMark ts x = x.plain ∧ ∃ t, x.mark = some t ∧ t ∈ ts) := by
  unfold clearMark
  split
  · rename_i t ht
    split
    · rename_i hc; exact .inr ⟨rfl, t, ht, by simpa using hc⟩
    · exact .inl rfl
  · exact .inl rfl
theorem clearMark_plain (ts : List Nat) (x : AV) : clearMark ts x.plain = x.plain := by
  unfold clearMark
  rw [x.mark_plain]
theorem clearMark_of (ts : List Nat) {x : AV} {t : Nat} (h : x.mark = some t) : clearMark ts x = if t ∈ ts then x.plain else x := by
  unfold clearMark
  rw [h]
  simp only [List.contains_eq_mem, decide_eq_true_eq]
theorem clearMark_absorb {t' : List Nat} (h : ∀ t ∈ t', t ∈ ts) (x : AV) : clearMark ts (clearMark t' x) = clearMark ts x := by
  rcases clearMark_cases t' x with e | ⟨e, t, h1, h2⟩
  · rw [e]
  · rw [e, clearMark_plain, clearMark_of ts h1, if_pos (h t h2)]
theorem clearMark_comm (a b : List Nat) (x : AV) : clearMark a (clearMark b x) = clearMark b (clearMark a x) := by
  cases hx : x.mark with
  | none => simp [clearMark, hx]
  | some t =>
    rw [clearMark_of b hx, clearMark_of a hx]
    split <;> split <;> simp [clearMark_plain, clearMark_of _ hx, *]
theorem clear_cong {t' : List Nat} {xs ys : List AV} (h : xs.map (clearMark ts) = ys.map (clearMark ts)) : (xs.map (clearMark t')).map (clearMark ts) = (ys.map (clearMark t')).map (clearMark ts) := by
  have e : ∀ zs : List AV, (zs.map (clearMark t')).map (clearMark ts) = (zs.map (clearMark ts)).map (clearMark t') := fun zs => by
    simp only [List.map_map]
    exact List.map_congr_left fun z _ => clearMark_comm ts t' z
  rw [e, e, h]
theorem Rl.clear (h : Rl dead ts X Y) (t' : List Nat) : Rl dead ts (clearStore t' X) (clearStore t' Y) := by
  refine ⟨by simp [clearStore, h.len], fun i a b h1 h2 => ?_⟩
  obtain ⟨a', h3, rfl⟩ := clearStore_get h1
  obtain ⟨b', h4, rfl⟩ := clearStore_get h2
  exact (h.at_ i a' b' h3 h4).imp id fun ⟨k1, k2, k3⟩ => ⟨k1, k2, clear_cong k3⟩
theorem Rl.clearL (h : Rl dead ts X Y) {t' : List Nat} (ht : ∀ t ∈ t', t ∈ ts) : Rl dead ts (clearStore t' X) Y := by
  refine ⟨by simp [clearStore, h.len], fun i a b h1 h2 => ?_⟩
  obtain ⟨a', h3, rfl⟩ := clearStore_get h1
  refine (h.at_ i a' b h3 h2).imp id fun ⟨k1, k2, k3⟩ => ⟨k1, k2, ?_⟩
  simp only
  rw [← k3, List.map_map]
  exact List.map_congr_left fun z _ => clearMark_absorb ht z
theorem Rl.clearR (h : Rl dead ts X Y) {t' : List Nat} (ht : ∀ t ∈ t', t ∈ ts) : Rl dead ts X (clearStore t' Y) := by
  refine ⟨by simp [clearStore, h.len], fun i a b h1 h2 => ?_⟩
  obtain ⟨b', h3, rfl⟩ := clearStore_get h2
  refine (h.at_ i a b' h1 h3).imp id fun ⟨k1, k2, k3⟩ => ⟨k1, k2, ?_⟩
  simp only
  rw [k3, List.map_map]
  exact (List.map_congr_left fun z _ => clearMark_absorb ht z).symm
end
/-- what an operation must not meet in another order -/
def hid (dead ts : List Nat) : Option HW → Prop
  | some (.alloc idx _ _) => idx ∈ dead
  | some (.store idx _) => idx ∈ dead
  | some (.app t') => ∀ t ∈ t', t ∈ ts
  | none => True
theorem base_rel {wr : Nat → Option HW} {s0 : List Ob} {K : Nat} {L L' : Nat → Bool} {dead ts : List Nat} : ∀ m, (∀ j, j < m → L j ≠ L' j → hid dead ts (wr j)) → Rl dead ts (baseR wr s0 K L m) (baseR wr s0 K L' m)
  | 0, _ => .refl _
  | m + 1, h => by
    have ih := base_rel (s0 := s0) (K := K) m fun j hj => h j (by omega)
    have hm := h m (by omega)
    simp only [baseR]
    cases hw : wr m with
    | none => exact ih
    | some w =>
      cases w with
      | alloc idx cs t =>
        simp only
        by_cases e : L m = L' m
        · rw [e]; split
          · exact ih.set _ _
          · exact ih
        · have hd := hm e
          rw [hw] at hd
          simp only [hid] at hd
          split <;> split
          · exact ih.set _ _
          · exact ih.setL _ hd
          · exact ih.setR _ hd
          · exact ih
      | store => exact ih
      | app => exact ih
theorem SR_rel {wr : Nat → Option HW} {s0 : List Ob} {K n : Nat} {L L' : Nat → Bool} {dead ts : List Nat} (h : ∀ j, j < n → L j ≠ L' j → hid dead ts (wr j)) : ∀ m, m ≤ n → Rl dead ts (SR wr s0 K n L m) (SR wr s0 K n L' m)
  | 0, _ => base_rel n h
  | m + 1, hm => by
    have ih := SR_rel (s0 := s0) (K := K) h m (by omega)
    have hd := h m (by omega)
    simp only [SR]
    by_cases e : L m = L' m
    · rw [e]
      split
      · cases hw : wr m with
        | none => exact ih
        | some w =>
          cases w with
          | alloc => exact ih
          | store idx ob => exact ih.set _ _
          | app t' => exact ih.clear _
      · exact ih
    · have hd := hd e
      cases hw : wr m with
      | none => simpa [effS] using ih
      | some w =>
        rw [hw] at hd
        cases w with
        | alloc => simpa [effS] using ih
        | store idx ob =>
          simp only [hid] at hd
          simp only [effS]
          split <;> split
          · exact ih.set _ _
          · exact ih.setL _ hd
          · exact ih.setR _ hd
          · exact ih
        | app t' =>
          simp only [hid] at hd
          simp only [effS]
          split <;> split
          · exact ih.clear _
          · exact ih.clearL hd
          · exact ih.clearR hd
          · exact ih
/-- the store as it is seen: some objects hidden, some marks cleared -/
def mskS (dead ts : List Nat) : Nat → List Ob → List Ob
  | _, [] => []
  | i, o :: s => (if dead.contains i then { o with live := false } else { o with cs := o.cs.map (clearMark ts) }) :: mskS dead ts (i + 1) s
theorem mskS_length {dead ts : List Nat} : ∀ (i : Nat) (s : List Ob), (mskS dead ts i s).length = s.length
  | _, [] => rfl
  | i, o :: s => by simp [mskS, mskS_length (i + 1) s]
theorem mskS_get {dead ts : List Nat} : ∀ (i : Nat) (s : List Ob) (k : Nat), (mskS dead ts i s)[k]? = (s[k]?).map fun o => if dead.contains (i + k) then { o with live := false } else { o with cs := o.cs.map (clearMark ts) }
  | _, [], k => by simp [mskS]
  | i, o :: s, 0 => by simp [mskS]
  | i, o :: s, k + 1 => by
    simp only [mskS, List.getElem?_cons_succ]
    rw [mskS_get (i + 1) s k, show i + 1 + k = i + (k + 1) by omega]
theorem Rl.msk {dead ts : List Nat} {X Y : List Ob} (h : Rl dead ts X Y) : WkS X (mskS dead ts 0 Y) := by
  refine ⟨by rw [mskS_length, h.len], fun i a b h1 h2 => ?_⟩
  rw [mskS_get, Nat.zero_add] at h2
  cases hy : Y[i]? with
  | none => rw [hy] at h2; cases h2
  | some y =>
    rw [hy] at h2
    simp only [Option.map_some, Option.some.injEq] at h2
    intro hl
    split at h2
    · subst h2; cases hl
    · rename_i hc
      subst h2
      rcases h.at_ i a y h1 hy with hd | ⟨k1, k2, k3⟩
      · exact absurd (by simpa using hd) hc
      · refine ⟨k2.symm, k1.trans hl, ?_, fun k u u' hu hu' => ?_⟩
        · have := congrArg List.length k3
          simpa using this.symm
        · have e : (a.cs.map (clearMark ts))[k]? = some (clearMark ts u) := by rw [List.getElem?_map, hu]; rfl
          rw [k3] at e
          simp only at hu'
          rw [hu'] at e
          cases e
          exact clear_wk ts u
theorem SR_length {wr : Nat → Option HW} {s0 : List Ob} {K n : Nat} {L : Nat → Bool} : ∀ m, (SR wr s0 K n L m).length = s0.length + K := by
  have hb : ∀ m, (baseR wr s0 K L m).length = s0.length + K := by
    intro m
    induction m with
    | zero => simp [baseR]
    | succ m ih => simp only [baseR]; split <;> (try split) <;> simp [ih]
  intro m
  induction m with
  | zero => exact hb n
  | succ m ih =>
    simp only [SR]
    split
    · unfold effS; split <;> simp [clearStore, ih]
    · exact ih
def addL (L : Nat → Bool) (i : Nat) : Nat → Bool := fun j => if j = i then true else L j
/-- one more is listed, that turns what is there -/
theorem SR_add {wr : Nat → Option HW} {s0 : List Ob} {K n i : Nat} {L : Nat → Bool} (hi : i < n) (hL : L i = false) (hna : ∀ idx cs t, wr i ≠ some (.alloc idx cs t)) (hch : wr i ≠ none → ∀ j, i < j → L j = true → ∀ s, effS (wr j) s = s) :
    SR wr s0 K n (addL L i) n = effS (wr i) (SR wr s0 K n L n) := by
  have hb : ∀ m, baseR wr s0 K (addL L i) m = baseR wr s0 K L m := by
    intro m
    induction m with
    | zero => rfl
    | succ m ih =>
      simp only [baseR, ih]
      by_cases hm : m = i
      · subst hm
        cases hw : wr m with
        | none => rfl
        | some w => cases w <;> first | exact absurd hw (hna _ _ _) | rfl
      · simp only [addL, if_neg hm]
  have key : ∀ m, SR wr s0 K n (addL L i) m = if i < m then effS (wr i) (SR wr s0 K n L m) else SR wr s0 K n L m := by
    intro m
    induction m with
    | zero => simp [SR, hb]
    | succ m ih =>
      simp only [SR]
      by_cases hm : m = i
      · subst hm
        rw [ih]
        simp [addL, hL]
      · rw [ih]
        simp only [addL, if_neg hm]
        by_cases him : i < m
        · rw [if_pos him, if_pos (show i < m + 1 by omega)]
          by_cases hw : wr i = none
          · rw [hw]; rfl
          · split
            · rename_i hl
              rw [hch hw m him hl, hch hw m him hl]
            · rfl
        · rw [if_neg him, if_neg (show ¬ i < m + 1 by omega)]
  rw [key, if_pos hi]
theorem clear_same {ts : List Nat} {cs : List AV} (h : ∀ a ∈ cs, a.mark = none) : cs.map (clearMark ts) = cs := by
  induction cs with
  | nil => rfl
  | cons a cs ih => rw [List.map_cons, cm_none (h a (by simp)), ih fun b hb => h b (by simp [hb])]
/-- one more object -/
theorem SR_alloc {wr : Nat → Option HW} {s0 : List Ob} {K n i idx : Nat} {cs : List AV} {t : TypeId} {L : Nat → Bool} (hi : i < n) (hL : L i = false) (hw : wr i = some (.alloc idx cs t)) (hu : ∀ j idx' cs' t', j ≠ i → wr j = some (.alloc idx' cs' t') → idx' ≠ idx)
    (hs : ∀ j idx' ob, L j = true → wr j = some (.store idx' ob) → idx' ≠ idx) (hm : ∀ a ∈ cs, a.mark = none) :
    SR wr s0 K n (addL L i) n = (SR wr s0 K n L n).set idx ⟨cs, t, true⟩ := by
  have hb : ∀ m, baseR wr s0 K (addL L i) m = if i < m then (baseR wr s0 K L m).set idx ⟨cs, t, true⟩ else baseR wr s0 K L m := by
    intro m
    induction m with
    | zero => rfl
    | succ m ih =>
      simp only [baseR, ih]
      by_cases hmi : m = i
      · subst hmi
        rw [hw]
        simp [addL, hL]
      · simp only [addL, if_neg hmi]
        by_cases him : i < m
        · rw [if_pos him, if_pos (show i < m + 1 by omega)]
          cases hwm : wr m with
          | none => rfl
          | some w =>
            cases w with
            | alloc idx' cs' t' =>
              simp only
              split
              · exact List.set_comm _ _ (Ne.symm (hu m idx' cs' t' hmi hwm))
              · rfl
            | _ => rfl
        · rw [if_neg him, if_neg (show ¬ i < m + 1 by omega)]
  have key : ∀ m, SR wr s0 K n (addL L i) m = (SR wr s0 K n L m).set idx ⟨cs, t, true⟩ := by
    intro m
    induction m with
    | zero => simp only [SR]; rw [hb, if_pos hi]
    | succ m ih =>
      simp only [SR]
      by_cases hmi : m = i
      · subst hmi
        rw [ih]
        simp [addL, hL, hw, effS]
      · simp only [addL, if_neg hmi]
        split
        · rename_i hl
          rw [ih]
          cases hwm : wr m with
          | none => rfl
          | some w =>
            cases w with
            | alloc => rfl
            | store idx' ob =>
              simp only [effS]
              exact List.set_comm _ _ (Ne.symm (hs m idx' ob hl hwm))
            | app ts =>
              simp only [effS, clearStore, List.map_set]
              rw [clear_same hm]
        · exact ih
  exact key n
theorem SR_congr {wr : Nat → Option HW} {s0 : List Ob} {K n : Nat} {L L' : Nat → Bool} (h : ∀ j, j < n → L j = L' j) : ∀ m, m ≤ n → SR wr s0 K n L m = SR wr s0 K n L' m := by
  have hb : ∀ m, m ≤ n → baseR wr s0 K L m = baseR wr s0 K L' m := by
    intro m
    induction m with
    | zero => intro _; rfl
    | succ m ih => intro hm; simp only [baseR, ih (by omega), h m (by omega)]
  intro m
  induction m with
  | zero => intro _; exact hb n (Nat.le_refl _)
  | succ m ih => intro hm; simp only [SR, ih (by omega), h m (by omega)]
end
end Go.Proofs.YtmacghaihlfcpaaGreat.Abs

namespace Go.Proofs.YtmacghaihlfcpaaGreat.Abs
noncomputable section
open Go Go.ChangeShapes Go.WideShapes Go.ChangeAt Go.RowKit
set_option linter.unusedVariables false
set_option linter.unusedSimpArgs false

/-! a place that gets its object -/
structure Alive (nb : Nat) (G G' : Gh) (w w' : World) : Prop where
  size : w.heap.size ≤ w'.heap.size
  heap : ∀ b, b < w.heap.size → w'.heap[b]? = w.heap[b]?
  own : ∀ b, b < w.heap.size → G'.own b = G.own b ∧ G'.phi b = G.phi b ∧ G'.tg b = G.tg b
  obj : ∀ b, b < w.heap.size → G'.obj b → G.obj b
  mu : ∀ i, i < nb → G'.mu i = G.mu i
  n : nb ≤ G'.n
section
variable {nb : Nat} {G G' : Gh} {w w' : World}
theorem Seen.alive (h : Alive nb G G' w w') {b o len : Nat} (hs : Seen G w b o len) : Seen G' w' b o len := by
  obtain ⟨h1, h2, h3⟩ := hs
  obtain ⟨e1, e2, _⟩ := h.own b h1
  refine ⟨Nat.lt_of_lt_of_le h1 h.size, fun hb => h2 (h.obj b h1 hb), fun ho => ?_⟩
  rw [e1] at ho
  rw [e2]
  exact h3 ho
theorem CellsAt.alive (h : Alive nb G G' w w') {b o : Nat} {vs : List Value} (hb : b < w.heap.size) (hc : CellsAt w b o vs) : CellsAt w' b o vs := fun i v hi => by
  rw [World.cell?_of_block (w := w) (h.heap b hb)]; exact hc i v hi
mutual
theorem VR0.alive (h : Alive nb G G' w w') : ∀ (a : AV) (v : Value), a.refs nb = true → VR0 G w a v → VR0 G' w' a v
  | .undef, _, _, _ => by simp only [VR0]
  | .int .., _, _, hv => by simp only [VR0] at hv ⊢; exact hv
  | .bool .., _, _, hv => by simp only [VR0] at hv ⊢; exact hv
  | .str .., _, _, hv => by simp only [VR0] at hv ⊢; exact hv
  | .nilp, _, _, hv => by simp only [VR0] at hv ⊢; exact hv
  | .ref i o, _, hb, hv => by
    simp only [VR0, AV.refs, decide_eq_true_eq] at hv hb ⊢
    rw [h.mu i hb]
    exact ⟨hv.1, Nat.lt_of_lt_of_le hb h.n⟩
  | .arr i o, _, hb, hv => by
    simp only [VR0, AV.refs, decide_eq_true_eq] at hv hb ⊢
    rw [h.mu i hb]
    exact ⟨hv.1, Nat.lt_of_lt_of_le hb h.n⟩
  | .eptr cs o, _, hb, hv => by
    simp only [VR0, AV.refs] at hv hb ⊢
    obtain ⟨b, ob, vs, h1, h2, h3, h4⟩ := hv
    exact ⟨b, ob, vs, h1, h2.alive h, h3.alive h h2.1, VRs0.alive h cs vs hb h4⟩
  | .list cs n g, _, hb, hv => by
    simp only [VR0, AV.refs] at hv hb ⊢
    obtain ⟨A, cap, h1, h2, h3, h4⟩ := hv
    refine ⟨A, cap, h1, h2, h3, h4.imp id ?_⟩
    rintro ⟨b, o, vs, h5, h6, h7, h8⟩
    exact ⟨b, o, vs, h5, h6.alive h, h7.alive h h6.1, VRs0.alive h cs vs hb h8⟩
  | .nilf, _, _, hv => by simp only [VR0] at hv ⊢; exact hv
  | .mapn, _, _, hv => by simp only [VR0] at hv ⊢; exact hv
  | .mapr i, _, hb, hv => by
    simp only [VR0, AV.refs, decide_eq_true_eq] at hv hb ⊢
    rw [h.mu i hb]
    exact ⟨hv.1, Nat.lt_of_lt_of_le hb h.n⟩
  | .func fn cs, _, hb, hv => by
    simp only [VR0, AV.refs] at hv hb ⊢
    obtain ⟨vs, h1, h2⟩ := hv
    exact ⟨vs, h1, VRs0.alive h cs vs hb h2⟩
  | .agg cs, _, hb, hv => by
    simp only [VR0, AV.refs] at hv hb ⊢
    obtain ⟨vs, h1, h2⟩ := hv
    exact ⟨vs, h1, VRs0.alive h cs vs hb h2⟩
  | .tuple cs, _, hb, hv => by
    simp only [VR0, AV.refs] at hv hb ⊢
    obtain ⟨vs, h1, h2⟩ := hv
    exact ⟨vs, h1, VRs0.alive h cs vs hb h2⟩
theorem VRs0.alive (h : Alive nb G G' w w') : ∀ (as : List AV) (vs : List Value), belows nb as = true → VRs0 G w as vs → VRs0 G' w' as vs
  | [], _, _, hv => by simp only [VRs0] at hv ⊢; exact hv
  | a :: as, _, hb, hv => by
    simp only [VRs0, belows, Bool.and_eq_true] at hv hb ⊢
    obtain ⟨v, vs', h1, h2, h3⟩ := hv
    exact ⟨v, vs', h1, VR0.alive h a v hb.1 h2, VRs0.alive h as vs' hb.2 h3⟩
end
theorem VR.alive (h : Alive nb G G' w w') {M : Nat → Prop} {a : AV} {v : Value} (hr : a.refs nb = true) (hv : VR M G w a v) : VR M G' w' a v := by
  refine ⟨VR0.alive h a v hr hv.1, ?_⟩
  have ho := hv.2
  unfold OwnC at *
  split
  · rcases ho with ho | ⟨g, cap, cur, h1, h2, h3, h4, h5, h6, h7, h8⟩
    · exact .inl ho
    · have hg : g < w.heap.size := by
        rcases Nat.lt_or_ge g w.heap.size with hh | hh
        · exact hh
        · rw [Array.getElem?_eq_none hh] at h7; cases h7
      obtain ⟨k1, k2, k3⟩ := h.own g hg
      exact .inr ⟨g, cap, cur, h1, h2, k1.trans h3, fun hb => h4 (h.obj g hg hb), k2.trans h5, k3.trans h6, (h.heap g hg).trans h7, h8⟩
  · trivial
end
def Gh.born (G : Gh) (idx b : Nat) : Gh :=
  { G with live := fun i => if i = idx then true else G.live i, mu := fun i => if i = idx then b else G.mu i, own := fun x => if x = b then false else G.own x }
theorem Alive.born {nb : Nat} {G : Gh} {w : World} {idx : Nat} {ob : Obj} (hn : nb ≤ G.n) (hi : nb ≤ idx) : Alive nb G (G.born idx w.heap.size) w (w.alloc ob) := by
  have hg := grown_alloc w ob
  refine ⟨hg.size, fun b hb => hg.block b hb (by simp), fun b hb => ?_, fun b hb => ?_, fun i hlt => ?_, hn⟩
  · simp only [Gh.born]; rw [if_neg (by omega)]; exact ⟨rfl, trivial, trivial⟩
  · rintro ⟨i, h1, h2, h3⟩
    simp only [Gh.born] at h1 h2 h3
    by_cases hii : i = idx
    · rw [if_pos hii] at h3; omega
    · rw [if_neg hii] at h2 h3; exact ⟨i, h1, h2, h3⟩
  · simp only [Gh.born]; rw [if_neg (by omega)]
/-- all that live objects hold points below -/
def Belows (nb : Nat) (s : List Ob) : Prop := ∀ (i : Nat) (o : Ob), s[i]? = some o → o.live = true → belows nb o.cs = true
theorem Sim.born {M : Nat → Prop} {G : Gh} {s : List Ob} {w : World} {nb idx : Nat} {cs : List AV} {vs : List Value} {t : TypeId} (ht : t ≠ mapT) (h : Sim M G s w) (hn : nb ≤ idx) (hi : idx < s.length) (hb : Belows nb s) (hl : vs.length = cs.length)
    (hv : ∀ (k : Nat) (a : AV) (v : Value), cs[k]? = some a → vs[k]? = some v → VR M (G.born idx w.heap.size) (w.alloc (.cells vs.toArray t)) a v) : Sim M (G.born idx w.heap.size) (s.set idx ⟨cs, t, true⟩) (w.alloc (.cells vs.toArray t)) := by
  have hG : idx < G.n := by rw [h.n]; exact hi
  have hA := Alive.born (nb := nb) (G := G) (w := w) (idx := idx) (ob := .cells vs.toArray t) (by omega) hn
  refine ⟨by simp [Gh.born, h.n], ?_, ?_, ?_, fun {i} hi hl' => ?_, ?_⟩
  · intro i j hi hj h1 h2 heq
    simp only [Gh.born] at hi hj h1 h2 heq
    split at heq <;> split at heq
    · omega
    · rename_i h3 h4
      rw [if_neg h4] at h2
      have := h.lt hj h2
      omega
    · rename_i h3 h4
      rw [if_neg h3] at h1
      have := h.lt hi h1
      omega
    · rename_i h3 h4
      rw [if_neg h3] at h1
      rw [if_neg h4] at h2
      exact h.inj i j hi hj h1 h2 heq
  · intro i hi hl'
    simp only [Gh.born] at hi hl' ⊢
    split
    · simp
    · rename_i h3
      rw [if_neg h3] at hl'
      have := h.lt hi hl'
      rw [if_neg (by omega)]
      exact h.own i hi hl'
  · intro i o hi hol
    rw [List.getElem?_set] at hi
    simp only [Gh.born]
    split at hi
    · rename_i h3; rw [if_pos h3.symm]
    · rename_i h3; rw [if_neg (fun e => h3 e.symm)]; exact h.live i o hi hol
  · simp only [Gh.born] at hi hl' ⊢
    have hsz : (w.alloc (Obj.cells vs.toArray t)).heap.size = w.heap.size + 1 := by simp
    rw [hsz]
    split
    · omega
    · rename_i h3
      rw [if_neg h3] at hl'
      have := h.lt hi hl'
      omega
  · intro i o hi hol
    rw [List.getElem?_set] at hi
    split at hi
    · rename_i h3
      have hi : (⟨cs, t, true⟩ : Ob) = o := by simpa using hi
      subst hi
      refine ⟨vs, ?_, hl, fun k a v hk hv' => hv k a v hk hv'⟩
      simp only [Gh.born]
      rw [if_pos h3.symm, Ob.obj_cells (o := ⟨cs, t, true⟩) ht]
      exact heap_alloc_new w _
    · rename_i h3
      obtain ⟨us, h4, h5, h6⟩ := h.at_ i o hi hol
      have hi' : i < G.n := by rw [h.n]; exact lt_of_some hi
      refine ⟨us, ?_, h5, fun k a v hk hv => (h6 k a v hk hv).alive hA (belows_get (hb i o hi hol) hk)⟩
      simp only [Gh.born]
      rw [if_neg (fun e => h3 e.symm), hA.heap _ (h.lt hi' (h.live i o hi hol))]
      exact h4
theorem Ext.born {M : Nat → Prop} {G0 G : Gh} {w0 w : World} {nb idx : Nat} {ob : Obj} (h : Ext M G0 w0 G w) (h0 : G0.n ≤ nb) (hi : nb ≤ idx) : Ext M G0 w0 (G.born idx w.heap.size) (w.alloc ob) := by
  have hg := grown_alloc w ob
  refine ⟨Nat.le_trans h.size hg.size, hg.os.trans h.os, hg.tape.trans h.tape, hg.output.trans h.output, h.n, ?_, ?_, ?_, ?_, ?_, ?_, ?_, ?_⟩
  · intro i hlt hl
    simp only [Gh.born] at hl
    rw [if_neg (by omega)] at hl
    exact h.live i hlt hl
  · intro i hlt
    simp only [Gh.born]
    rw [if_neg (by omega)]
    exact h.mu i hlt
  · intro i h1 h2
    simp only [Gh.born] at h2 ⊢
    split
    · exact h.size
    · exact h.newobj i h1 h2
  · intro b hb
    simp only [Gh.born]
    rw [if_neg (by have := h.size; omega)]
    exact h.own b hb
  · intro b hb ho
    exact h.phi b hb ho
  · intro b hb hn ho
    rw [hg.block b (Nat.lt_of_lt_of_le hb h.size) (by simp)]
    exact h.cell b hb hn ho
  · intro b hb hn ho o hlt
    rw [World.cell?_of_block (w := w) (hg.block b (Nat.lt_of_lt_of_le hb h.size) (by simp))]
    exact h.row b hb hn ho o hlt
  · intro b hb hn ho hm
    obtain ⟨k1, k2, k3⟩ := h.keep b hb hn ho hm
    exact ⟨(hg.block b (Nat.lt_of_lt_of_le hb h.size) (by simp)).trans k1, k2, k3⟩
/-- the places of objects that are to come -/
def Gh.room (G : Gh) (K b : Nat) : Gh := { G with n := G.n + K, live := fun i => if i < G.n then G.live i else false, mu := fun i => if i < G.n then G.mu i else b }
theorem Ext.room {M : Nat → Prop} {G0 G : Gh} {w0 w : World} (h : Ext M G0 w0 G w) (K : Nat) : Ext M G0 w0 (G.room K w.heap.size) w := by
  refine { h with n := Nat.le_trans h.n (by simp [Gh.room]), live := ?_, mu := ?_, newobj := ?_, own := h.own, phi := h.phi, cell := h.cell, row := h.row, keep := h.keep }
  · intro i hlt hl
    simp only [Gh.room] at hl
    rw [if_pos (Nat.lt_of_lt_of_le hlt h.n)] at hl
    exact h.live i hlt hl
  · intro i hlt
    simp only [Gh.room]
    rw [if_pos (Nat.lt_of_lt_of_le hlt h.n)]
    exact h.mu i hlt
  · intro i h1 h2
    simp only [Gh.room] at h2 ⊢
    split
    · rename_i h3; exact h.newobj i h1 h3
    · exact h.size
theorem Alive.room {G : Gh} {w : World} (K b : Nat) : Alive G.n G (G.room K b) w w := by
  refine ⟨Nat.le_refl _, fun _ _ => rfl, fun _ _ => ⟨rfl, rfl, rfl⟩, fun b hb => ?_, fun i hi => ?_, by simp [Gh.room]⟩
  · rintro ⟨i, h1, h2, h3⟩
    simp only [Gh.room] at h1 h2 h3
    split at h2
    · rename_i h4; rw [if_pos h4] at h3; exact ⟨i, h4, h2, h3⟩
    · cases h2
  · simp only [Gh.room]; rw [if_pos hi]
theorem Sim.room {M : Nat → Prop} {G : Gh} {s : List Ob} {w : World} (h : Sim M G s w) (K b : Nat) : Sim M (G.room K b) (s ++ List.replicate K deadO) w := by
  have hA := Alive.room (G := G) (w := w) K b
  have hlv : ∀ i, (G.room K b).live i = true → i < G.n ∧ G.live i = true ∧ (G.room K b).mu i = G.mu i := by
    intro i hl
    simp only [Gh.room] at hl ⊢
    split at hl
    · rename_i h4; exact ⟨h4, hl, if_pos h4⟩
    · cases hl
  have hget : ∀ (i : Nat) (o : Ob), (s ++ List.replicate K deadO)[i]? = some o → o.live = true → s[i]? = some o := by
    intro i o hi hl
    rw [List.getElem?_append] at hi
    split at hi
    · exact hi
    · rw [List.getElem?_replicate] at hi
      split at hi
      · cases hi; cases hl
      · cases hi
  refine ⟨by simp [Gh.room, h.n], ?_, ?_, ?_, fun {i} hi hl => ?_, ?_⟩
  · intro i j hi hj h1 h2 heq
    obtain ⟨a1, a2, a3⟩ := hlv i h1
    obtain ⟨b1, b2, b3⟩ := hlv j h2
    rw [a3, b3] at heq
    exact h.inj i j a1 b1 a2 b2 heq
  · intro i hi hl
    obtain ⟨a1, a2, a3⟩ := hlv i hl
    rw [a3]
    exact h.own i a1 a2
  · intro i o hi hol
    have hi' := hget i o hi hol
    have := lt_of_some hi'
    simp only [Gh.room]
    rw [if_pos (by rw [h.n]; exact this)]
    exact h.live i o hi' hol
  · obtain ⟨a1, a2, a3⟩ := hlv i hl
    rw [a3]
    exact h.lt a1 a2
  · intro i o hi hol
    have hi' := hget i o hi hol
    have hlt : i < G.n := by rw [h.n]; exact lt_of_some hi'
    obtain ⟨vs, h1, h2, h3⟩ := h.at_ i o hi' hol
    refine ⟨vs, ?_, h2, fun k a v hk hv => (h3 k a v hk hv).alive hA (by rw [h.n]; exact belows_get (h.refs hi' hol) hk)⟩
    simp only [Gh.room]
    rw [if_pos hlt]
    exact h1

/-! operations of the head -/
/-- it tells a value, and no object, no row is written -/
def HPure (P : Program) (A : Array Oper) (o : Oper) (fr : List AV) (sv : List Ob) (v : AV) : Prop :=
  ∀ M G w a s, Fresh P M G w → Sim M G s w → Sim M G sv w → FR M G w (aForget (readsOf A o) fr) a → ∀ (K : Act → World → Prop) (Q : Exit → Act → World → Prop),
    (∀ cv G' w', Ext (fun _ => False) G w G' w' → Sim M G' s w' → VR M G' w' v cv → K (a.put o.dst cv) w') → o.wp P a w K Q
theorem HPure_pure {P : Program} {A : Array Oper} {o : Oper} {fr : List AV} {sv : List Ob} {v : AV} (h : aPureV P fr sv o = some v) : HPure P A o fr sv v := by
  have h' : aPureV P (aForget (readsOf A o) fr) sv o = some v := by rw [aPureV_congr fun x hx => aEval_forget hx]; exact h
  intro M G w a s hF hs hS hf K Q hK
  rcases Pure_det h' with hst | hst
  · obtain ⟨cv, h1, h2⟩ := hst M G w a hS hf
    unfold Oper.wp
    rw [h1, Oper.upon_value]
    exact hK cv G w (Ext.refl _ _ _) hs h2
  · obtain ⟨cv, ob, h1, h2⟩ := hst M G w a hS hf
    have hg := grown_alloc w ob
    have hm := More.addForeign G w
    unfold Oper.wp
    rw [h1, Oper.upon_value]
    exact hK cv _ _ (Ext.grow hg hm) (hs.grow hg hm rfl) h2
theorem HPure.weaken {P : Program} {A : Array Oper} {o : Oper} {fr : List AV} {sv : List Ob} {v v' : AV} (h : HPure P A o fr sv v) (k : WkM v v') : HPure P A o fr sv v' :=
  fun M G w a s hF hs hS hf K Q hK => h M G w a s hF hs hS hf K Q fun cv G' w' h1 h2 h3 => hK cv G' w' h1 h2 (k M G' w' cv h3)
theorem HPure_callP {P : Program} {A : Array Oper} {o : Oper} {fr : List AV} {sv : List Ob} {r : AV} {c : Call} {x : Operand} {f : FuncId} {fcs : List AV} (ho : o.op = .call c) (hc : c.callee = .value x) (hx : aEval fr x = .func (.func f) fcs)
    (hbody : enters P f = true) (hok : Ok P f ((c.args.toList.map fun y => (aEval fr y).soft) ++ fcs) [] r []) (ha : frees ((c.args.toList.map fun y => (aEval fr y).soft) ++ fcs) = true) (hr : r.free = true) (hm : r.mark = none) : HPure P A o fr sv r := by
  intro M G w a s hF hs hS hf K Q hK
  have hxo : ∀ y ∈ o.op.operands, aEval (aForget (readsOf A o) fr) y = aEval fr y := fun y hy => aEval_forget hy
  have hx' : aEval (aForget (readsOf A o) fr) x = .func (.func f) fcs := by
    rw [hxo x (by simp [ho, Op.operands, Call.operands, hc])]
    exact hx
  have hargs' : (c.args.toList.map fun y => (aEval (aForget (readsOf A o) fr) y).soft) = c.args.toList.map fun y => (aEval fr y).soft :=
    List.map_congr_left fun y hy => by rw [hxo y (by simp [ho, Op.operands, Call.operands]; right; simpa using hy)]
  refine CallP_wp (a := a) ho hc hx' hbody (by rw [hargs']; exact hok) (by rw [hargs']; exact ha) hr hs hF.2 hf K Q ?_
  intro v G' w' h1 h2 h3
  exact hK v G' w' h3 h2 ⟨h1, OwnC.of_plain hm⟩
theorem HPure_callR {P : Program} {A : Array Oper} {o : Oper} {fr : List AV} {sv : List Ob} {r : AV} {c : Call} {x : Operand} {f : FuncId} {fcs args : List AV} (ho : o.op = .call c) (hc : c.callee = .value x) (hx : aEval fr x = .func (.func f) fcs)
    (hbody : enters P f = true) (hok : Ok P f args [] r []) (hsn : ∀ M G w cv, Sim M G sv w → VRs0 G w ((c.args.toList.map fun y => (aEval fr y).soft) ++ fcs) cv → VRs0 G.bare w args cv) (hr : r.flat = true) (hm : r.mark = none) : HPure P A o fr sv r := by
  intro M G w a s hF hs hS hf K Q hK
  have hxo : ∀ y ∈ o.op.operands, aEval (aForget (readsOf A o) fr) y = aEval fr y := fun y hy => aEval_forget hy
  have hx' : aEval (aForget (readsOf A o) fr) x = .func (.func f) fcs := by
    rw [hxo x (by simp [ho, Op.operands, Call.operands, hc])]
    exact hx
  have hargs' : (c.args.toList.map fun y => (aEval (aForget (readsOf A o) fr) y).soft) = c.args.toList.map fun y => (aEval fr y).soft :=
    List.map_congr_left fun y hy => by rw [hxo y (by simp [ho, Op.operands, Call.operands]; right; simpa using hy)]
  refine CallR_wp (a := a) ho hc hx' hbody hok (fun cv hcv => hsn M G w cv hS (by rw [hargs'] at hcv; exact hcv)) hr hs hF.2 hf K Q ?_
  intro v G' w' h1 h2 h3
  exact hK v G' w' h2 (h3 s hs) ⟨h1, OwnC.of_plain hm⟩
/-- it writes an object -/
def HStore (P : Program) (A : Array Oper) (o : Oper) (fr : List AV) (sv : List Ob) (idx : Nat) (ob : Ob) : Prop :=
  ∀ M G w a, Sim M G sv w → FR M G w (aForget (readsOf A o) fr) a → ∃ w', (execOp a.eval o).run P w = .ok .skip w' ∧ Ext (fun _ => False) G w G w' ∧ (∀ b, b ≠ G.mu idx → w'.heap[b]? = w.heap[b]?) ∧ idx < G.n ∧ G.live idx = true ∧ ∃ sv', Sim M G sv' w' ∧ sv'[idx]? = some ob
theorem Sim.patch {M : Nat → Prop} {G : Gh} {s sv : List Ob} {w w' : World} {idx : Nat} {ob : Ob} (h : Sim M G s w) (hE : Ext (fun _ => False) G w G w') (ho : ∀ b, b ≠ G.mu idx → w'.heap[b]? = w.heap[b]?) (hi : idx < G.n) (hl : G.live idx = true) (hv : Sim M G sv w') (hg : sv[idx]? = some ob) : Sim M G (s.set idx ob) w' := by
  refine ⟨by simp [h.n], h.inj, h.own, ?_, fun {j} hj hl => Nat.lt_of_lt_of_le (h.lt hj hl) hE.size, ?_⟩
  · intro j o' hj hol
    rw [List.getElem?_set] at hj
    split at hj
    · rename_i e; subst e; exact hl
    · exact h.live j o' hj hol
  · intro j o' hj hol
    rw [List.getElem?_set] at hj
    split at hj
    · rename_i e
      subst e
      have hj : ob = o' := by
        first
        | simpa using hj
        | (split at hj
           · simpa using hj
           · cases hj)
      subst hj
      exact hv.at_ idx ob hg hol
    · rename_i e
      obtain ⟨us, g1, g2, g3⟩ := h.at_ j o' hj hol
      refine ⟨us, ?_, g2, fun k' a' v' hk hv' => (g3 k' a' v' hk hv').grow hE⟩
      rw [ho]
      · exact g1
      · intro e2
        have hj' : j < G.n := by rw [h.n]; exact lt_of_some hj
        exact e (h.inj idx j hi hj' hl (h.live j o' hj hol) e2.symm)
/-- it writes rows of these marks -/
def HApp (P : Program) (A : Array Oper) (o : Oper) (fr : List AV) (ts : List Nat) (v : AV) : Prop :=
  ∀ M G w a s, Fresh P M G w → Sim M G s w → FR M G w (aForget (readsOf A o) fr) a → ∀ (K : Act → World → Prop) (Q : Exit → Act → World → Prop),
    (∀ cv G' w', Ext (fun b => M b ∧ G.tg b ∈ ts) G w G' w' → Sim M G' (clearStore ts s) w' → VR M G' w' v cv → K (a.put o.dst cv) w') → o.wp P a w K Q
theorem clearStore_nil (s : List Ob) : clearStore [] s = s := by
  unfold clearStore
  have : ∀ o : Ob, { o with cs := o.cs.map (clearMark []) } = o := fun o => by
    have : o.cs.map (clearMark []) = o.cs := by
      conv => rhs; rw [← List.map_id o.cs]
      apply List.map_congr_left
      intro a _
      rcases clearMark_cases [] a with e | ⟨_, t, _, h⟩
      · exact e
      · cases h
    rw [this]
  conv => rhs; rw [← List.map_id s]
  exact List.map_congr_left fun o _ => this o
theorem HApp_full {P : Program} {A : Array Oper} {o : Oper} {fr : List AV} {c : Call} {x y : Operand} {t e : TypeId} {cs cs2 : List AV} {n m size : Nat} {g2 : Tag} (d : Nat) (ho : o.op = .call c) (hc : c.callee = .builtin .append) (ha : c.args = #[x, y]) (ht : c.argTypes = #[t, t]) (he : aElem P t = some (e, size))
    (hx : aEval fr x = .list cs n .full) (hy : aEval fr y = .list cs2 m g2) (h0 : 0 < m) (hl1 : cs.length = n * size) (hl2 : cs2.length = m * size) (hone : cs2.all AV.one = true) (hfit : fitsB P e size (n + m) = true) :
    HApp P A o fr [] (.list (cs ++ cs2) (n + m) (.own d e size)) := by
  intro M G w a s hF hS hf K Q hK
  have hm : ∀ z, z = x ∨ z = y → aEval (aForget (readsOf A o) fr) z = aEval fr z := fun z hz => aEval_forget (by simp [ho, Op.operands, Call.operands, ha]; rcases hz with rfl | rfl <;> simp)
  refine Step_append_fullF (s := s) d ho hc ha ht he ((hm x (.inl rfl)).trans hx) ((hm y (.inr rfl)).trans hy) h0 hl1 hl2 hone hfit M G w a hF hS hf K Q fun cv G' w' h1 h2 h3 h4 => ?_
  exact hK cv G' w' (h1.mono fun _ _ h => h.elim) (by rw [clearStore_nil]; exact h2) h4
theorem HApp_own {P : Program} {A : Array Oper} {o : Oper} {fr : List AV} {c : Call} {x y : Operand} {t e : TypeId} {cs cs2 : List AV} {n m size t0 : Nat} {g2 : Tag} (d : Nat) (ho : o.op = .call c) (hc : c.callee = .builtin .append) (ha : c.args = #[x, y]) (ht : c.argTypes = #[t, t]) (he : aElem P t = some (e, size))
    (hx : aEval fr x = .list cs n (.own t0 e size)) (hy : aEval fr y = .list cs2 m g2) (h0 : 0 < m) (hl2 : cs2.length = m * size) (hone : cs2.all AV.one = true) (hfit : fitsB P e size (n + m) = true) :
    HApp P A o fr [t0] (.list (cs ++ cs2) (n + m) (.own d e size)) := by
  intro M G w a s hF hS hf K Q hK
  have hm : ∀ z, z = x ∨ z = y → aEval (aForget (readsOf A o) fr) z = aEval fr z := fun z hz => aEval_forget (by simp [ho, Op.operands, Call.operands, ha]; rcases hz with rfl | rfl <;> simp)
  exact Step_append_ownM (s := s) d ho hc ha ht he ((hm x (.inl rfl)).trans hx) ((hm y (.inr rfl)).trans hy) h0 hl2 hone hfit M G w a hF hS hf K Q fun cv G' w' h1 h2 h3 h4 => hK cv G' w' h1 h2 h4
theorem HApp.weaken {P : Program} {A : Array Oper} {o : Oper} {fr : List AV} {ts : List Nat} {v v' : AV} (h : HApp P A o fr ts v) (k : WkM v v') : HApp P A o fr ts v' :=
  fun M G w a s hF hS hf K Q hK => h M G w a s hF hS hf K Q fun cv G' w' h1 h2 h3 => hK cv G' w' h1 h2 (k M G' w' cv h3)
end
end Go.Proofs.YtmacghaihlfcpaaGreat.Abs
