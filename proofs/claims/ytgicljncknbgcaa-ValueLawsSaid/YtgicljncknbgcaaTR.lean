/- A contract on some objects holds beside others. -/
import Derived.Test.YtgicljncknbgcaaTN
namespace Go.Proofs.Ytgicljncknbgcaa.Abs
open Go Go.ChangeShapes Go.WideShapes Go.ChangeAt Go.RowKit
set_option linter.unusedVariables false
set_option linter.unusedSimpArgs false

mutual
/-- pointers renamed -/
def AV.pi (π : Nat → Nat) : AV → AV
  | .ref i o => .ref (π i) o
  | .arr i n => .arr (π i) n
  | .eptr cs o => .eptr (pis π cs) o
  | .list cs n g => .list (pis π cs) n g
  | .func f cs => .func f (pis π cs)
  | .agg cs => .agg (pis π cs)
  | .tuple cs => .tuple (pis π cs)
  | .undef => .undef
  | .int k n => .int k n
  | .bool b => .bool b
  | .str s => .str s
  | .nilp => .nilp
  | .nilf => .nilf
def pis (π : Nat → Nat) : List AV → List AV
  | [] => []
  | a :: as => a.pi π :: pis π as
end
theorem pis_map (π : Nat → Nat) : ∀ l, pis π l = l.map (AV.pi π)
  | [] => rfl
  | a :: as => by simp only [pis, List.map_cons, pis_map π as]
theorem pis_length (π : Nat → Nat) (l : List AV) : (pis π l).length = l.length := by rw [pis_map, List.length_map]
theorem pis_nil {π : Nat → Nat} {l : List AV} : pis π l = [] ↔ l = [] := by rw [pis_map, List.map_eq_nil_iff]
mutual
/-- its pointers are to objects below m -/
def AV.emb (m : Nat) : AV → Bool
  | .ref i _ => decide (i < m)
  | .arr i _ => decide (i < m)
  | .eptr cs _ => !cs.isEmpty && embs m cs
  | .list cs _ _ => embs m cs
  | .func _ cs => embs m cs
  | .agg cs => embs m cs
  | .tuple cs => embs m cs
  | .undef | .int .. | .bool _ | .str _ | .nilp | .nilf => true
def embs (m : Nat) : List AV → Bool
  | [] => true
  | a :: as => a.emb m && embs m as
end
theorem embs_get {m : Nat} : ∀ {l : List AV} {k : Nat} {a : AV}, embs m l = true → l[k]? = some a → a.emb m = true
  | [], k, _, _, h => by simp at h
  | b :: cs, 0, a, hb, h => by simp at h; subst h; simp only [embs, Bool.and_eq_true] at hb; exact hb.1
  | b :: cs, k + 1, a, hb, h => by simp only [embs, Bool.and_eq_true] at hb; exact embs_get hb.2 (by simpa using h)
section
variable {G G1 : Gh} {w : World} {π : Nat → Nat} {m : Nat}
mutual
theorem VR0.into (hn : m ≤ G1.n) (hmu : ∀ c, c < m → G1.mu c = G.mu (π c)) (hs : ∀ b o len, 0 < len → Seen G w b o len → Seen G1 w b o len) : ∀ (a : AV) (v : Value), a.emb m = true → VR0 G w (a.pi π) v → VR0 G1 w a v
  | .undef, _, _, _ => by simp only [VR0]
  | .int .., _, _, hv => by simp only [VR0, AV.pi] at hv ⊢; exact hv
  | .bool .., _, _, hv => by simp only [VR0, AV.pi] at hv ⊢; exact hv
  | .str .., _, _, hv => by simp only [VR0, AV.pi] at hv ⊢; exact hv
  | .nilp, _, _, hv => by simp only [VR0, AV.pi] at hv ⊢; exact hv
  | .nilf, _, _, hv => by simp only [VR0, AV.pi] at hv ⊢; exact hv
  | .ref i o, _, hb, hv => by
    simp only [VR0, AV.pi, AV.emb, decide_eq_true_eq] at hv hb ⊢
    rw [hmu i hb]
    exact ⟨hv.1, Nat.lt_of_lt_of_le hb hn⟩
  | .arr i o, _, hb, hv => by
    simp only [VR0, AV.pi, AV.emb, decide_eq_true_eq] at hv hb ⊢
    rw [hmu i hb]
    exact ⟨hv.1, Nat.lt_of_lt_of_le hb hn⟩
  | .eptr cs o, _, hb, hv => by
    simp only [VR0, AV.pi, AV.emb, Bool.and_eq_true, Bool.not_eq_true', List.isEmpty_eq_false_iff] at hv hb ⊢
    obtain ⟨b, ob, vs, h1, h2, h3, h4⟩ := hv
    rw [pis_length] at h2
    exact ⟨b, ob, vs, h1, hs _ _ _ (List.length_pos_iff.2 hb.1) h2, h3, VRs0.into hn hmu hs cs vs hb.2 h4⟩
  | .list cs n g, _, hb, hv => by
    simp only [VR0, AV.pi, AV.emb] at hv hb ⊢
    obtain ⟨A, cap, h1, h2, h3, h4⟩ := hv
    refine ⟨A, cap, h1, h2, h3, ?_⟩
    rcases h4 with h4 | ⟨b, o, vs, h5, h6, h7, h8⟩
    · exact .inl (pis_nil.1 h4)
    · by_cases hc : cs = []
      · exact .inl hc
      · rw [pis_length] at h6
        exact .inr ⟨b, o, vs, h5, hs _ _ _ (List.length_pos_iff.2 hc) h6, h7, VRs0.into hn hmu hs cs vs hb h8⟩
  | .func fn cs, _, hb, hv => by
    simp only [VR0, AV.pi, AV.emb] at hv hb ⊢
    obtain ⟨vs, h1, h2⟩ := hv
    exact ⟨vs, h1, VRs0.into hn hmu hs cs vs hb h2⟩
  | .agg cs, _, hb, hv => by
    simp only [VR0, AV.pi, AV.emb] at hv hb ⊢
    obtain ⟨vs, h1, h2⟩ := hv
    exact ⟨vs, h1, VRs0.into hn hmu hs cs vs hb h2⟩
  | .tuple cs, _, hb, hv => by
    simp only [VR0, AV.pi, AV.emb] at hv hb ⊢
    obtain ⟨vs, h1, h2⟩ := hv
    exact ⟨vs, h1, VRs0.into hn hmu hs cs vs hb h2⟩
theorem VRs0.into (hn : m ≤ G1.n) (hmu : ∀ c, c < m → G1.mu c = G.mu (π c)) (hs : ∀ b o len, 0 < len → Seen G w b o len → Seen G1 w b o len) : ∀ (as : List AV) (vs : List Value), embs m as = true → VRs0 G w (pis π as) vs → VRs0 G1 w as vs
  | [], _, _, hv => by simp only [VRs0, pis] at hv ⊢; exact hv
  | a :: as, _, hb, hv => by
    simp only [VRs0, pis, embs, Bool.and_eq_true] at hv hb ⊢
    obtain ⟨v, vs', h1, h2, h3⟩ := hv
    exact ⟨v, vs', h1, VR0.into hn hmu hs a v hb.1 h2, VRs0.into hn hmu hs as vs' hb.2 h3⟩
end
mutual
theorem VR0.outof (hn : ∀ c, c < m → π c < G1.n) (hmu : ∀ c, c < m → G1.mu (π c) = G.mu c) (hs : ∀ b o len, 0 < len → Seen G w b o len → Seen G1 w b o len) : ∀ (a : AV) (v : Value), a.emb m = true → VR0 G w a v → VR0 G1 w (a.pi π) v
  | .undef, _, _, _ => by simp only [VR0, AV.pi]
  | .int .., _, _, hv => by simp only [VR0, AV.pi] at hv ⊢; exact hv
  | .bool .., _, _, hv => by simp only [VR0, AV.pi] at hv ⊢; exact hv
  | .str .., _, _, hv => by simp only [VR0, AV.pi] at hv ⊢; exact hv
  | .nilp, _, _, hv => by simp only [VR0, AV.pi] at hv ⊢; exact hv
  | .nilf, _, _, hv => by simp only [VR0, AV.pi] at hv ⊢; exact hv
  | .ref i o, _, hb, hv => by
    simp only [VR0, AV.pi, AV.emb, decide_eq_true_eq] at hv hb ⊢
    rw [hmu i hb]
    exact ⟨hv.1, hn i hb⟩
  | .arr i o, _, hb, hv => by
    simp only [VR0, AV.pi, AV.emb, decide_eq_true_eq] at hv hb ⊢
    rw [hmu i hb]
    exact ⟨hv.1, hn i hb⟩
  | .eptr cs o, _, hb, hv => by
    simp only [VR0, AV.pi, AV.emb, Bool.and_eq_true, Bool.not_eq_true', List.isEmpty_eq_false_iff] at hv hb ⊢
    obtain ⟨b, ob, vs, h1, h2, h3, h4⟩ := hv
    rw [pis_length]
    exact ⟨b, ob, vs, h1, hs _ _ _ (List.length_pos_iff.2 hb.1) h2, h3, VRs0.outof hn hmu hs cs vs hb.2 h4⟩
  | .list cs n g, _, hb, hv => by
    simp only [VR0, AV.pi, AV.emb] at hv hb ⊢
    obtain ⟨A, cap, h1, h2, h3, h4⟩ := hv
    refine ⟨A, cap, h1, h2, h3, ?_⟩
    rcases h4 with h4 | ⟨b, o, vs, h5, h6, h7, h8⟩
    · exact .inl (pis_nil.2 h4)
    · by_cases hc : cs = []
      · exact .inl (pis_nil.2 hc)
      · refine .inr ⟨b, o, vs, h5, ?_, h7, VRs0.outof hn hmu hs cs vs hb h8⟩
        rw [pis_length]
        exact hs _ _ _ (List.length_pos_iff.2 hc) h6
  | .func fn cs, _, hb, hv => by
    simp only [VR0, AV.pi, AV.emb] at hv hb ⊢
    obtain ⟨vs, h1, h2⟩ := hv
    exact ⟨vs, h1, VRs0.outof hn hmu hs cs vs hb h2⟩
  | .agg cs, _, hb, hv => by
    simp only [VR0, AV.pi, AV.emb] at hv hb ⊢
    obtain ⟨vs, h1, h2⟩ := hv
    exact ⟨vs, h1, VRs0.outof hn hmu hs cs vs hb h2⟩
  | .tuple cs, _, hb, hv => by
    simp only [VR0, AV.pi, AV.emb] at hv hb ⊢
    obtain ⟨vs, h1, h2⟩ := hv
    exact ⟨vs, h1, VRs0.outof hn hmu hs cs vs hb h2⟩
theorem VRs0.outof (hn : ∀ c, c < m → π c < G1.n) (hmu : ∀ c, c < m → G1.mu (π c) = G.mu c) (hs : ∀ b o len, 0 < len → Seen G w b o len → Seen G1 w b o len) : ∀ (as : List AV) (vs : List Value), embs m as = true → VRs0 G w as vs → VRs0 G1 w (pis π as) vs
  | [], _, _, hv => by simp only [VRs0, pis] at hv ⊢; exact hv
  | a :: as, _, hb, hv => by
    simp only [VRs0, pis, embs, Bool.and_eq_true] at hv hb ⊢
    obtain ⟨v, vs', h1, h2, h3⟩ := hv
    exact ⟨v, vs', h1, VR0.outof hn hmu hs a v hb.1 h2, VRs0.outof hn hmu hs as vs' hb.2 h3⟩
end
end
theorem Ext.unren (G : Gh) (w : World) (M : Nat → Prop) (ρ : Nat → Nat) : Ext M (G.ren M ρ) w G w where
  size := Nat.le_refl _
  os := rfl
  tape := rfl
  output := rfl
  n := Nat.le_refl _
  live _ _ h := h
  mu _ _ := rfl
  newobj i h1 h2 := by simp only [Gh.ren] at h1; omega
  own _ _ := rfl
  phi _ _ _ := Nat.le_refl _
  cell _ _ _ _ := rfl
  row _ _ _ _ _ _ := rfl
  keep b _ _ _ hm := ⟨rfl, rfl, by simp only [Gh.ren]; rw [if_neg hm]⟩
/-- objects that the callee does not see -/
def Gh.away (G : Gh) (m : Nat) (π : Nat → Nat) (b : Nat) : Prop := G.obj b ∧ ¬ ∃ c, c < m ∧ G.mu (π c) = b
open Classical in
/-- some objects alone; marks renamed -/
noncomputable def Gh.part (G : Gh) (m : Nat) (π σ : Nat → Nat) : Gh where
  n := m
  live _ := true
  mu c := G.mu (π c)
  own b := if G.away m π b then true else G.own b
  phi b := if G.away m π b then 0 else G.phi b
  tg b := σ (G.tg b)
open Classical in
/-- told back -/
noncomputable def Gh.whole (G G1 : Gh) (size : Nat) (MS : Nat → Prop) : Gh where
  n := G.n
  live := G.live
  mu := G.mu
  own b := if b < size then G.own b else G1.own b
  phi := G1.phi
  tg b := if b < size ∧ ¬ MS b then G.tg b else G1.tg b
def ObIn (π σ : Nat → Nat) (m : Nat) (o oc : Ob) : Prop :=
  o.live = true ∧ oc.live = true ∧ oc.t = o.t ∧ oc.cs.length = o.cs.length ∧ embs m oc.cs = true ∧ ∀ (k : Nat) (a a1 : AV), o.cs[k]? = some a → oc.cs[k]? = some a1 → WkM (a.ren σ) (a1.pi π)
def Ob.pi (π : Nat → Nat) (o : Ob) : Ob := { o with cs := pis π o.cs }
theorem Ok_embed {P : Program} {f : FuncId} {args args' : List AV} {r : AV} {sc sc' s s' : List Ob} {m : Nat} {π σ : Nat → Nat} {Ts : List Nat} (h : Ok P f args sc r sc')
    (hm : sc.length = m) (hm' : sc'.length = m)
    (hinj : ∀ c d, c < m → d < m → π c = π d → c = d)
    (hob : ∀ (c : Nat) (oc : Ob), sc[c]? = some oc → ∃ o, s[π c]? = some o ∧ ObIn π σ m o oc)
    (hob' : ∀ (c : Nat) (oc : Ob), sc'[c]? = some oc → oc.live = true ∧ embs m oc.cs = true)
    (hσ : ∀ t, σ t ∈ storeMarks sc → t ∈ Ts) (hTs : ∀ t ∈ Ts, t ∈ storeMarks s)
    (hoth : ∀ (i : Nat) (o : Ob), s[i]? = some o → (∀ c, c < m → π c ≠ i) → o.live = true → ∀ (a : AV) (t : Nat), a ∈ o.cs → a.mark = some t → t ∉ Ts)
    (hlen : s'.length = s.length) (hs1 : ∀ c, c < m → s'[π c]? = (sc'[c]?).map (Ob.pi π)) (hs2 : ∀ i, (∀ c, c < m → π c ≠ i) → s'[i]? = s[i]?)
    (hargs' : Wks args' (pis π args)) (hae : embs m args = true) (hre : r.emb m = true) : Ok P f args' s (r.pi π) s' := by
  intro M G w cargs hS hargs
  have hargs := hargs'.VRs0 hargs
  have get : ∀ c, c < m → ∃ oc, sc[c]? = some oc := fun c hc => ⟨sc[c]'(by omega), List.getElem?_eq_getElem (by omega)⟩
  have hlt : ∀ c, c < m → π c < G.n ∧ G.live (π c) = true := fun c hc => by
    obtain ⟨oc, h1⟩ := get c hc
    obtain ⟨o, h2, h3, _⟩ := hob c oc h1
    exact ⟨by rw [hS.n]; exact lt_of_some h2, hS.live _ o h2 h3⟩
  have hobj : ∀ b, G.obj b → b < w.heap.size ∧ G.own b = false := by
    rintro b ⟨i, h1, h2, rfl⟩
    exact ⟨hS.lt h1 h2, hS.own i h1 h2⟩
  have hobc : ∀ c, c < m → G.obj (G.mu (π c)) := fun c hc => ⟨π c, (hlt c hc).1, (hlt c hc).2, rfl⟩
  obtain ⟨G1, hG1⟩ : ∃ G1, G1 = G.part m π σ := ⟨_, rfl⟩
  have g1n : G1.n = m := by rw [hG1]; rfl
  have g1l : ∀ c, G1.live c = true := fun c => by rw [hG1]; rfl
  have g1mu : ∀ c, G1.mu c = G.mu (π c) := fun c => by rw [hG1]; rfl
  have g1o : ∀ b, ¬ G.away m π b → G1.own b = G.own b ∧ G1.phi b = G.phi b := fun b hb => by
    rw [hG1]; simp only [Gh.part]; rw [if_neg hb, if_neg hb]; exact ⟨rfl, rfl⟩
  have g1a : ∀ b, G.away m π b → G1.own b = true ∧ G1.phi b = 0 := fun b hb => by
    rw [hG1]; simp only [Gh.part]; rw [if_pos hb, if_pos hb]; exact ⟨rfl, rfl⟩
  have g1t : ∀ b, G1.tg b = σ (G.tg b) := fun b => by rw [hG1]; rfl
  clear hG1
  have g1obj : ∀ b, G1.obj b → G.obj b := by
    rintro b ⟨c, h1, _, rfl⟩
    rw [g1n] at h1
    rw [g1mu]
    exact hobc c h1
  have g1na : ∀ b, G1.obj b → ¬ G.away m π b := by
    rintro b ⟨c, h1, _, rfl⟩ ⟨_, h2⟩
    rw [g1n] at h1
    exact h2 ⟨c, h1, (g1mu c).symm⟩
  have hseen : ∀ b o len, 0 < len → Seen G w b o len → Seen G1 w b o len := by
    rintro b o len hl ⟨k1, k2, k3⟩
    have hna : ¬ G.away m π b := fun ha => k2 ha.1
    refine ⟨k1, fun hh => k2 (g1obj b hh), fun ho => ?_⟩
    rw [(g1o b hna).1] at ho
    rw [(g1o b hna).2]
    exact k3 ho
  obtain ⟨M1, hM1⟩ : ∃ M1 : Nat → Prop, M1 = fun b => M b ∧ ¬ G.obj b := ⟨_, rfl⟩
  have hS1 : Sim M1 G1 sc w := by
    refine ⟨by rw [g1n, hm], ?_, ?_, fun i o _ _ => g1l i, ?_, ?_⟩
    · intro c d hc hd _ _ he
      rw [g1n] at hc hd
      rw [g1mu, g1mu] at he
      exact hinj c d hc hd (hS.inj _ _ (hlt c hc).1 (hlt d hd).1 (hlt c hc).2 (hlt d hd).2 he)
    · intro c hc _
      rw [g1n] at hc
      have hna : ¬ G.away m π (G1.mu c) := g1na _ ⟨c, by rw [g1n]; exact hc, g1l c, rfl⟩
      rw [(g1o _ hna).1, g1mu]
      exact hS.own _ (hlt c hc).1 (hlt c hc).2
    · intro c hc _
      rw [g1n] at hc
      rw [g1mu]
      exact hS.lt (hlt c hc).1 (hlt c hc).2
    · intro c oc hc _
      obtain ⟨o, h1, h2, h3, h4, h5, h6, h7⟩ := hob c oc hc
      have hcm : c < m := by rw [← hm]; exact lt_of_some hc
      obtain ⟨vs, k1, k2, k3⟩ := hS.at_ _ o h1 h2
      refine ⟨vs, by rw [g1mu, h4]; exact k1, by rw [k2, h5], fun k a1 v ha hv => ?_⟩
      have hk : k < o.cs.length := by rw [← h5]; exact lt_of_some ha
      have hk3 := (k3 k _ v (List.getElem?_eq_getElem hk) hv).ren σ
      have hk4 := h7 k _ a1 (List.getElem?_eq_getElem hk) ha M _ w v hk3
      have hemb := embs_get h6 ha
      have e0 : VR0 G w (a1.pi π) v := VR0.mono (Ext.unren G w M σ) (a1.pi π) v hk4.1
      refine ⟨VR0.into (by rw [g1n]; exact Nat.le_refl _) (fun c hc => g1mu c) hseen a1 v hemb e0, ?_⟩
      have ho := hk4.2
      cases a1 with
      | list cs n g =>
        cases g with
        | own t e z =>
          simp only [AV.pi, OwnC, pis_length] at ho ⊢
          rcases ho with ho | ⟨g, cap, cur, q1, q2, q3, q4, q5, q6, q7⟩
          · exact .inl ho
          · have hng : ¬ G.obj g := q4
            have hna : ¬ G.away m π g := fun ha => hng ha.1
            refine .inr ⟨g, cap, cur, q1, by rw [hM1]; exact ⟨q2, hng⟩, by rw [(g1o g hna).1]; exact q3, fun hh => hng (g1obj g hh), by rw [(g1o g hna).2]; exact q5, ?_, q7⟩
            rw [g1t]
            simp only [Gh.ren] at q6
            rw [if_pos q2] at q6
            exact q6
        | _ => exact OwnC.of_plain rfl
      | _ => exact OwnC.of_plain rfl
  have hsub : ∀ b, MofS M1 G1 sc w b → MofS M G s w b := by
    rintro b (hb | ⟨h1, t, h2, h3⟩)
    · exact .inl hb
    · rw [hM1] at h1
      refine .inr ⟨h1.1, G.tg b, rfl, hTs _ (hσ _ ?_)⟩
      rw [← g1t, h2]
      exact h3
  refine (h M1 G1 w cargs hS1 (VRs0.into (by rw [g1n]; exact Nat.le_refl _) (fun c hc => g1mu c) hseen args cargs hae hargs)).mono ?_
  rintro e w' ⟨v, G2, rfl, k1, k2, k3⟩
  obtain ⟨MS, hMS⟩ : ∃ MS, MS = MofS M1 G1 sc w := ⟨_, rfl⟩
  rw [← hMS] at k2 k3
  have hMSo : ∀ b, b < w.heap.size → MS b → ¬ G.obj b := by
    intro b hb hh
    rw [hMS] at hh
    rcases hh with hh | ⟨hh, _⟩
    · omega
    · rw [hM1] at hh; exact hh.2
  have hE : Ext MS G w (G.whole G2 w.heap.size MS) w' := {
    size := k3.size
    os := k3.os
    tape := k3.tape
    output := k3.output
    n := Nat.le_refl _
    live := fun _ _ h => h
    mu := fun _ _ => rfl
    newobj := fun i a1 a2 => by simp only [Gh.whole] at a2; omega
    own := fun b hb => by simp only [Gh.whole]; rw [if_pos hb]
    phi := fun b hb ho => by
      have hna : ¬ G.away m π b := fun ha => by have := (hobj b ha.1).2; rw [this] at ho; cases ho
      have := k3.phi b hb (by rw [(g1o b hna).1]; exact ho)
      rw [(g1o b hna).2] at this
      exact this
    cell := fun b hb hn ho => by
      have hna : ¬ G.away m π b := fun ha => hn ha.1
      exact k3.cell b hb (fun hh => hn (g1obj b hh)) (by rw [(g1o b hna).1]; exact ho)
    row := fun b hb hn ho o hlt => by
      have hna : ¬ G.away m π b := fun ha => hn ha.1
      exact k3.row b hb (fun hh => hn (g1obj b hh)) (by rw [(g1o b hna).1]; exact ho) o (by rw [(g1o b hna).2]; exact hlt)
    keep := fun b hb hn ho hmb => by
      have hna : ¬ G.away m π b := fun ha => hn ha.1
      have := k3.keep b hb (fun hh => hn (g1obj b hh)) (by rw [(g1o b hna).1]; exact ho) hmb
      refine ⟨this.1, ?_, ?_⟩
      · simp only [Gh.whole]; rw [this.2.1, (g1o b hna).2]
      · simp only [Gh.whole]; rw [if_pos ⟨hb, hmb⟩] }
  obtain ⟨G', hG'⟩ : ∃ G', G' = G.whole G2 w.heap.size MS := ⟨_, rfl⟩
  have e1 : G'.n = G.n := by rw [hG']; rfl
  have e2 : G'.live = G.live := by rw [hG']; rfl
  have e3 : G'.mu = G.mu := by rw [hG']; rfl
  have e4 : ∀ b, b < w.heap.size → G'.own b = G.own b := fun b hb => by rw [hG']; simp only [Gh.whole]; rw [if_pos hb]
  have e4' : ∀ b, ¬ b < w.heap.size → G'.own b = G2.own b := fun b hb => by rw [hG']; simp only [Gh.whole]; rw [if_neg hb]
  have e5 : G'.phi = G2.phi := by rw [hG']; rfl
  have e6 : ∀ b, MS b → G'.tg b = G2.tg b := fun b hb => by rw [hG']; simp only [Gh.whole]; rw [if_neg (fun hh => hh.2 hb)]
  rw [← hG'] at hE
  clear hG'
  have g2mu : ∀ c, c < m → G2.mu c = G.mu (π c) := fun c hc => by rw [k3.mu c (by rw [g1n]; exact hc), g1mu]
  have g2obj : ∀ c, c < m → G2.obj (G.mu (π c)) := fun c hc => by
    have h1 : ∃ oc, sc'[c]? = some oc := ⟨sc'[c]'(by omega), List.getElem?_eq_getElem (by omega)⟩
    obtain ⟨oc, h1⟩ := h1
    exact ⟨c, by rw [k2.n, hm']; exact hc, k2.live c oc h1 (hob' c oc h1).1, g2mu c hc⟩
  have g1own2 : ∀ b, b < w.heap.size → G.own b = true → G2.own b = true := fun b hb ho => by
    have hna : ¬ G.away m π b := fun ha => by have := (hobj b ha.1).2; rw [this] at ho; cases ho
    rw [k3.own b hb, (g1o b hna).1]
    exact ho
  have back : ∀ b o len, 0 < len → Seen G2 w' b o len → Seen G' w' b o len := by
    rintro b o len hl ⟨q1, q2, q3⟩
    have hno : ¬ G.obj b := fun hb => by
      by_cases hc : ∃ c, c < m ∧ G.mu (π c) = b
      · obtain ⟨c, hc, rfl⟩ := hc
        exact q2 (g2obj c hc)
      · have ha : G.away m π b := ⟨hb, hc⟩
        have hlt2 := (hobj b hb).1
        obtain ⟨a1, a2⟩ := g1a b ha
        have hn1 : ¬ G1.obj b := fun hh => g1na b hh ha
        have hmb : ¬ MS b := fun hh => hMSo b hlt2 hh hb
        have e1 := (k3.own b hlt2).trans a1
        have e2 := (k3.keep b hlt2 hn1 a1 hmb).2.1
        have := q3 e1
        omega
    refine ⟨q1, fun ⟨i, p1, p2, p3⟩ => hno ⟨i, by rw [e1] at p1; exact p1, by rw [e2] at p2; exact p2, by rw [e3] at p3; exact p3⟩, fun ho => ?_⟩
    rw [e5]
    refine q3 ?_
    by_cases hb : b < w.heap.size
    · rw [e4 b hb] at ho
      exact g1own2 b hb ho
    · rw [e4' b hb] at ho
      exact ho
  have hpn : ∀ c, c < m → π c < G'.n := fun c hc => by rw [e1]; exact (hlt c hc).1
  have hpmu : ∀ c, c < m → G'.mu (π c) = G2.mu c := fun c hc => by rw [e3, g2mu c hc]
  refine ⟨v, G', rfl, VR0.outof hpn hpmu back r v hre k1, ?_, hE.mono fun b _ hb => hsub b (by rw [← hMS]; exact hb)⟩
  have hST := hS.toS
  refine ⟨by rw [e1, hlen]; exact hS.n, ?_, ?_, ?_, ?_, ?_⟩
  · intro i j hi hj h1 h2 h3
    rw [e1] at hi hj
    rw [e2] at h1 h2
    rw [e3] at h3
    exact hS.inj i j hi hj h1 h2 h3
  · intro i hi h1
    rw [e1] at hi
    rw [e2] at h1
    rw [e3, e4 _ (hS.lt hi h1)]
    exact hS.own i hi h1
  · intro i o' hi hl
    rw [e2]
    by_cases hc : ∃ c, c < m ∧ π c = i
    · obtain ⟨c, hc, rfl⟩ := hc
      exact (hlt c hc).2
    · rw [hs2 i (fun c hc1 hc2 => hc ⟨c, hc1, hc2⟩)] at hi
      exact hS.live i o' hi hl
  · intro i hi hl
    rw [e1] at hi
    rw [e2] at hl
    rw [e3]
    exact Nat.lt_of_lt_of_le (hS.lt hi hl) hE.size
  · intro i o' hi hl
    by_cases hc : ∃ c, c < m ∧ π c = i
    · obtain ⟨c, hc, rfl⟩ := hc
      rw [hs1 c hc] at hi
      obtain ⟨oc, h1, rfl⟩ := map_some_eq hi
      obtain ⟨h2, h3⟩ := hob' c oc h1
      obtain ⟨vs, q1, q2, q3⟩ := k2.at_ c oc h1 h2
      refine ⟨vs, by rw [hpmu c hc]; exact q1, by simp only [Ob.pi, pis_length]; exact q2, fun k a v ha hv => ?_⟩
      simp only [Ob.pi, pis_map, List.getElem?_map] at ha
      obtain ⟨a1, h4, rfl⟩ := map_some_eq ha
      have q4 := q3 k a1 v h4 hv
      refine ⟨VR0.outof hpn hpmu back a1 v (embs_get h3 h4) q4.1, ?_⟩
      have ho := q4.2
      cases a1 with
      | list cs n g =>
        cases g with
        | own t e z =>
          simp only [AV.pi, OwnC, pis_length] at ho ⊢
          rcases ho with ho | ⟨g, cap, cur, p1, p2, p3, p4, p5, p6, p7⟩
          · exact .inl ho
          · have hsz : ¬ g < w.heap.size → G'.own g = true := fun hg => by rw [e4' g hg]; exact p3
            have hown1 : g < w.heap.size → G.own g = true := fun hg => by
              have hng : ¬ G.obj g := hMSo g hg p2
              have hna : ¬ G.away m π g := fun ha => hng ha.1
              rw [k3.own g hg, (g1o g hna).1] at p3
              exact p3
            refine .inr ⟨g, cap, cur, p1, hsub g (by rw [← hMS]; exact p2), ?_, ?_, by rw [e5]; exact p5, by rw [e6 g p2]; exact p6, p7⟩
            · by_cases hg : g < w.heap.size
              · rw [e4 g hg]; exact hown1 hg
              · exact hsz hg
            · rintro ⟨i, b1, b2, b3⟩
              rw [e1] at b1
              rw [e2] at b2
              rw [e3] at b3
              have hg : g < w.heap.size := by rw [← b3]; exact hS.lt b1 b2
              exact hMSo g hg p2 ⟨i, b1, b2, b3⟩
        | _ => exact OwnC.of_plain rfl
      | _ => exact OwnC.of_plain rfl
    · have hc' : ∀ c, c < m → π c ≠ i := fun c hc1 hc2 => hc ⟨c, hc1, hc2⟩
      rw [hs2 i hc'] at hi
      obtain ⟨vs, q1, q2, q3⟩ := hST.at_ i o' hi hl
      have hin : i < G.n := by rw [hS.n]; exact lt_of_some hi
      have hlv : G.live i = true := hS.live i o' hi hl
      have hob : G.obj (G.mu i) := ⟨i, hin, hlv, rfl⟩
      have hsz : G.mu i < w.heap.size := hS.lt hin hlv
      have ha : G.away m π (G.mu i) := ⟨hob, fun ⟨c, c1, c2⟩ => hc' c c1 (hS.inj _ _ (hlt c c1).1 hin (hlt c c1).2 hlv c2)⟩
      refine ⟨vs, ?_, q2, fun k a v hk hv => (q3 k a v hk hv).keep hE ?_⟩
      · rw [e3, (k3.keep _ hsz (fun hh => g1na _ hh ha) (g1a _ ha).1 (fun hh => hMSo _ hsz hh hob)).1]
        exact q1
      · intro g t hmk htg hg hng hog _ hh
        rw [hMS] at hh
        rcases hh with hh | ⟨_, t', h1, h2⟩
        · omega
        · refine hoth i o' hi hc' hl a t (List.mem_of_getElem? hk) hmk (hσ t ?_)
          rw [← htg, ← g1t, h1]
          exact h2
end Go.Proofs.Ytgicljncknbgcaa.Abs
