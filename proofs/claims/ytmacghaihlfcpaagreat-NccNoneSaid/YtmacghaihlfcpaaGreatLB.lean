/- A call that turns some objects, beside operations that look at others, in whatever order. -/
import Derived.Test.YtmacghaihlfcpaaGreatL9
namespace Go.Proofs.YtmacghaihlfcpaaGreat.Abs
noncomputable section
open Go Go.ChangeShapes Go.WideShapes Go.ChangeAt Go.RowKit
set_option linter.unusedVariables false
set_option linter.unusedSimpArgs false

mutual
theorem VR0.same {G G1 : Gh} {w : World} (hs : ∀ b o len, Seen G w b o len → Seen G1 w b o len) (hn : G1.n = G.n) (hmu : ∀ i, i < G.n → G1.mu i = G.mu i) : ∀ (a : AV) (v : Value), VR0 G w a v → VR0 G1 w a v
  | .undef, _, _ => by simp only [VR0]
  | .int .., _, hv => by simp only [VR0] at hv ⊢; exact hv
  | .bool .., _, hv => by simp only [VR0] at hv ⊢; exact hv
  | .str .., _, hv => by simp only [VR0] at hv ⊢; exact hv
  | .nilp, _, hv => by simp only [VR0] at hv ⊢; exact hv
  | .nilf, _, hv => by simp only [VR0] at hv ⊢; exact hv
  | .mapn, _, hv => by simp only [VR0] at hv ⊢; exact hv
  | .mapr i, _, hv => by
    simp only [VR0] at hv ⊢
    rw [hmu i hv.2, hn]
    exact hv
  | .ref i o, _, hv => by
    simp only [VR0] at hv ⊢
    rw [hmu i hv.2, hn]
    exact hv
  | .arr i o, _, hv => by
    simp only [VR0] at hv ⊢
    rw [hmu i hv.2, hn]
    exact hv
  | .eptr cs o, _, hv => by
    simp only [VR0] at hv ⊢
    obtain ⟨b, ob, vs, h1, h2, h3, h4⟩ := hv
    exact ⟨b, ob, vs, h1, hs _ _ _ h2, h3, VRs0.same hs hn hmu cs vs h4⟩
  | .list cs n g, _, hv => by
    simp only [VR0] at hv ⊢
    obtain ⟨A, cap, h1, h2, h3, h4⟩ := hv
    refine ⟨A, cap, h1, h2, h3, h4.imp id ?_⟩
    rintro ⟨b, o, vs, h5, h6, h7, h8⟩
    exact ⟨b, o, vs, h5, hs _ _ _ h6, h7, VRs0.same hs hn hmu cs vs h8⟩
  | .func fn cs, _, hv => by
    simp only [VR0] at hv ⊢
    obtain ⟨vs, h1, h2⟩ := hv
    exact ⟨vs, h1, VRs0.same hs hn hmu cs vs h2⟩
  | .agg cs, _, hv => by
    simp only [VR0] at hv ⊢
    obtain ⟨vs, h1, h2⟩ := hv
    exact ⟨vs, h1, VRs0.same hs hn hmu cs vs h2⟩
  | .tuple cs, _, hv => by
    simp only [VR0] at hv ⊢
    obtain ⟨vs, h1, h2⟩ := hv
    exact ⟨vs, h1, VRs0.same hs hn hmu cs vs h2⟩
theorem VRs0.same {G G1 : Gh} {w : World} (hs : ∀ b o len, Seen G w b o len → Seen G1 w b o len) (hn : G1.n = G.n) (hmu : ∀ i, i < G.n → G1.mu i = G.mu i) : ∀ (as : List AV) (vs : List Value), VRs0 G w as vs → VRs0 G1 w as vs
  | [], _, hv => by simp only [VRs0] at hv ⊢; exact hv
  | a :: as, _, hv => by
    simp only [VRs0] at hv ⊢
    obtain ⟨v, vs', h1, h2, h3⟩ := hv
    exact ⟨v, vs', h1, VR0.same hs hn hmu a v h2, VRs0.same hs hn hmu as vs' h3⟩
end
def lvOf (s : List Ob) (i : Nat) : Bool := match s[i]? with
  | some o => o.live
  | none => false
theorem lvOf_some {s : List Ob} {i : Nat} (h : lvOf s i = true) : ∃ o, s[i]? = some o ∧ o.live = true := by
  unfold lvOf at h
  split at h
  · rename_i o ho; exact ⟨o, ho, h⟩
  · cases h
theorem lvOf_of {s : List Ob} {i : Nat} {o : Ob} (h : s[i]? = some o) : lvOf s i = o.live := by unfold lvOf; rw [h]
def Gh.offO (G : Gh) (s : List Ob) (b : Nat) : Prop := G.obj b ∧ ¬ ∃ i, i < G.n ∧ lvOf s i = true ∧ G.live i = true ∧ G.mu i = b
open Classical in
noncomputable def Gh.shade (G : Gh) (s : List Ob) : Gh where
  n := G.n
  live i := G.live i && lvOf s i
  mu := G.mu
  own b := if G.offO s b then true else G.own b
  phi b := if G.offO s b then 0 else G.phi b
  tg := G.tg
open Classical in
noncomputable def Gh.lit (G G1 : Gh) (size : Nat) : Gh where
  n := G.n
  live := G.live
  mu := G.mu
  own b := if b < size then G.own b else G1.own b
  phi := G1.phi
  tg := G1.tg
theorem Ok_dead {P : Program} {f : FuncId} {args : List AV} {r : AV} {s s' S S' : List Ob} (h : Ok P f args s r s') (hr : r.free = true)
    (hfree : ∀ (i : Nat) (o : Ob), s'[i]? = some o → o.live = true → solids o.cs = true) (hlen : s'.length = s.length) (hlv : ∀ i, lvOf s' i = lvOf s i)
    (hSs : WkS S s) (hSl : S'.length = S.length) (hS' : ∀ i, S'[i]? = if lvOf s i = true then s'[i]? else S[i]?)
    (hmk : ∀ (i : Nat) (o : Ob), S[i]? = some o → o.live = true → lvOf s i = false → ∀ a ∈ o.cs, ∀ t, a.mark = some t → t ∉ storeMarks s)
    {M : Nat → Prop} {G : Gh} {w : World} {cargs : List Value} (hF : Fresh P M G w) (hS : Sim M G S w) (hargs : VRs0 G w args cargs) :
    Calls P f cargs.toArray w fun e w' => ∃ v G', e = .returned v ∧ VR0 G' w' r v ∧ Sim M G' S' w' ∧ Ext (MofS M G s w) G w G' w' := by
  have hn : G.n = s.length := by rw [hS.n, hSs.1]
  have hlive : ∀ i, lvOf s i = true → i < G.n ∧ G.live i = true := fun i hi => by
    obtain ⟨o, h1, h2⟩ := lvOf_some hi
    have hlt : i < S.length := by rw [← hSs.1]; exact lt_of_some h1
    have h3 := (hSs.2 i _ o (List.getElem?_eq_getElem hlt) h1 h2).2.1
    exact ⟨by rw [hS.n]; exact hlt, hS.live i _ (List.getElem?_eq_getElem hlt) h3⟩
  have hobj : ∀ b, G.obj b → b < w.heap.size ∧ G.own b = false := by
    rintro b ⟨i, h1, h2, rfl⟩
    exact ⟨hS.lt h1 h2, hS.own i h1 h2⟩
  obtain ⟨G1, hG1⟩ : ∃ G1, G1 = G.shade s := ⟨_, rfl⟩
  have g1n : G1.n = G.n := by rw [hG1]; rfl
  have g1l : ∀ i, G1.live i = (G.live i && lvOf s i) := fun c => by rw [hG1]; rfl
  have g1mu : G1.mu = G.mu := by rw [hG1]; rfl
  have g1t : G1.tg = G.tg := by rw [hG1]; rfl
  have g1o : ∀ b, ¬ G.offO s b → G1.own b = G.own b ∧ G1.phi b = G.phi b := fun b hb => by
    rw [hG1]; simp only [Gh.shade]; rw [if_neg hb, if_neg hb]; exact ⟨rfl, rfl⟩
  have g1a : ∀ b, G.offO s b → G1.own b = true ∧ G1.phi b = 0 := fun b hb => by
    rw [hG1]; simp only [Gh.shade]; rw [if_pos hb, if_pos hb]; exact ⟨rfl, rfl⟩
  clear hG1
  have g1obj : ∀ b, G1.obj b → G.obj b ∧ ¬ G.offO s b := by
    rintro b ⟨i, h1, h2, h3⟩
    rw [g1n] at h1
    rw [g1l, Bool.and_eq_true] at h2
    rw [g1mu] at h3
    exact ⟨⟨i, h1, h2.1, h3⟩, fun ho => ho.2 ⟨i, h1, h2.2, h2.1, h3⟩⟩
  have hseen : ∀ b o len, Seen G w b o len → Seen G1 w b o len := by
    rintro b o len ⟨k1, k2, k3⟩
    have hna : ¬ G.offO s b := fun ha => k2 ha.1
    refine ⟨k1, fun hh => k2 (g1obj b hh).1, fun ho => ?_⟩
    rw [(g1o b hna).1] at ho
    rw [(g1o b hna).2]
    exact k3 ho
  have toG1 : ∀ (a : AV) (v : Value), VR0 G w a v → VR0 G1 w a v := fun a v hv => by
    exact VR0.same (fun b o len hs => hseen b o len hs) (by rw [g1n]) (fun i _ => by rw [g1mu]) a v hv
  obtain ⟨M1, hM1⟩ : ∃ M1 : Nat → Prop, M1 = fun b => M b ∧ ¬ G.obj b := ⟨_, rfl⟩
  have hSw := hS.weaken hSs
  have own1 : ∀ (a : AV) (v : Value), OwnC M G w a v → OwnC M1 G1 w a v := by
    intro a v ho
    unfold OwnC at *
    split
    · rcases ho with ho | ⟨g, cap, cur, q1, q2, q3, q4, q5, q6, q7⟩
      · exact .inl ho
      · have hna : ¬ G.offO s g := fun ha => q4 ha.1
        exact .inr ⟨g, cap, cur, q1, by rw [hM1]; exact ⟨q2, q4⟩, by rw [(g1o g hna).1]; exact q3, fun hh => q4 (g1obj g hh).1, by rw [(g1o g hna).2]; exact q5, by rw [g1t]; exact q6, q7⟩
    · trivial
  have hS1 : Sim M1 G1 s w := by
    refine ⟨by rw [g1n, hn], ?_, ?_, ?_, ?_, ?_⟩
    · intro i j hi hj h1 h2 he
      rw [g1n] at hi hj
      rw [g1l, Bool.and_eq_true] at h1 h2
      rw [g1mu] at he
      exact hS.inj i j hi hj h1.1 h2.1 he
    · intro i hi h1
      have hna := (g1obj _ ⟨i, hi, h1, rfl⟩).2
      rw [g1n] at hi
      rw [g1l, Bool.and_eq_true] at h1
      rw [(g1o _ hna).1, g1mu]
      exact hS.own i hi h1.1
    · intro i o hi hl
      rw [g1l, Bool.and_eq_true]
      have := lvOf_of hi
      rw [hl] at this
      exact ⟨(hlive i this).2, this⟩
    · intro i hi h1
      rw [g1n] at hi
      rw [g1l, Bool.and_eq_true] at h1
      rw [g1mu]
      exact hS.lt hi h1.1
    · intro i o hi hl
      obtain ⟨vs, k1, k2, k3⟩ := hSw.at_ i o hi hl
      exact ⟨vs, by rw [g1mu]; exact k1, k2, fun k a v ha hv => ⟨toG1 a v (k3 k a v ha hv).1, own1 a v (k3 k a v ha hv).2⟩⟩
  have hsub : ∀ b, MofS M1 G1 s w b → MofS M G s w b := by
    rintro b (hb | ⟨h1, t, h2, h3⟩)
    · exact .inl hb
    · rw [hM1] at h1
      rw [g1t] at h2
      exact .inr ⟨h1.1, t, h2, h3⟩
  have hMM : ∀ b, MofS M G s w b → M b := by
    rintro b (hb | ⟨h1, _⟩)
    · exact hF.1 b hb
    · exact h1
  have toG1s : ∀ (l : List AV) (vs : List Value), VRs0 G w l vs → VRs0 G1 w l vs := by
    intro l
    induction l with
    | nil => intro vs hv; simp only [VRs0] at hv ⊢; exact hv
    | cons a l ih =>
      intro vs hv
      simp only [VRs0] at hv ⊢
      obtain ⟨v, vs', e1, e2, e3⟩ := hv
      exact ⟨v, vs', e1, toG1 a v e2, ih vs' e3⟩
  refine (h M1 G1 w cargs hS1 (fun hg => by
    obtain ⟨k1, k2, k3, k4⟩ := hF.2 hg
    exact ⟨k1, k2, fun ho => k3 (g1obj 0 ho).1, (g1o 0 (fun ho => k3 ho.1)).1.trans k4⟩) (toG1s args cargs hargs)).mono ?_
  rintro e w' ⟨v, G2, rfl, k1, k2, k3⟩
  obtain ⟨MS, hMS⟩ : ∃ MS, MS = MofS M1 G1 s w := ⟨_, rfl⟩
  rw [← hMS] at k2 k3
  have hMSo : ∀ b, b < w.heap.size → MS b → ¬ G.obj b := by
    intro b hb hh
    rw [hMS] at hh
    rcases hh with hh | ⟨hh, _⟩
    · omega
    · rw [hM1] at hh; exact hh.2
  have hE : Ext MS G w (G.lit G2 w.heap.size) w' := {
    size := k3.size
    os := k3.os
    tape := k3.tape
    output := k3.output
    n := Nat.le_refl _
    live := fun _ _ h => h
    mu := fun _ _ => rfl
    newobj := fun i a1 a2 => by simp only [Gh.lit] at a2; omega
    own := fun b hb => by simp only [Gh.lit]; rw [if_pos hb]
    phi := fun b hb ho => by
      have hna : ¬ G.offO s b := fun ha => by have := (hobj b ha.1).2; rw [this] at ho; cases ho
      have := k3.phi b hb (by rw [(g1o b hna).1]; exact ho)
      rw [(g1o b hna).2] at this
      exact this
    cell := fun b hb hn ho => by
      have hna : ¬ G.offO s b := fun ha => hn ha.1
      exact k3.cell b hb (fun hh => hn (g1obj b hh).1) (by rw [(g1o b hna).1]; exact ho)
    row := fun b hb hn ho o hlt => by
      have hna : ¬ G.offO s b := fun ha => hn ha.1
      exact k3.row b hb (fun hh => hn (g1obj b hh).1) (by rw [(g1o b hna).1]; exact ho) o (by rw [(g1o b hna).2]; exact hlt)
    keep := fun b hb hn ho hmb => by
      have hna : ¬ G.offO s b := fun ha => hn ha.1
      have := k3.keep b hb (fun hh => hn (g1obj b hh).1) (by rw [(g1o b hna).1]; exact ho) hmb
      refine ⟨this.1, ?_, ?_⟩
      · simp only [Gh.lit]; rw [this.2.1, (g1o b hna).2]
      · simp only [Gh.lit]; rw [this.2.2, g1t] }
  obtain ⟨G', hG'⟩ : ∃ G', G' = G.lit G2 w.heap.size := ⟨_, rfl⟩
  have e1 : G'.n = G.n := by rw [hG']; rfl
  have e2 : G'.live = G.live := by rw [hG']; rfl
  have e3 : G'.mu = G.mu := by rw [hG']; rfl
  have e4 : ∀ b, b < w.heap.size → G'.own b = G.own b := fun b hb => by rw [hG']; simp only [Gh.lit]; rw [if_pos hb]
  have e4' : ∀ b, ¬ b < w.heap.size → G'.own b = G2.own b := fun b hb => by rw [hG']; simp only [Gh.lit]; rw [if_neg hb]
  have e5 : G'.phi = G2.phi := by rw [hG']; rfl
  have e6 : G'.tg = G2.tg := by rw [hG']; rfl
  rw [← hG'] at hE
  clear hG'
  have g2mu : ∀ i, i < G.n → G2.mu i = G.mu i := fun i hi => by rw [k3.mu i (by rw [g1n]; exact hi), g1mu]
  have g2obj : ∀ i, i < G.n → lvOf s i = true → G2.obj (G.mu i) := fun i hi hl => by
    rw [← hlv] at hl
    obtain ⟨o, h1, h2⟩ := lvOf_some hl
    exact ⟨i, by rw [k2.n]; exact lt_of_some h1, k2.live i o h1 h2, g2mu i hi⟩
  have g1own2 : ∀ b, b < w.heap.size → G.own b = true → G2.own b = true := fun b hb ho => by
    have hna : ¬ G.offO s b := fun ha => by have := (hobj b ha.1).2; rw [this] at ho; cases ho
    rw [k3.own b hb, (g1o b hna).1]
    exact ho
  have back : ∀ b o len, 0 < len → Seen G2 w' b o len → Seen G' w' b o len := by
    rintro b o len hl ⟨q1, q2, q3⟩
    have hno : ¬ G.obj b := fun hb => by
      by_cases hc : ∃ i, i < G.n ∧ lvOf s i = true ∧ G.live i = true ∧ G.mu i = b
      · obtain ⟨i, hi, hl, _, rfl⟩ := hc
        exact q2 (g2obj i hi hl)
      · have ha : G.offO s b := ⟨hb, hc⟩
        have hlt2 := (hobj b hb).1
        obtain ⟨a1, a2⟩ := g1a b ha
        have hn1 : ¬ G1.obj b := fun hh => (g1obj b hh).2 ha
        have hmb : ¬ MS b := fun hh => hMSo b hlt2 hh hb
        have e1 := (k3.own b hlt2).trans a1
        have e2 := (k3.keep b hlt2 hn1 a1 hmb).2.1
        have := q3 e1
        omega
    refine ⟨q1, fun ⟨i, p1, p2, p3⟩ => hno ⟨i, by rw [e1] at p1; exact p1, by rw [e2] at p2; exact p2, by rw [e3] at p3; exact p3⟩, fun ho => ?_⟩
    rw [e5]
    refine q3 ?_
    by_cases hb : b < w.heap.size
    · rw [e4 b hb] at ho
      exact g1own2 b hb ho
    · rw [e4' b hb] at ho
      exact ho
  refine ⟨v, G', rfl, VR0.move back r v hr k1.1, ?_, hE.mono fun b _ hb => hsub b (by rw [← hMS]; exact hb)⟩
  refine ⟨by rw [e1, hSl]; exact hS.n, ?_, ?_, ?_, ?_, ?_⟩
  · intro i j hi hj h1 h2 h3
    rw [e1] at hi hj
    rw [e2] at h1 h2
    rw [e3] at h3
    exact hS.inj i j hi hj h1 h2 h3
  · intro i hi h1
    rw [e1] at hi
    rw [e2] at h1
    rw [e3, e4 _ (hS.lt hi h1)]
    exact hS.own i hi h1
  · intro i o' hi hl
    rw [e2]
    by_cases hc : lvOf s i = true
    · exact (hlive i hc).2
    · rw [hS' i, if_neg hc] at hi
      exact hS.live i o' hi hl
  · intro i hi hl
    rw [e1] at hi
    rw [e2] at hl
    rw [e3]
    exact Nat.lt_of_lt_of_le (hS.lt hi hl) hE.size
  · intro i o' hi hl
    by_cases hc : lvOf s i = true
    · rw [hS' i, if_pos hc] at hi
      have hin := (hlive i hc).1
      obtain ⟨vs, q1, q2, q3⟩ := k2.at_ i o' hi hl
      refine ⟨vs, by rw [e3, ← g2mu i hin]; exact q1, q2, fun k a v ha hv => ?_⟩
      have q4 := q3 k a v ha hv
      have hfa : a.solid = true := solids_get (hfree i o' hi hl) ha
      have hgn : G'.n = G2.n := by rw [e1, k2.n, hlen, hn]
      refine ⟨VR0.move2 hgn (fun j hj => by rw [e3, g2mu j (by rw [← e1, hgn]; exact hj)]) back a v hfa q4.1, ?_⟩
      have ho := q4.2
      unfold OwnC at *
      split
      · rcases ho with ho | ⟨g, cap, cur, p1, p2, p3, p4, p5, p6, p7⟩
        · exact .inl ho
        · have hown1 : g < w.heap.size → G.own g = true := fun hg => by
            have hng : ¬ G.obj g := hMSo g hg p2
            have hna : ¬ G.offO s g := fun ha => hng ha.1
            rw [k3.own g hg, (g1o g hna).1] at p3
            exact p3
          refine .inr ⟨g, cap, cur, p1, hMM g (hsub g (by rw [← hMS]; exact p2)), ?_, ?_, by rw [e5]; exact p5, by rw [e6]; exact p6, p7⟩
          · by_cases hg : g < w.heap.size
            · rw [e4 g hg]; exact hown1 hg
            · rw [e4' g hg]; exact p3
          · rintro ⟨j, b1, b2, b3⟩
            rw [e1] at b1
            rw [e2] at b2
            rw [e3] at b3
            have hg : g < w.heap.size := by rw [← b3]; exact hS.lt b1 b2
            exact hMSo g hg p2 ⟨j, b1, b2, b3⟩
      · trivial
    · rw [hS' i, if_neg hc] at hi
      have hc : lvOf s i = false := by simpa using hc
      obtain ⟨vs, q1, q2, q3⟩ := hS.at_ i o' hi hl
      have hin : i < G.n := by rw [hS.n]; exact lt_of_some hi
      have hlv2 : G.live i = true := hS.live i o' hi hl
      have hob : G.obj (G.mu i) := ⟨i, hin, hlv2, rfl⟩
      have hsz : G.mu i < w.heap.size := hS.lt hin hlv2
      have ha : G.offO s (G.mu i) := ⟨hob, fun ⟨j, c1, c2, c3, c4⟩ => by
        have := hS.inj j i c1 hin c3 hlv2 c4
        subst this
        rw [hc] at c2
        cases c2⟩
      refine ⟨vs, ?_, q2, fun k a v hk hv => (q3 k a v hk hv).keep hE ?_⟩
      · rw [e3, (k3.keep _ hsz (fun hh => (g1obj _ hh).2 ha) (g1a _ ha).1 (fun hh => hMSo _ hsz hh hob)).1]
        exact q1
      · intro g t hmk2 htg hg hng hog _ hh
        rw [hMS] at hh
        rcases hh with hh | ⟨_, t', h1, h2⟩
        · omega
        · rw [g1t, htg] at h1
          subst h1
          exact hmk i o' hi hl hc a (List.mem_of_getElem? hk) t hmk2 h2
/-- such a call in a head -/
theorem HStep_callD {P : Program} {A : Array Oper} {o : Oper} {fr : List AV} {s s' S S' : List Ob} {ts : List Nat} {r : AV} {c : Call} {x : Operand} {f : FuncId} {fcs : List AV} (ho : o.op = .call c) (hc : c.callee = .value x) (hx : aEval fr x = .func (.func f) fcs)
    (hbody : enters P f = true) (hts : ∀ t ∈ storeMarks s, t ∈ ts)
    (hok : Ok P f ((c.args.toList.map fun y => (aEval fr y).soft) ++ fcs) s r s') (hm : r.mark = none) (hr : r.free = true)
    (hfree : ∀ (i : Nat) (o : Ob), s'[i]? = some o → o.live = true → solids o.cs = true) (hlen : s'.length = s.length) (hlv : ∀ i, lvOf s' i = lvOf s i)
    (hSs : WkS S s) (hSl : S'.length = S.length) (hS' : ∀ i, S'[i]? = if lvOf s i = true then s'[i]? else S[i]?)
    (hmk : ∀ (i : Nat) (o : Ob), S[i]? = some o → o.live = true → lvOf s i = false → ∀ a ∈ o.cs, ∀ t, a.mark = some t → t ∉ storeMarks s) : HStep P A o fr S ts r S' := by
  intro M G w a hF hS hf K Q hK
  have hxo : ∀ y ∈ o.op.operands, aEval (aForget (readsOf A o) fr) y = aEval fr y := fun y hy => aEval_forget hy
  have hx' : aEval (aForget (readsOf A o) fr) x = .func (.func f) fcs := by
    rw [hxo x (by simp [ho, Op.operands, Call.operands, hc])]
    exact hx
  have hargs' : (c.args.toList.map fun y => (aEval (aForget (readsOf A o) fr) y).soft) = c.args.toList.map fun y => (aEval fr y).soft :=
    List.map_congr_left fun y hy => by rw [hxo y (by simp [ho, Op.operands, Call.operands]; right; simpa using hy)]
  rw [← hargs'] at hok
  have hv := (hf.eval x).1
  rw [hx'] at hv
  simp only [VR0] at hv
  obtain ⟨cvs, hv, hcv⟩ := hv
  have hargs : ∀ l : List Operand, VRs0 G w (l.map fun y => (aEval (aForget (readsOf A o) fr) y).soft) (l.map a.eval) := by
    intro l
    induction l with
    | nil => simp only [List.map_nil, VRs0]
    | cons y l ih =>
      simp only [List.map_cons, VRs0]
      exact ⟨_, _, rfl, (hf.eval y).1.soft, ih⟩
  have happ : ∀ (l m : List AV) (x y : List Value), VRs0 G w l x → VRs0 G w m y → VRs0 G w (l ++ m) (x ++ y) := by
    intro l
    induction l with
    | nil => intro m x y h1 h2; simp only [VRs0] at h1; subst h1; exact h2
    | cons a l ih =>
      intro m x y h1 h2
      simp only [VRs0] at h1
      obtain ⟨v, vs', rfl, h3, h4⟩ := h1
      simp only [List.cons_append, VRs0]
      exact ⟨v, _, rfl, h3, ih m vs' y h4 h2⟩
  have hcall := Ok_dead hok hr hfree hlen hlv hSs hSl hS' hmk hF hS (happ _ _ _ _ (hargs c.args.toList) hcv)
  have hrun : (execOp a.eval o).run P w = .ok (.enter f ((c.args.toList.map a.eval) ++ cvs).toArray) w := by
    have e1 : c.args.map a.eval ++ cvs.toArray = ((c.args.toList.map a.eval) ++ cvs).toArray := by
      apply Array.ext'
      simp
    simp [execOp, ho, resolve, hc, hv, Deferred.ofValue, invoke, run_enter hbody, e1]
  unfold Oper.wp
  rw [hrun, Oper.upon_enter]
  refine hcall.mono ?_
  rintro e w' ⟨v, G', rfl, h1, h2, h3⟩
  refine hK v G' w' (MofS M G s w) (fun b hb => ?_) h3 h2 ⟨h1, OwnC.of_plain hm⟩
  rcases hb with h | ⟨h, t, ht, hmem⟩
  · exact .inl h
  · exact .inr ⟨h, by rw [ht]; exact hts t hmem⟩
theorem HStep_of_pure {P : Program} {A : Array Oper} {o : Oper} {fr : List AV} {s sv : List Ob} {ts : List Nat} {v : AV} (h : HPure P A o fr sv v) (k : WkS s sv) : HStep P A o fr s ts v s :=
  fun M G w a hF hS hf K Q hK => h M G w a s hF hS (hS.weaken k) hf K Q fun cv G' w' h1 h2 h3 => hK cv G' w' (fun _ => False) (fun _ h => h.elim) h1 h2 h3

/-! the reckoning -/
def memX (x : Nat) : List Nat → Bool
  | [] => false
  | y :: l => Nat.beq x y || memX x l
theorem memX_iff {x : Nat} : ∀ {l : List Nat}, memX x l = true ↔ x ∈ l
  | [] => by simp [memX]
  | y :: l => by
    simp only [memX, Bool.or_eq_true, List.mem_cons, memX_iff (l := l)]
    exact or_congr ⟨Nat.eq_of_beq_eq_true, fun h => by subst h; exact Nat.beq_refl x⟩ Iff.rfl
/-- of a store the objects of a list dead, or the others -/
def killS (b : Bool) (π : List Nat) : Nat → List TOb → List TOb
  | _, [] => []
  | i, o :: s => match memX i π == b with
    | true => .cells [] 0 false :: killS b π (i + 1) s
    | false => o :: killS b π (i + 1) s
theorem killS_length (b : Bool) (π : List Nat) : ∀ (i : Nat) (s : List TOb), (killS b π i s).length = s.length
  | i, [] => rfl
  | i, o :: s => by simp only [killS]; split <;> simp [killS_length b π (i + 1) s]
theorem killS_get (b : Bool) (π : List Nat) : ∀ (i : Nat) (s : List TOb) (j : Nat), (killS b π i s)[j]? = (s[j]?).map fun o => if (memX (i + j) π == b) = true then .cells [] 0 false else o
  | i, [], j => by simp [killS]
  | i, o :: s, 0 => by
    simp only [killS, List.getElem?_cons_zero, Option.map_some, Nat.add_zero]
    split
    · rename_i h; rw [if_pos h]; rfl
    · rename_i h; rw [if_neg (by rw [h]; simp)]; rfl
  | i, o :: s, j + 1 => by
    have ih := killS_get b π (i + 1) s j
    rw [show i + 1 + j = i + (j + 1) by omega] at ih
    simp only [killS, List.getElem?_cons_succ]
    split <;> simpa using ih
def liveO : TOb → Bool
  | .cells _ _ l => l
  | .tarr _ _ _ l => l
theorem dnO_live (o : TOb) : (dnO o).live = liveO o := by cases o <;> rfl
mutual
def tsol : TV → Bool
  | .ep cs _ => !cs.isEmpty && tsols cs
  | .ll cs _ _ => tsols cs
  | .func _ cs => tsols cs
  | .agg cs => tsols cs
  | .tup cs => tsols cs
  | .undef | .int .. | .bool _ | .tt | .ff | .str _ | .nilp | .tl .. | .nilf | .mapn | .ref _ _ | .arr _ _ | .ap _ _ _ _ | .mapr _ => true
def tsols : List TV → Bool
  | [] => true
  | a :: as => tsol a && tsols as
end
mutual
theorem tsol_spec : ∀ (v : TV), tsol v = true → (dn v).solid = true
  | .undef, _ => rfl
  | .int .., _ => rfl
  | .bool _, _ => rfl
  | .tt, _ => rfl
  | .ff, _ => rfl
  | .str _, _ => rfl
  | .nilp, _ => rfl
  | .nilf, _ => rfl
  | .mapn, _ => rfl
  | .mapr _, _ => rfl
  | .ref _ _, _ => rfl
  | .arr _ _, _ => rfl
  | .ap _ _ _ _, _ => rfl
  | .tl t xs g, _ => frees_solids _ (flat_free xs)
  | .ll cs _ _, h => by simp only [tsol] at h; exact tsols_spec cs h
  | .ep cs _, h => by
    simp only [tsol, Bool.and_eq_true] at h
    simp only [dn, AV.solid, tsols_spec cs h.2, Bool.and_true]
    cases cs with
    | nil => simp at h
    | cons => rfl
  | .func _ cs, h => by simp only [tsol] at h; exact tsols_spec cs h
  | .agg cs, h => by simp only [tsol] at h; exact tsols_spec cs h
  | .tup cs, h => by simp only [tsol] at h; exact tsols_spec cs h
theorem tsols_spec : ∀ (l : List TV), tsols l = true → solids (dns l) = true
  | [], _ => rfl
  | a :: l, h => by
    simp only [tsols, Bool.and_eq_true] at h
    simp only [dns, solids, tsol_spec a h.1, tsols_spec l h.2, Bool.and_self]
end
def freeO : TOb → Bool
  | .cells cs _ _ => tsols cs
  | .tarr .. => true
theorem freeO_spec {o : TOb} (h : freeO o = true) : solids (dnO o).cs = true := by
  cases o with
  | cells cs t l => exact tsols_spec cs h
  | tarr ty xs t l => exact frees_solids _ (flat_free xs)
def mergeK {β : Type} (π : List Nat) : Nat → List TOb → List TOb → (List TOb → Option β) → Option β
  | _, [], [], k => k []
  | i, o :: s, o' :: s', k => match memX i π with
    | true => cond (liveO o && liveO o' && freeO o') (mergeK π (i + 1) s s' fun l => k (o' :: l)) none
    | false => cond (!liveO o') (mergeK π (i + 1) s s' fun l => k (o :: l)) none
  | _, _, _, _ => none
theorem mergeK_spec {β : Type} {π : List Nat} {b : β} : ∀ (s s' : List TOb) (i : Nat) (k : List TOb → Option β), mergeK π i s s' k = some b →
    ∃ l, k l = some b ∧ s'.length = s.length ∧ l.length = s.length ∧ (∀ j, memX (i + j) π = true → l[j]? = s'[j]?) ∧ (∀ j, memX (i + j) π = false → l[j]? = s[j]?) ∧
      (∀ (j : Nat) (o' : TOb), memX (i + j) π = true → s'[j]? = some o' → liveO o' = true ∧ freeO o' = true) ∧ (∀ (j : Nat) (o : TOb), memX (i + j) π = true → s[j]? = some o → liveO o = true) ∧ (∀ (j : Nat) (o' : TOb), memX (i + j) π = false → s'[j]? = some o' → liveO o' = false)
  | [], [], i, k, h => ⟨[], h, rfl, rfl, fun _ _ => rfl, fun _ _ => rfl, by simp, by simp, by simp⟩
  | [], _ :: _, i, k, h => by simp [mergeK] at h
  | _ :: _, [], i, k, h => by simp [mergeK] at h
  | o :: s, o' :: s', i, k, h => by
    simp only [mergeK] at h
    split at h
    · rename_i hm
      obtain ⟨hc, h⟩ := cond_some h
      simp only [Bool.and_eq_true] at hc
      obtain ⟨l, h1, h2, h3, h4, h5, h6, h7, h8⟩ := mergeK_spec s s' (i + 1) _ h
      refine ⟨o' :: l, h1, by simp [h2], by simp [h3], ?_, ?_, ?_, ?_, ?_⟩
      · intro j hj; cases j with
        | zero => rfl
        | succ j => exact h4 j (by rw [show i + 1 + j = i + (j + 1) by omega]; exact hj)
      · intro j hj; cases j with
        | zero => rw [Nat.add_zero, hm] at hj; cases hj
        | succ j => exact h5 j (by rw [show i + 1 + j = i + (j + 1) by omega]; exact hj)
      · intro j q hj hq; cases j with
        | zero => simp at hq; subst hq; exact ⟨hc.1.2, hc.2⟩
        | succ j => exact h6 j q (by rw [show i + 1 + j = i + (j + 1) by omega]; exact hj) (by simpa using hq)
      · intro j q hj hq; cases j with
        | zero => simp at hq; subst hq; exact hc.1.1
        | succ j => exact h7 j q (by rw [show i + 1 + j = i + (j + 1) by omega]; exact hj) (by simpa using hq)
      · intro j q hj hq; cases j with
        | zero => rw [Nat.add_zero, hm] at hj; cases hj
        | succ j => exact h8 j q (by rw [show i + 1 + j = i + (j + 1) by omega]; exact hj) (by simpa using hq)
    · rename_i hm
      obtain ⟨hc, h⟩ := cond_some h
      simp only [Bool.not_eq_true'] at hc
      obtain ⟨l, h1, h2, h3, h4, h5, h6, h7, h8⟩ := mergeK_spec s s' (i + 1) _ h
      refine ⟨o :: l, h1, by simp [h2], by simp [h3], ?_, ?_, ?_, ?_, ?_⟩
      · intro j hj; cases j with
        | zero => rw [Nat.add_zero, hm] at hj; cases hj
        | succ j => exact h4 j (by rw [show i + 1 + j = i + (j + 1) by omega]; exact hj)
      · intro j hj; cases j with
        | zero => rfl
        | succ j => exact h5 j (by rw [show i + 1 + j = i + (j + 1) by omega]; exact hj)
      · intro j q hj hq; cases j with
        | zero => rw [Nat.add_zero, hm] at hj; cases hj
        | succ j => exact h6 j q (by rw [show i + 1 + j = i + (j + 1) by omega]; exact hj) (by simpa using hq)
      · intro j q hj hq; cases j with
        | zero => rw [Nat.add_zero, hm] at hj; cases hj
        | succ j => exact h7 j q (by rw [show i + 1 + j = i + (j + 1) by omega]; exact hj) (by simpa using hq)
      · intro j q hj hq; cases j with
        | zero => simp at hq; subst hq; exact hc
        | succ j => exact h8 j q (by rw [show i + 1 + j = i + (j + 1) by omega]; exact hj) (by simpa using hq)
/-- the others' marks are others -/
def othX (π : List Nat) (Ts : List Nat) : Nat → List TOb → Bool
  | _, [] => true
  | i, .cells cs _ live :: s => (memX i π || !live || cs.all fun v => match tmark v with | none => true | some t => !memX t Ts) && othX π Ts (i + 1) s
  | i, .tarr .. :: s => othX π Ts (i + 1) s
theorem othX_spec {π Ts : List Nat} : ∀ (s : List TOb) (i : Nat), othX π Ts i s = true → ∀ (j : Nat) (o : Ob), (dnS s)[j]? = some o → memX (i + j) π = false → o.live = true → ∀ (a : AV), a ∈ o.cs → ∀ (t : Nat), a.mark = some t → t ∉ Ts
  | [], i, h, j, o, hj => by simp [dnS] at hj
  | .cells cs tt live :: s, i, h, j, o, hj => by
    intro hp hl a ha t hm
    simp only [othX, Bool.and_eq_true, Bool.or_eq_true] at h
    cases j with
    | zero =>
      simp only [dnS, List.map_cons, List.getElem?_cons_zero, Option.some.injEq] at hj
      subst hj
      simp only [dnO] at hl ha
      rcases h.1 with (h1 | h1) | h1
      · rw [Nat.add_zero, h1] at hp; cases hp
      · rw [hl] at h1; cases h1
      · rw [dns_map] at ha
        obtain ⟨v, hv, rfl⟩ := List.mem_map.1 ha
        rw [dn_mark] at hm
        have := List.all_eq_true.1 h1 v hv
        rw [hm] at this
        intro hT
        simp only [Bool.not_eq_true'] at this
        rw [memX_iff.2 hT] at this
        cases this
    | succ j =>
      exact othX_spec s (i + 1) h.2 j o (by simpa only [dnS, List.map_cons, List.getElem?_cons_succ] using hj) (by rw [show i + 1 + j = i + (j + 1) by omega]; exact hp) hl a ha t hm
  | .tarr ty xs tt live :: s, i, h, j, o, hj => by
    intro hp hl a ha t hm
    simp only [othX] at h
    cases j with
    | zero =>
      simp only [dnS, List.map_cons, List.getElem?_cons_zero, Option.some.injEq] at hj
      subst hj
      rw [flat_mark xs a ha] at hm
      cases hm
    | succ j =>
      exact othX_spec s (i + 1) h j o (by simpa only [dnS, List.map_cons, List.getElem?_cons_succ] using hj) (by rw [show i + 1 + j = i + (j + 1) by omega]; exact hp) hl a ha t hm
section
variable {β : Type} (sc : Sc) (cf : Cfg)
def putC (ts : List Nat) (fr : List TV) (d : Option Nat) (v : TV) (k : List TV → Option β) : Option β := match tmark v with
  | none => putK fr d v k
  | some m => cond (!memX m ts) (putK fr d v k) none
def opC (ts : List Nat) (A : Array Oper) (sv : List TOb) (o : Oper) (fr : List TV) (k : List TV → Option β) : Option β := match o.guard with
  | none => execH3 sc cf o.op fr sv fr fun fr v => putC ts fr o.dst v k
  | some (g, want) => match guardSlot A g with
    | none => none
    | some t => match fr.getD t .undef with
      | .tt => if want = true then execH3 sc cf o.op fr sv fr fun fr v => putC ts fr o.dst v k else putK fr o.dst (.tup []) k
      | .ff => if want = true then putK fr o.dst (.tup []) k else execH3 sc cf o.op fr sv fr fun fr v => putC ts fr o.dst v k
      | .tup [] => putK fr o.dst (.tup []) k
      | .bool b => cond b
        (setK fr t .tt fun fr => if want = true then execH3 sc cf o.op fr sv fr fun fr v => putC ts fr o.dst v k else putK fr o.dst (.tup []) k)
        (setK fr t .ff fun fr => if want = true then putK fr o.dst (.tup []) k else execH3 sc cf o.op fr sv fr fun fr v => putC ts fr o.dst v k)
      | _ => none
def headC2 (ts : List Nat) (A : Array Oper) (e : Nat) (sm s1 : List TOb) : List Oper → Nat → List TV → (List TV → Option β) → Option β
  | [], _, fr, k => k fr
  | o :: l, i, fr, k => match ancB A A.size i e with
    | true => opC sc cf ts A s1 o fr fun fr => headC2 ts A e sm s1 l (i + 1) fr k
    | false => opC sc cf ts A sm o fr fun fr => headC2 ts A e sm s1 l (i + 1) fr k
def headC1 (ts : List Nat) (A : Array Oper) (e : Nat) (π : List Nat) (s sm sd : List TOb) : List Oper → Nat → List TV → (List TV → List TOb → Option β) → Option β
  | [], _, fr, k => none
  | o :: l, i, fr, k => match Nat.beq i e with
    | true => match o.guard, o.op with
      | none, .call c => match c.callee with
        | .value x => match tEval fr x with
          | .func (.func f) fcs => forceL ((c.args.toList.map fun y => tsoft (tEval fr y)) ++ fcs) fun args => cf.C f β args sd fun r s' => match tfree r with
            | true => mergeK π 0 s s' fun s1 => putC ts fr o.dst (tplain r) fun fr => headC2 sc cf ts A e sm s1 l (i + 1) fr fun fr => k fr s1
            | false => none
          | _ => none
        | _ => none
      | _, _ => none
    | false => match ancB A A.size e i with
      | true => opC sc cf ts A s o fr fun fr => headC1 ts A e π s sm sd l (i + 1) fr k
      | false => opC sc cf ts A sm o fr fun fr => headC1 ts A e π s sm sd l (i + 1) fr k
def drawC (hd : HDat) (e : Nat) (π : List Nat) (A : Array Oper) (fr : List TV) (s : List TOb) (k : List TV → List TOb → Option β) : Option β :=
  cond (drawOK A hd.n hd.L && sc.P.follows .mixedOrders && Nat.blt e hd.n)
    (if fr.length = hd.L then
      forceS (killS true π 0 s) fun sm => forceS (killS false π 0 s) fun sd => match othX π (tmarks sd) 0 s with
        | true => clearK (tmarks sd) fr fun fr => headC1 sc cf (tmarks sd) A e π s sm sd (A.toList.take hd.n) 0 fr fun fr s1 => runOps sc cf A (A.toList.drop hd.n) fr s1 k
        | false => none
    else none) none
end
theorem HD_mono {P : Program} {A : Array Oper} {e : Option Nat} {s0 s1 : List Ob} {ts : List Nat} {K K' : List AV → Prop} (hk : ∀ fr, K fr → K' fr) : ∀ (l : List Oper) (i : Nat) (fr : List AV), HD P A e s0 s1 ts l i fr K → HD P A e s0 s1 ts l i fr K'
  | [], i, fr, h => hk fr h
  | o :: l, i, fr, h => by
    unfold HD at h ⊢
    split at h
    · exact ⟨h.1, HD_mono hk l _ _ h.2⟩
    · exact h
    · obtain ⟨v, h1, h2, h3⟩ := h
      exact ⟨v, h1, h2, HD_mono hk l _ _ h3⟩
section
variable {β : Type} {sc : Sc} {cf : Cfg} {b : β}
theorem putC_some {ts : List Nat} {fr : List TV} {d : Option Nat} {v : TV} {k : List TV → Option β} (h : putC ts fr d v k = some b) : (∀ t ∈ ts, (dn v).mark ≠ some t) ∧ k (tPut fr d v) = some b := by
  unfold putC at h
  split at h
  · rename_i hm
    rw [putK_eq] at h
    exact ⟨fun t _ => by rw [dn_mark, hm]; simp, h⟩
  · rename_i m hm
    obtain ⟨hc, h⟩ := cond_some h
    rw [putK_eq] at h
    refine ⟨fun t ht e => ?_, h⟩
    rw [dn_mark, hm] at e
    cases e
    simp only [Bool.not_eq_true'] at hc
    rw [memX_iff.2 ht] at hc
    cases hc
theorem opC_sound (hC : CallSound sc.P cf.C) {ts : List Nat} {A : Array Oper} {sv : List TOb} {o : Oper} {fr : List TV} {k : List TV → Option β} (h : opC sc cf ts A sv o fr k = some b) :
    ∃ F, k F = some b ∧ ((aWanted A (dns fr) o = some false ∧ dns F = aPut (dns fr) o.dst (.tuple [])) ∨
      (aWanted A (dns fr) o = some true ∧ ∃ v, HPure sc.P A o (dns fr) (dnS sv) v ∧ (∀ t ∈ ts, v.mark ≠ some t) ∧ dns F = aPut (dns fr) o.dst v)) := by
  have yes : ∀ {fr2 : List TV}, dns fr2 = dns fr → aWanted A (dns fr) o = some true → (execH3 sc cf o.op fr2 sv fr2 fun fr v => putC ts fr o.dst v k) = some b → ∃ F, k F = some b ∧ ((aWanted A (dns fr) o = some false ∧ dns F = aPut (dns fr) o.dst (.tuple [])) ∨
      (aWanted A (dns fr) o = some true ∧ ∃ v, HPure sc.P A o (dns fr) (dnS sv) v ∧ (∀ t ∈ ts, v.mark ≠ some t) ∧ dns F = aPut (dns fr) o.dst v)) := by
    intro fr2 he hw h
    obtain ⟨fr', v, h1, h2, h3⟩ := execH3_sound (A := A) hC (o := o) (fun ct t ht => by rw [ht]; rfl) h
    obtain ⟨h4, h5⟩ := putC_some h1
    rw [he] at h3
    exact ⟨_, h5, .inr ⟨hw, dn v, h3, h4, by rw [dns_tPut, h2, he]⟩⟩
  have no : ∀ {fr2 : List TV}, dns fr2 = dns fr → aWanted A (dns fr) o = some false → putK fr2 o.dst (.tup []) k = some b → ∃ F, k F = some b ∧ ((aWanted A (dns fr) o = some false ∧ dns F = aPut (dns fr) o.dst (.tuple [])) ∨
      (aWanted A (dns fr) o = some true ∧ ∃ v, HPure sc.P A o (dns fr) (dnS sv) v ∧ (∀ t ∈ ts, v.mark ≠ some t) ∧ dns F = aPut (dns fr) o.dst v)) := by
    intro fr2 he hw h
    rw [putK_eq] at h
    exact ⟨_, h, .inl ⟨hw, by rw [dns_tPut, he]; rfl⟩⟩
  unfold opC at h
  split at h
  · rename_i hg
    exact yes rfl (by unfold aWanted; rw [hg]) h
  · rename_i g want hg
    split at h
    · cases h
    · rename_i t ht
      have ht' : (A[g]?).bind (·.dst) = some t := ht
      have wanted : ∀ {v : Bool}, dn (fr.getD t .undef) = .bool v → aWanted A (dns fr) o = some (v == want) := by
        intro v hv
        unfold aWanted
        rw [hg]
        simp only [ht', dns_getD, hv]
      split at h
      · rename_i hv
        have hw := wanted (v := true) (by rw [hv]; rfl)
        split at h
        · rename_i hwt; subst hwt; exact yes rfl hw h
        · rename_i hwt
          have : want = false := by simpa using hwt
          subst this
          exact no rfl hw h
      · rename_i hv
        have hw := wanted (v := false) (by rw [hv]; rfl)
        split at h
        · rename_i hwt; subst hwt; exact no rfl hw h
        · rename_i hwt
          have : want = false := by simpa using hwt
          subst this
          exact yes rfl hw h
      · rename_i hv
        refine no rfl ?_ h
        unfold aWanted
        rw [hg]
        simp only [ht', dns_getD, hv, dn, dns]
      · rename_i bb hv
        have hw := wanted (v := bb) (by rw [hv]; rfl)
        cases bb with
        | true =>
          have h9 : (setK fr t .tt fun fr => if want = true then execH3 sc cf o.op fr sv fr fun fr v => putC ts fr o.dst v k else putK fr o.dst (.tup []) k) = some b := h
          rw [setK_eq] at h9
          clear h
          have he : dns (fr.set t .tt) = dns fr := dns_set_same (by rw [hv]; rfl)
          split at h9
          · rename_i hwt; subst hwt; exact yes he hw h9
          · rename_i hwt
            have : want = false := by simpa using hwt
            subst this
            exact no he hw h9
        | false =>
          have h9 : (setK fr t .ff fun fr => if want = true then putK fr o.dst (.tup []) k else execH3 sc cf o.op fr sv fr fun fr v => putC ts fr o.dst v k) = some b := h
          rw [setK_eq] at h9
          clear h
          have he : dns (fr.set t .ff) = dns fr := dns_set_same (by rw [hv]; rfl)
          split at h9
          · rename_i hwt; subst hwt; exact no he hw h9
          · rename_i hwt
            have : want = false := by simpa using hwt
            subst this
            exact yes he hw h9
      · cases h
variable {A : Array Oper} {e : Nat} {ts : List Nat}
theorem headC2_sound (hC : CallSound sc.P cf.C) (hlt : ∀ (f j i : Nat), ancB A f j i = true → i < j) {s0 : List Ob} {s1 sm : List TOb} (h0 : WkS s0 (dnS sm)) (h1 : WkS (dnS s1) (dnS sm)) : ∀ (l : List Oper) (i : Nat) (fr : List TV) (k : List TV → Option β), e < i → headC2 sc cf ts A e sm s1 l i fr k = some b →
    ∃ F, k F = some b ∧ HD sc.P A (some e) s0 (dnS s1) ts l i (dns fr) (fun fr' => fr' = dns F)
  | [], i, fr, k, hi, h => ⟨fr, h, rfl⟩
  | o :: l, i, fr, k, hi, h => by
    have fin : ∀ {sv : List TOb}, (ancB A A.size i e = false → WkS s0 (dnS sv)) → WkS (dnS s1) (dnS sv) → (opC sc cf ts A sv o fr fun fr => headC2 sc cf ts A e sm s1 l (i + 1) fr k) = some b → ∃ F, k F = some b ∧ HD sc.P A (some e) s0 (dnS s1) ts (o :: l) i (dns fr) (fun fr' => fr' = dns F) := by
      intro sv w0 w1 h
      obtain ⟨F1, h2, h3⟩ := opC_sound hC h
      obtain ⟨F, h4, h5⟩ := headC2_sound hC hlt h0 h1 l (i + 1) F1 k (by omega) h2
      refine ⟨F, h4, ?_⟩
      unfold HD
      rcases h3 with ⟨h6, h7⟩ | ⟨h6, v, h7, h8, h9⟩
      · rw [h6]
        exact ⟨fun hh => by cases hh; omega, by rw [← h7]; exact h5⟩
      · rw [h6]
        refine ⟨v, ?_, h8, by rw [← h9]; exact h5⟩
        unfold HCond
        dsimp only
        rw [if_neg (by omega)]
        exact ⟨fun hh => HStep_of_pure h7 (w0 hh), fun _ => HStep_of_pure h7 w1⟩
    simp only [headC2] at h
    split at h
    · rename_i ha
      exact fin (fun hh => by rw [ha] at hh; cases hh) (.refl _) h
    · exact fin (fun _ => h0) h1 h
theorem headC1_sound (hC : CallSound sc.P cf.C) (hlt : ∀ (f j i : Nat), ancB A f j i = true → i < j) {π : List Nat} {s sm sd : List TOb} (hsm : sm = killS true π 0 s) (hsd : sd = killS false π 0 s) (hts : ts = tmarks sd) (hot : othX π ts 0 s = true) : ∀ (l : List Oper) (i : Nat) (fr : List TV) (k : List TV → List TOb → Option β), i ≤ e → headC1 sc cf ts A e π s sm sd l i fr k = some b →
    ∃ F s1, k F s1 = some b ∧ WkS (dnS s1) (dnS sm) ∧ HD sc.P A (some e) (dnS s) (dnS s1) ts l i (dns fr) (fun fr' => fr' = dns F)
  | [], i, fr, k, hi, h => by simp [headC1] at h
  | o :: l, i, fr, k, hi, h => by
    have w0 : WkS (dnS s) (dnS sm) := by
      rw [hsm]
      refine ⟨by simp only [dnS_length, killS_length], fun j a a' ha ha' => ?_⟩
      rw [dnS_get] at ha ha'
      rw [killS_get, Nat.zero_add] at ha'
      obtain ⟨x, hx, rfl⟩ := map_some_eq ha
      rw [hx] at ha'
      simp only [Option.map_some, Option.some.injEq] at ha'
      subst ha'
      split
      · intro hl; cases hl
      · exact .refl _
    simp only [headC1] at h
    split at h
    · rename_i hie
      have hie := Nat.eq_of_beq_eq_true hie
      subst hie
      split at h
      · rename_i c hg hop
        split at h
        · rename_i x hc
          split at h
          · rename_i f fcs hf
            rw [forceL_eq] at h
            obtain ⟨hen, r, s', hok, hk⟩ := hC f β _ sd _ b h
            split at hk
            · rename_i hfr
              obtain ⟨s1, h1, h2, h3, h4, h5, h6, h7, h8⟩ := mergeK_spec s s' 0 _ hk
              obtain ⟨hmk, h9⟩ := putC_some h1
              have hf' : aEval (dns fr) x = .func (.func f) (dns fcs) := by rw [← dn_tEval, hf]; rfl
              have hargs : dns ((c.args.toList.map fun y => tsoft (tEval fr y)) ++ fcs) = (c.args.toList.map fun y => (aEval (dns fr) y).soft) ++ dns fcs := by rw [dns_app, ← argsOf_eq]
              rw [hargs] at hok
              have w1 : WkS (dnS s1) (dnS sm) := by
                rw [hsm]
                refine ⟨by simp only [dnS_length, killS_length, h3], fun j a a' ha ha' => ?_⟩
                rw [dnS_get] at ha ha'
                rw [killS_get, Nat.zero_add] at ha'
                obtain ⟨q, hq, rfl⟩ := map_some_eq ha'
                obtain ⟨q0, hq0, rfl⟩ := map_some_eq hq
                cases hmj : memX j π with
                | true => intro hl; cases hl
                | false =>
                  have := h5 j (by rw [Nat.zero_add]; exact hmj)
                  rw [this, hq0] at ha
                  simp only [Option.map_some, Option.some.injEq] at ha
                  subst ha
                  exact .refl _
              obtain ⟨F, h10, h11⟩ := headC2_sound hC hlt w0 w1 l (i + 1) _ _ (by omega) h9
              refine ⟨F, s1, h10, w1, ?_⟩
              unfold HD
              have hw : aWanted A (dns fr) o = some true := by unfold aWanted; rw [hg]
              rw [hw]
              refine ⟨dn (tplain r), ?_, hmk, by rw [← dns_tPut]; exact h11⟩
              unfold HCond
              dsimp only
              rw [if_pos rfl, dn_tplain]
              have lvd : ∀ j, lvOf (dnS sd) j = (memX j π && (match s[j]? with | some o => liveO o | none => false)) := by
                intro j
                unfold lvOf
                rw [hsd, dnS_get, killS_get, Nat.zero_add]
                cases hj : s[j]? with
                | none => simp
                | some q =>
                  cases hmj : memX j π with
                  | true => simp [dnO_live]
                  | false => simp [dnO]
              refine HStep_callD hop hc hf' hen (by rw [dnS_marks, hts]; exact fun t h => h) (hok.weaken (AV.plain_wk _)) (AV.mark_plain _) (free_plain (tfree_spec r hfr)) ?_ (by simp only [dnS_length, h2, hsd, killS_length]) ?_ ?_ (by simp only [dnS_length, h3]) ?_ ?_
              · intro j q hj hl
                rw [dnS_get] at hj
                obtain ⟨q0, hq0, rfl⟩ := map_some_eq hj
                rw [dnO_live] at hl
                cases hmj : memX j π with
                | true => exact freeO_spec (h6 j q0 (by rw [Nat.zero_add]; exact hmj) hq0).2
                | false =>
                  have := h8 j q0 (by rw [Nat.zero_add]; exact hmj) hq0
                  rw [this] at hl
                  cases hl
              · intro j
                rw [lvd]
                unfold lvOf
                rw [dnS_get]
                cases hj' : s'[j]? with
                | none =>
                  have : s[j]? = none := by rw [List.getElem?_eq_none_iff] at hj' ⊢; omega
                  simp [this]
                | some q' =>
                  simp only [Option.map_some, dnO_live]
                  have hlt2 : j < s.length := by have := lt_of_some hj'; omega
                  cases hmj : memX j π with
                  | true =>
                    have e1 := (h6 j q' (by rw [Nat.zero_add]; exact hmj) hj').1
                    have e2 := h7 j _ (by rw [Nat.zero_add]; exact hmj) (List.getElem?_eq_getElem hlt2)
                    rw [List.getElem?_eq_getElem hlt2]
                    simp [e1, e2]
                  | false =>
                    have e1 := h8 j q' (by rw [Nat.zero_add]; exact hmj) hj'
                    simp [e1]
              · rw [hsd]
                refine ⟨by simp only [dnS_length, killS_length], fun j a a' ha ha' => ?_⟩
                rw [dnS_get] at ha ha'
                rw [killS_get, Nat.zero_add] at ha'
                obtain ⟨q, hq, rfl⟩ := map_some_eq ha
                rw [hq] at ha'
                simp only [Option.map_some, Option.some.injEq] at ha'
                subst ha'
                split
                · intro hl; cases hl
                · exact .refl _
              · intro j
                rw [lvd, dnS_get, dnS_get, dnS_get]
                cases hmj : memX j π with
                | true =>
                  rw [h4 j (by rw [Nat.zero_add]; exact hmj)]
                  cases hj : s[j]? with
                  | none =>
                    have : s'[j]? = none := by rw [List.getElem?_eq_none_iff] at hj ⊢; omega
                    simp [this]
                  | some q =>
                    have e2 := h7 j q (by rw [Nat.zero_add]; exact hmj) hj
                    simp [e2]
                | false =>
                  rw [h5 j (by rw [Nat.zero_add]; exact hmj)]
                  simp
              · intro j q hj hl hlv a ha t ht
                rw [lvd] at hlv
                have hj2 := hj
                rw [dnS_get] at hj2
                obtain ⟨q0, hq0, rfl⟩ := map_some_eq hj2
                rw [dnO_live] at hl
                rw [hq0] at hlv
                simp only [hl, Bool.and_true] at hlv
                rw [dnS_marks, ← hts]
                exact othX_spec s 0 hot j _ hj (by rw [Nat.zero_add]; exact hlv) (by rw [dnO_live]; exact hl) a ha t ht
            · cases hk
          · cases h
        · cases h
      · cases h
    · rename_i hie
      have hne : i ≠ e := fun hh => by subst hh; rw [Nat.beq_refl] at hie; cases hie
      have fin : ∀ {sv : List TOb}, WkS (dnS s) (dnS sv) → (ancB A A.size e i = false → sv = sm) → (opC sc cf ts A sv o fr fun fr => headC1 sc cf ts A e π s sm sd l (i + 1) fr k) = some b → ∃ F s1, k F s1 = some b ∧ WkS (dnS s1) (dnS sm) ∧ HD sc.P A (some e) (dnS s) (dnS s1) ts (o :: l) i (dns fr) (fun fr' => fr' = dns F) := by
        intro sv w2 hsv h
        obtain ⟨F1, h2, h3⟩ := opC_sound hC h
        obtain ⟨F, s1, h4, h5, h6⟩ := headC1_sound hC hlt hsm hsd hts hot l (i + 1) F1 k (by omega) h2
        refine ⟨F, s1, h4, h5, ?_⟩
        unfold HD
        rcases h3 with ⟨h7, h8⟩ | ⟨h7, v, h8, h9, h10⟩
        · rw [h7]
          exact ⟨fun hh => by cases hh; omega, by rw [← h8]; exact h6⟩
        · rw [h7]
          refine ⟨v, ?_, h9, by rw [← h10]; exact h6⟩
          unfold HCond
          dsimp only
          rw [if_neg (by omega)]
          exact ⟨fun _ => HStep_of_pure h8 w2, fun hh => HStep_of_pure h8 (by rw [hsv hh]; exact h5)⟩
      split at h
      · rename_i ha
        exact fin (.refl _) (fun hh => by rw [ha] at hh; cases hh) h
      · exact fin w0 (fun _ => rfl) h
theorem drawC_sound (hC : CallSound sc.P cf.C) {hd : HDat} {π : List Nat} {id : Nat} {fr : List TV} {s : List TOb} {k : List TV → List TOb → Option β} (h : drawC sc cf hd e π A fr s k = some b) :
    ∃ F S, k F S = some b ∧ AW cf.n0 sc.P (.region id A true) (dns fr) (dnS s) (Ex .normal F S) := by
  unfold drawC at h
  obtain ⟨h1, h2⟩ := cond_some h
  simp only [Bool.and_eq_true, Nat.blt_eq] at h1
  obtain ⟨⟨hok, hm⟩, hen⟩ := h1
  split at h2
  case isFalse => cases h2
  rename_i hL
  rw [forceS_eq, forceS_eq] at h2
  split at h2
  case h_2 => cases h2
  rename_i hot
  rw [clearK_eq] at h2
  have hlt := ancB_lt (A := A) fun i o h => ((drawOK_spec hok).2.1 i o h).1
  obtain ⟨F, s1, h3, h4, h5⟩ := headC1_sound hC hlt rfl rfl rfl hot (A.toList.take hd.n) 0 _ _ (Nat.zero_le _) h2
  obtain ⟨F2, S2, h6, h7⟩ := runOps_sound (n0 := cf.n0) hC (A := A) (A.toList.drop hd.n) F s1 k h3
  refine ⟨F2, S2, h6, ?_⟩
  refine AW_weaken (clears_wk (tmarks (killS false π 0 s)) (dns fr)) (.refl _) ?_
  rw [dns_tclears] at h5
  refine AL_draw (n := hd.n) (e := some e) (s1 := dnS s1) (ts := tmarks (killS false π 0 s)) hm (by rw [clearMarks_length, dns_length, hL]; exact hok) (fun x hx => by cases hx; exact hen) (fun hx => by cases hx) ?_ ?_
  · intro t q hq hmem
    rw [clearMarks_getD] at hq
    have := clearMark_mark hq
    simp only [List.contains_eq_mem, decide_eq_false_iff_not] at this
    exact this hmem
  · refine HD_mono ?_ _ _ _ h5
    rintro fr' rfl
    exact h7
end
end
end Go.Proofs.YtmacghaihlfcpaaGreat.Abs

namespace Go.Proofs.YtmacghaihlfcpaaGreat.Abs
noncomputable section
open Go Go.ChangeShapes Go.WideShapes Go.ChangeAt Go.RowKit
set_option linter.unusedVariables false
set_option linter.unusedSimpArgs false
def evIdx (n0 : Nat) : List (Bool × Nat) → List Nat
  | [] => []
  | (true, i) :: l => (n0 + i) :: evIdx n0 l
  | (false, i) :: l => i :: evIdx n0 l
def DR : DrawT := fun sc cf β id A fr s k => match lookN sc.heads id with
  | some hd => match hd.ev with
    | [] => draw3 sc cf hd A fr s k
    | (e, l) :: _ => drawC sc cf hd e (evIdx cf.n0 l) A fr s k
  | none => none
theorem DR_sound : DrawSound DR := by
  intro sc cf β id A fr s k b hC h
  unfold DR at h
  split at h
  · split at h
    · exact draw3_sound hC h
    · exact drawC_sound hC h
  · cases h
end
end Go.Proofs.YtmacghaihlfcpaaGreat.Abs

namespace Go.Proofs.YtmacghaihlfcpaaGreat.Abs
noncomputable section
open Go Go.ChangeShapes Go.WideShapes Go.ChangeAt Go.RowKit
set_option linter.unusedVariables false
set_option linter.unusedSimpArgs false

abbrev Ent := (β : Type) → List TV → List TOb → (TV → List TOb → Option β) → Option β
def EntSound (P : Program) (f : FuncId) (E : Ent) : Prop := ∀ (β : Type) (args : List TV) (s : List TOb) (k : TV → List TOb → Option β) (b : β), E β args s k = some b →
  enters P f = true ∧ ∃ r s', Ok P f (dns args) (dnS s) (dn r) (dnS s') ∧ k r s' = some b
def tab : List (FuncId × Ent) → CallT
  | [], _, _, _, _, _ => none
  | (g, E) :: l, f, β, args, s, k => if f = g then E β args s k else tab l f β args s k
theorem tab_nil (P : Program) : CallSound P (tab []) := fun f β args s k b h => by simp [tab] at h
theorem tab_cons {P : Program} {g : FuncId} {E : Ent} {l : List (FuncId × Ent)} (h1 : EntSound P g E) (h2 : CallSound P (tab l)) : CallSound P (tab ((g, E) :: l)) := by
  intro f β args s k b h
  simp only [tab] at h
  split at h
  · rename_i hf; subst hf; exact h1 β args s k b h
  · exact h2 f β args s k b h
/-- a function that is walked where it is called -/
def inlEnt (P : Program) (N : Nat) (C : CallT) (fh : FH) (fn : Func) (c : Code) : Ent := fun β args s k =>
  cond (args.all fun a => (tmark a).isNone) (callBody DR P N C fh fn c β args s k) none
theorem inlEnt_sound {P : Program} {N : Nat} {C : CallT} {fh : FH} {f : FuncId} {fn : Func} {c : Code} (hC : CallSound P C) (hf : P.funcs[f]? = some fn) (hb : fn.body = some c) (hen : enters P f = true) : EntSound P f (inlEnt P N C fh fn c) := by
  intro β args s k b h
  obtain ⟨h1, h2⟩ := cond_some h
  refine ⟨hen, callBody_sound DR_sound hC hf hb ?_ h2⟩
  intro a ha
  have := List.all_eq_true.1 h1 a ha
  simpa using this
/-- where a function that is told by name ends -/
def kPure (rts : List Ty) (r : TV) (s : List TOb) : Option (RT rts) := match s with
  | [] => decR rts r
  | _ => none
def specEnt (pts rts : List Ty) (m : Els pts → Option (RT rts)) : Ent := fun β args s k => match decA pts args with
  | some x => match m x with
    | some r => k (encR rts r) s
    | none => none
  | none => none
theorem decA_spec : ∀ {ts : List Ty} {vs : List TV} {x : Els ts}, decA ts vs = some x → Wks (dns vs) (dns (encA ts x))
  | [], [], x, h => .nil
  | [], _ :: _, x, h => by simp [decA] at h
  | _ :: _, [], x, h => by simp [decA] at h
  | t :: ts, v :: vs, x, h => by
    simp only [decA] at h
    split at h
    · rename_i y hy
      split at h
      · rename_i ys hys
        cases h
        exact .cons (decV_spec hy) (decA_spec hys)
      · cases h
    · cases h
theorem decR_spec : ∀ {ts : List Ty} {v : TV} {x : RT ts}, decR ts v = some x → Wk (dn v) (dn (encR ts x))
  | [t], v, x, h => decV_spec h
  | [], v, x, h => by
    unfold decR at h
    cases v <;> try (cases h; done)
    rename_i vs
    cases vs with
    | nil => exact .refl _
    | cons => cases h
  | t :: u :: ts, v, x, h => by
    cases v <;> try (cases h; done)
    rename_i vs
    exact .tuple (decA_spec (ts := t :: u :: ts) (x := x) h)
theorem tval_mark (t : Ty) (x : El t) : tmark (tval t x) = none := by cases t <;> rfl
theorem encA_mark : ∀ (ts : List Ty) (x : Els ts), ∀ a ∈ encA ts x, tmark a = none
  | [], _, a, h => by simp [encA] at h
  | t :: ts, x, a, h => by
    simp only [encA, List.mem_cons] at h
    rcases h with rfl | h
    · exact tval_mark t x.1
    · exact encA_mark ts x.2 a h
theorem tval_free : ∀ (t : Ty) (x : El t), (dn (tval t x)).free = true
  | .int _, _ => rfl
  | .bool, _ => rfl
  | .str, _ => rfl
  | .list e, xs => flat_free xs
  | .st fs, x => by
    have e : dns (tcellss fs x) = cellsOfs fs x := dns_tcellss fs x
    have h : frees (cellsOfs fs x) = true := frees_all fun a h => cellsOfs_free fs x a h
    exact (congrArg frees e).trans h
theorem encA_free : ∀ (ts : List Ty) (x : Els ts), frees (dns (encA ts x)) = true
  | [], _ => rfl
  | t :: ts, x => by simp only [encA, dns, frees, tval_free t x.1, encA_free ts x.2, Bool.and_self]
theorem encR_free : ∀ (ts : List Ty) (x : RT ts), (dn (encR ts x)).free = true
  | [t], x => tval_free t x
  | [], _ => rfl
  | t :: u :: ts, x => by simp only [encR, dn, AV.free]; exact encA_free (t :: u :: ts) x
theorem encR_mark : ∀ (ts : List Ty) (x : RT ts), (dn (encR ts x)).mark = none
  | [t], x => aval_mark t x
  | [], _ => rfl
  | t :: u :: ts, x => rfl
theorem Ok_everywhere {P : Program} {f : FuncId} {args : List AV} {r : AV} (h : Ok P f args [] r []) (ha : frees args = true) (hr : r.free = true) (hm : r.mark = none) (S : List Ob) : Ok P f args S r S := by
  intro M G w cargs hS hG hargs
  refine (OkP_at h ha hr hS.toS hG hargs).mono ?_
  rintro e w' ⟨v, G', h1, h2, h3, h4⟩
  exact ⟨v, G', h1, ⟨h2, OwnC.of_plain hm⟩, h3, h4.mono fun _ _ => False.elim⟩
theorem Ok.args {P : Program} {f : FuncId} {args args' : List AV} {s s' : List Ob} {r : AV} (h : Ok P f args' s r s') (hw : Wks args args') : Ok P f args s r s' :=
  fun M G w cargs hS hG hargs => h M G w cargs hS hG (hw.VRs0 hargs)
theorem specEnt_sound {P : Program} {N : Nat} {C : CallT} {fh : FH} {f : FuncId} {fn : Func} {c : Code} {pts rts : List Ty} {m : Els pts → Option (RT rts)} (hC : CallSound P C) (hf : P.funcs[f]? = some fn) (hb : fn.body = some c) (hen : enters P f = true)
    (hm : ∀ x, callBody DR P N C fh fn c (RT rts) (encA pts x) [] (kPure rts) = m x) : EntSound P f (specEnt pts rts m) := by
  intro β args s k b h
  unfold specEnt at h
  split at h
  case h_2 => cases h
  rename_i x hx
  split at h
  case h_2 => cases h
  rename_i r hr
  refine ⟨hen, encR rts r, s, ?_, h⟩
  obtain ⟨r0, s', h1, h2⟩ := callBody_sound (b := r) DR_sound hC hf hb (encA_mark pts x) ((hm x).trans hr)
  unfold kPure at h2
  split at h2
  case h_2 => cases h2
  have h3 := h1.weaken (decR_spec h2) (encR_mark rts r)
  exact (Ok_everywhere h3 (encA_free pts x) (encR_free rts r) (encR_mark rts r) _).args (decA_spec hx)
/-! small words -/
def bodyOf (fn : Func) : Code := match fn.body with | some c => c | none => .skip
def inR (i : Int) (n : Nat) : Bool := decide (0 ≤ i ∧ i < n)
def upTo (i : Int) (n : Nat) : Bool := decide (0 ≤ i ∧ i ≤ (n : Int))
def inB (a b : Int) (n : Nat) : Bool := decide (0 ≤ a ∧ a ≤ b ∧ b ≤ (n : Int))
def nthD {α : Type} (xs : List α) (i : Int) (d : α) : α := xs.getD i.toNat d
def setD {α : Type} (xs : List α) (i : Int) (x : α) : List α := xs.set i.toNat x
def byteAt (l : List UInt8) (i : Int) : Int := ((l.getD i.toNat 0).toNat : Int)
end
end Go.Proofs.YtmacghaihlfcpaaGreat.Abs
