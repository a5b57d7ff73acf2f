/- A call that writes one object, all others hidden from it. -/
import Derived.Test.YtmacghaihlfcpaaGreatL6
namespace Go.Proofs.YtmacghaihlfcpaaGreat.Abs
noncomputable section
open Go Go.ChangeShapes Go.WideShapes Go.ChangeAt Go.RowKit
set_option linter.unusedVariables false
set_option linter.unusedSimpArgs false

mutual
/-- no pointer into an empty row -/
def AV.solid : AV → Bool
  | .eptr cs _ => !cs.isEmpty && solids cs
  | .list cs _ _ => solids cs
  | .func _ cs => solids cs
  | .agg cs => solids cs
  | .tuple cs => solids cs
  | .undef | .int .. | .bool _ | .str _ | .nilp | .nilf | .mapn | .ref _ _ | .arr _ _ | .mapr _ => true
def solids : List AV → Bool
  | [] => true
  | a :: as => a.solid && solids as
end
theorem solids_get : ∀ {as : List AV} {i : Nat} {a : AV}, solids as = true → as[i]? = some a → a.solid = true
  | [], i, a, _, h => by simp at h
  | b :: as, 0, a, h, hi => by
    simp only [solids, Bool.and_eq_true] at h
    simp at hi; subst hi; exact h.1
  | b :: as, i + 1, a, h, hi => by
    simp only [solids, Bool.and_eq_true] at h
    exact solids_get h.2 (by simpa using hi)
section
variable {G G' : Gh} {w : World}
mutual
theorem VR0.move2 (hn : G'.n = G.n) (hmu : ∀ i, i < G.n → G'.mu i = G.mu i) (hs : ∀ b o len, 0 < len → Seen G w b o len → Seen G' w b o len) : ∀ (a : AV) (v : Value), a.solid = true → VR0 G w a v → VR0 G' w a v
  | .undef, _, _, _ => by simp only [VR0]
  | .int .., _, _, hv => by simp only [VR0] at hv ⊢; exact hv
  | .bool .., _, _, hv => by simp only [VR0] at hv ⊢; exact hv
  | .str .., _, _, hv => by simp only [VR0] at hv ⊢; exact hv
  | .nilp, _, _, hv => by simp only [VR0] at hv ⊢; exact hv
  | .nilf, _, _, hv => by simp only [VR0] at hv ⊢; exact hv
  | .mapn, _, _, hv => by simp only [VR0] at hv ⊢; exact hv
  | .mapr i, _, _, hv => by simp only [VR0] at hv ⊢; rw [hmu i hv.2, hn]; exact hv
  | .ref i o, _, _, hv => by simp only [VR0] at hv ⊢; rw [hmu i hv.2, hn]; exact hv
  | .arr i o, _, _, hv => by simp only [VR0] at hv ⊢; rw [hmu i hv.2, hn]; exact hv
  | .eptr cs o, _, hb, hv => by
    simp only [VR0, AV.solid, Bool.and_eq_true, Bool.not_eq_true', List.isEmpty_eq_false_iff] at hv hb ⊢
    obtain ⟨b, ob, vs, h1, h2, h3, h4⟩ := hv
    exact ⟨b, ob, vs, h1, hs _ _ _ (List.length_pos_iff.2 hb.1) h2, h3, VRs0.move2 hn hmu hs cs vs hb.2 h4⟩
  | .list cs n g, _, hb, hv => by
    simp only [VR0, AV.solid] at hv hb ⊢
    obtain ⟨A, cap, h1, h2, h3, h4⟩ := hv
    refine ⟨A, cap, h1, h2, h3, ?_⟩
    rcases h4 with h4 | ⟨b, o, vs, h5, h6, h7, h8⟩
    · exact .inl h4
    · by_cases hc : cs = []
      · exact .inl hc
      · exact .inr ⟨b, o, vs, h5, hs _ _ _ (List.length_pos_iff.2 hc) h6, h7, VRs0.move2 hn hmu hs cs vs hb h8⟩
  | .func fn cs, _, hb, hv => by
    simp only [VR0, AV.solid] at hv hb ⊢
    obtain ⟨vs, h1, h2⟩ := hv
    exact ⟨vs, h1, VRs0.move2 hn hmu hs cs vs hb h2⟩
  | .agg cs, _, hb, hv => by
    simp only [VR0, AV.solid] at hv hb ⊢
    obtain ⟨vs, h1, h2⟩ := hv
    exact ⟨vs, h1, VRs0.move2 hn hmu hs cs vs hb h2⟩
  | .tuple cs, _, hb, hv => by
    simp only [VR0, AV.solid] at hv hb ⊢
    obtain ⟨vs, h1, h2⟩ := hv
    exact ⟨vs, h1, VRs0.move2 hn hmu hs cs vs hb h2⟩
theorem VRs0.move2 (hn : G'.n = G.n) (hmu : ∀ i, i < G.n → G'.mu i = G.mu i) (hs : ∀ b o len, 0 < len → Seen G w b o len → Seen G' w b o len) : ∀ (as : List AV) (vs : List Value), solids as = true → VRs0 G w as vs → VRs0 G' w as vs
  | [], _, _, hv => by simp only [VRs0] at hv ⊢; exact hv
  | a :: as, _, hb, hv => by
    simp only [VRs0, solids, Bool.and_eq_true] at hv hb ⊢
    obtain ⟨v, vs', h1, h2, h3⟩ := hv
    exact ⟨v, vs', h1, VR0.move2 hn hmu hs a v hb.1 h2, VRs0.move2 hn hmu hs as vs' hb.2 h3⟩
end
end
/-- a block of another object -/
def Hid (G : Gh) (idx b : Nat) : Prop := ∃ i, i < G.n ∧ i ≠ idx ∧ G.live i = true ∧ G.mu i = b
open Classical in
/-- all objects but one hidden -/
noncomputable def Gh.only (G : Gh) (idx : Nat) : Gh where
  n := G.n
  live j := if j = idx then G.live j else false
  mu := G.mu
  own b := if Hid G idx b then true else G.own b
  phi b := if Hid G idx b then 0 else G.phi b
  tg := G.tg
def Gh.backO (G G1 : Gh) (idx size : Nat) : Gh where
  n := G.n
  live j := if j = idx then G1.live j else G.live j
  mu := G.mu
  own b := if b < size then G.own b else G1.own b
  phi b := if b < size then G.phi b else G1.phi b
  tg b := if b < size then G.tg b else G1.tg b
theorem only_obj {G : Gh} {idx b : Nat} (h : (G.only idx).obj b) : idx < G.n ∧ G.live idx = true ∧ b = G.mu idx := by
  obtain ⟨i, h1, h2, h3⟩ := h
  simp only [Gh.only] at h1 h2 h3
  split at h2
  · rename_i e; subst e; exact ⟨h1, h2, h3.symm⟩
  · cases h2
theorem OkW_at {P : Program} {f : FuncId} {args : List AV} {r : AV} {S S' : List Ob} {idx : Nat} {ob0 ob : Ob} (h : Ok P f args S r S') (hd : ∀ j o, j ≠ idx → S[j]? = some o → o.live = false) (h0 : S[idx]? = some ob0) (hl0 : ob0.live = true) (hm0 : ∀ a ∈ ob0.cs, a.mark = none) (hs0 : solids ob0.cs = true)
    (hlen : S'.length = S.length) (h1 : S'[idx]? = some ob) (hm1 : ∀ a ∈ ob.cs, a.mark = none) (hs1 : solids ob.cs = true) (ha : solids args = true) (hr : r.solid = true)
    {M : Nat → Prop} {G : Gh} {s sv : List Ob} {w : World} {cargs : List Value} (hS : Sim M G s w) (hV : Sim M G sv w) (hSl : S.length = sv.length) (hv0 : sv[idx]? = some ob0) (hG : GI P G w) (hargs : VRs0 G w args cargs) :
    Calls P f cargs.toArray w fun e w' => ∃ v G', e = .returned v ∧ VR0 G' w' r v ∧ Sim M G' (s.set idx ob) w' ∧ Ext (fun _ => False) G w G' w' := by
  have hin : idx < G.n := by rw [hV.n]; exact lt_of_some hv0
  have hlv : G.live idx = true := hV.live idx ob0 hv0 hl0
  have hhid : ∀ b, Hid G idx b → b < w.heap.size ∧ G.own b = false ∧ ¬ (G.only idx).obj b := by
    rintro b ⟨i, k1, k2, k3, rfl⟩
    refine ⟨hS.lt k1 k3, hS.own i k1 k3, fun ho => ?_⟩
    obtain ⟨q1, q2, q3⟩ := only_obj ho
    exact k2 (hS.inj i idx k1 q1 k3 q2 q3)
  have hidobj : ∀ b, Hid G idx b → G.obj b := fun b ⟨i, k1, _, k3, k4⟩ => ⟨i, k1, k3, k4⟩
  have onlyobj : ∀ b, (G.only idx).obj b → G.obj b := fun b hb => by
    obtain ⟨q1, q2, q3⟩ := only_obj hb
    exact ⟨idx, q1, q2, q3.symm⟩
  have own1 : ∀ b, ¬ Hid G idx b → (G.only idx).own b = G.own b ∧ (G.only idx).phi b = G.phi b := fun b hn => by
    simp only [Gh.only]; rw [if_neg hn, if_neg hn]; exact ⟨rfl, rfl⟩
  have toK : ∀ b o len, 0 < len → Seen G w b o len → Seen (G.only idx) w b o len := fun b o len _ ⟨k1, k2, k3⟩ => by
    have hn : ¬ Hid G idx b := fun hh => k2 (hidobj b hh)
    refine ⟨k1, fun hh => k2 (onlyobj b hh), fun ho => ?_⟩
    rw [(own1 b hn).1] at ho
    rw [(own1 b hn).2]
    exact k3 ho
  have hnmu : ¬ Hid G idx (G.mu idx) := fun ⟨i, k1, k2, k3, k4⟩ => k2 (hS.inj i idx k1 hin k3 hlv k4)
  have hK : Sim (fun _ => False) (G.only idx) S w := by
    refine ⟨by rw [hSl]; exact hV.n, ?_, ?_, ?_, ?_, ?_⟩
    · intro i j _ _ hi hj _
      simp only [Gh.only] at hi hj
      split at hi
      · split at hj
        · rename_i e1 e2; rw [e1, e2]
        · cases hj
      · cases hi
    · intro i hi hl
      simp only [Gh.only] at hl
      split at hl
      · rename_i e
        subst e
        show (G.only i).own (G.mu i) = false
        rw [(own1 _ hnmu).1]
        exact hS.own i hi hl
      · cases hl
    · intro i o hi hl
      by_cases e : i = idx
      · subst e; simp [Gh.only, hlv]
      · rw [hd i o e hi] at hl; cases hl
    · intro i hi hl
      simp only [Gh.only] at hl
      split at hl
      · exact hS.lt hi hl
      · cases hl
    · intro i o hi hl
      by_cases e : i = idx
      · subst e
        rw [h0] at hi
        cases hi
        obtain ⟨vs, g1, g2, g3⟩ := hV.at_ i ob0 hv0 hl0
        refine ⟨vs, g1, g2, fun k a v hk hv => ⟨VR0.move2 (G := G) (G' := G.only i) rfl (fun _ _ => rfl) toK a v (solids_get hs0 hk) (g3 k a v hk hv).1, OwnC.of_plain (hm0 a (List.mem_of_getElem? hk))⟩⟩
      · rw [hd i o e hi] at hl; cases hl
  have hGI : GI P (G.only idx) w := fun hg => by
    obtain ⟨k1, k2, k3, k4⟩ := hG hg
    exact ⟨k1, k2, fun hh => k3 (onlyobj 0 hh), by rw [(own1 0 fun hh => k3 (hidobj 0 hh)).1]; exact k4⟩
  refine (h (fun _ => False) (G.only idx) w cargs hK hGI (VRs0.move2 (G := G) (G' := G.only idx) rfl (fun _ _ => rfl) toK args cargs ha hargs)).mono ?_
  rintro e w' ⟨v, G1, rfl, e1, e2, e3⟩
  have hM : ∀ b, b < w.heap.size → ¬ MofS (fun _ => False) (G.only idx) S w b := fun b hb hm => by
    rcases hm with hm | ⟨hm, _⟩
    · omega
    · exact hm
  have hn1 : G1.n = G.n := by rw [e2.n, hlen, hSl]; exact hV.n.symm
  have hmu1 : ∀ i, i < G.n → G1.mu i = G.mu i := fun i hi => e3.mu i hi
  have hlive1 : G1.live idx = true → G.live idx = true := fun hh => by
    have := e3.live idx hin hh
    simpa [Gh.only] using this
  have hE : Ext (fun _ => False) G w (G.backO G1 idx w.heap.size) w' := {
    size := e3.size
    os := e3.os
    tape := e3.tape
    output := e3.output
    n := Nat.le_refl _
    live := fun i hi hh => by
      simp only [Gh.backO] at hh
      split at hh
      · rename_i e; subst e; exact hlive1 hh
      · exact hh
    mu := fun _ _ => rfl
    newobj := fun i k1 k2 => by simp only [Gh.backO] at k2; omega
    own := fun b hb => by simp only [Gh.backO]; rw [if_pos hb]
    phi := fun b hb _ => by simp only [Gh.backO]; rw [if_pos hb]; exact Nat.le_refl _
    cell := fun b hb hn ho => e3.cell b hb (fun hh => hn (onlyobj b hh)) (by rw [(own1 b fun hh => hn (hidobj b hh)).1]; exact ho)
    row := fun b hb hn ho o hlt => by
      obtain ⟨q1, q2⟩ := own1 b fun hh => hn (hidobj b hh)
      exact e3.row b hb (fun hh => hn (onlyobj b hh)) (q1.trans ho) o (by rw [q2]; exact hlt)
    keep := fun b hb hn ho _ => by
      obtain ⟨q1, q2⟩ := own1 b fun hh => hn (hidobj b hh)
      exact ⟨(e3.keep b hb (fun hh => hn (onlyobj b hh)) (q1.trans ho) (hM b hb)).1, by simp only [Gh.backO]; rw [if_pos hb], by simp only [Gh.backO]; rw [if_pos hb]⟩ }
  have hidK : ∀ b, Hid G idx b → (G.only idx).own b = true ∧ (G.only idx).phi b = 0 := fun b hb => by
    simp only [Gh.only]; rw [if_pos hb, if_pos hb]; exact ⟨rfl, rfl⟩
  have back : ∀ b o len, 0 < len → Seen G1 w' b o len → Seen (G.backO G1 idx w.heap.size) w' b o len := by
    rintro b o len hl ⟨k1, k2, k3⟩
    have hnh : ¬ Hid G idx b := fun hb => by
      obtain ⟨p1, p2, p3⟩ := hhid b hb
      obtain ⟨p4, p5⟩ := hidK b hb
      have q1 := (e3.own b p1).trans p4
      have q2 := (e3.keep b p1 p3 p4 (hM b p1)).2.1
      have := k3 q1
      omega
    refine ⟨k1, fun ⟨i, q1, q2, q3⟩ => ?_, fun ho => ?_⟩
    · simp only [Gh.backO] at q1 q2 q3
      split at q2
      · rename_i e
        subst e
        exact k2 ⟨i, by rw [hn1]; exact q1, q2, (hmu1 i q1).trans q3⟩
      · rename_i e
        exact hnh ⟨i, q1, e, q2, q3⟩
    · simp only [Gh.backO] at ho ⊢
      by_cases hlt : b < w.heap.size
      · rw [if_pos hlt] at ho ⊢
        obtain ⟨q1, q2⟩ := own1 b hnh
        have p3 : ¬ (G.only idx).obj b := fun hh => by
          obtain ⟨z1, z2, z3⟩ := only_obj hh
          have := hS.own idx z1 z2
          rw [← z3, ho] at this
          cases this
        have p1 := (e3.own b hlt).trans (q1.trans ho)
        have p2 := (e3.keep b hlt p3 (q1.trans ho) (hM b hlt)).2.1
        have := k3 p1
        omega
      · rw [if_neg hlt] at ho ⊢
        exact k3 ho
  have hmu2 : ∀ i, i < G1.n → (G.backO G1 idx w.heap.size).mu i = G1.mu i := fun i hi => (hmu1 i (by omega)).symm
  refine ⟨v, G.backO G1 idx w.heap.size, rfl, VR0.move2 (G := G1) (G' := G.backO G1 idx w.heap.size) hn1.symm hmu2 back r v hr e1.1, ?_, hE⟩
  have hlv2 : ∀ i, (G.backO G1 idx w.heap.size).live i = true → G.live i = true := fun i hh => by
    simp only [Gh.backO] at hh
    split at hh
    · rename_i e; subst e; exact hlive1 hh
    · exact hh
  refine ⟨by simp only [List.length_set]; exact hS.n, fun i j hi hj hl1 hl2 hh => hS.inj i j hi hj (hlv2 i hl1) (hlv2 j hl2) hh, ?_, ?_, fun {i} hi hl => Nat.lt_of_lt_of_le (hS.lt hi (hlv2 i hl)) hE.size, ?_⟩
  · intro i hi hl
    simp only [Gh.backO] at hi ⊢
    rw [if_pos (hS.lt hi (hlv2 i hl))]
    exact hS.own i hi (hlv2 i hl)
  · intro j o hj hol
    rw [List.getElem?_set] at hj
    split at hj
    · rename_i e
      subst e
      have hob : ob = o := by
        first
        | simpa using hj
        | (split at hj
           · simpa using hj
           · cases hj)
      subst hob
      simpa [Gh.backO] using e2.live idx ob h1 hol
    · rename_i e
      simp only [Gh.backO]
      rw [if_neg (fun hh => e hh.symm)]
      exact hS.live j o hj hol
  · intro j o hj hol
    rw [List.getElem?_set] at hj
    split at hj
    · rename_i e
      subst e
      have hob : ob = o := by
        first
        | simpa using hj
        | (split at hj
           · simpa using hj
           · cases hj)
      subst hob
      obtain ⟨vs, g1, g2, g3⟩ := e2.at_ idx ob h1 hol
      refine ⟨vs, ?_, g2, fun k a u hk hu => ⟨VR0.move2 (G := G1) (G' := G.backO G1 idx w.heap.size) hn1.symm hmu2 back a u (solids_get hs1 hk) (g3 k a u hk hu).1, OwnC.of_plain (hm1 a (List.mem_of_getElem? hk))⟩⟩
      rw [← g1]
      show w'.heap[G.mu idx]? = _
      rw [hmu1 idx hin]
    · rename_i e
      obtain ⟨vs, g1, g2, g3⟩ := hS.at_ j o hj hol
      have hjn : j < G.n := by rw [hS.n]; exact lt_of_some hj
      have hjl : G.live j = true := hS.live j o hj hol
      have hb : Hid G idx (G.mu j) := ⟨j, hjn, fun hh => e hh.symm, hjl, rfl⟩
      obtain ⟨p1, p2, p3⟩ := hhid _ hb
      obtain ⟨p4, p5⟩ := hidK _ hb
      refine ⟨vs, ?_, g2, fun k a u hk hu => (g3 k a u hk hu).grow hE⟩
      show w'.heap[G.mu j]? = _
      rw [(e3.keep _ p1 p3 p4 (hM _ p1)).1, g1]

mutual
theorem free_solid : ∀ a : AV, a.free = true → a.solid = true
  | .undef, _ | .int .., _ | .bool _, _ | .str _, _ | .nilp, _ | .nilf, _ | .mapn, _ | .ref _ _, _ | .arr _ _, _ | .mapr _, _ => by simp [AV.solid]
  | .eptr cs _, h => by simp only [AV.free, AV.solid, Bool.and_eq_true] at h ⊢; exact ⟨h.1, frees_solids cs h.2⟩
  | .list cs _ _, h => by simp only [AV.free, AV.solid] at h ⊢; exact frees_solids cs h
  | .func _ cs, h => by simp only [AV.free, AV.solid] at h ⊢; exact frees_solids cs h
  | .agg cs, h => by simp only [AV.free, AV.solid] at h ⊢; exact frees_solids cs h
  | .tuple cs, h => by simp only [AV.free, AV.solid] at h ⊢; exact frees_solids cs h
theorem frees_solids : ∀ l : List AV, frees l = true → solids l = true
  | [], _ => by simp [solids]
  | a :: l, h => by simp only [frees, solids, Bool.and_eq_true] at h ⊢; exact ⟨free_solid a h.1, frees_solids l h.2⟩
end
theorem solids_app : ∀ {l m : List AV}, solids l = true → solids m = true → solids (l ++ m) = true
  | [], m, _, h => h
  | a :: l, m, h, h2 => by
    simp only [List.cons_append, solids, Bool.and_eq_true] at h ⊢
    exact ⟨h.1, solids_app h.2 h2⟩
/-- it writes an object, and tells something -/
def HWrite (P : Program) (A : Array Oper) (o : Oper) (fr : List AV) (sv : List Ob) (idx : Nat) (ob : Ob) (v : AV) : Prop :=
  ∀ M G w a s, Fresh P M G w → Sim M G s w → Sim M G sv w → FR M G w (aForget (readsOf A o) fr) a → ∀ (K : Act → World → Prop) (Q : Exit → Act → World → Prop),
    (∀ cv G' w', Ext (fun _ => False) G w G' w' → Sim M G' (s.set idx ob) w' → VR M G' w' v cv → K (a.put o.dst cv) w') → o.wp P a w K Q
theorem HStore.write {P : Program} {A : Array Oper} {o : Oper} {fr : List AV} {sv : List Ob} {idx : Nat} {ob : Ob} (h : HStore P A o fr sv idx ob) : HWrite P A o fr sv idx ob (.tuple []) := by
  intro M G w a s hF hs hS hf K Q hK
  obtain ⟨w2, k1, k2, k3, k4, k5, sv', k6, k7⟩ := h M G w a hS hf
  unfold Oper.wp
  rw [k1, Oper.upon_skip]
  exact hK undef G w2 k2 (hs.patch k2 k3 k4 k5 k6 k7) ⟨by simp only [VR0]; exact ⟨[], rfl, by simp only [VRs0]⟩, OwnC.of_plain rfl⟩
theorem HWrite_call {P : Program} {A : Array Oper} {o : Oper} {fr : List AV} {sv S S' : List Ob} {idx : Nat} {ob0 ob : Ob} {r : AV} {c : Call} {x : Operand} {f : FuncId} {fcs : List AV} (ho : o.op = .call c) (hc : c.callee = .value x) (hx : aEval fr x = .func (.func f) fcs)
    (hbody : enters P f = true) (hok : Ok P f ((c.args.toList.map fun y => (aEval fr y).soft) ++ fcs) S r S') (ha : solids ((c.args.toList.map fun y => (aEval fr y).soft) ++ fcs) = true) (hr : r.solid = true) (hm : r.mark = none)
    (hd : ∀ j o, j ≠ idx → S[j]? = some o → o.live = false) (h0 : S[idx]? = some ob0) (hl0 : ob0.live = true) (hm0 : ∀ a ∈ ob0.cs, a.mark = none) (hs0 : solids ob0.cs = true)
    (hlen : S'.length = S.length) (h1 : S'[idx]? = some ob) (hm1 : ∀ a ∈ ob.cs, a.mark = none) (hs1 : solids ob.cs = true) (hSl : S.length = sv.length) (hv0 : sv[idx]? = some ob0) : HWrite P A o fr sv idx ob r := by
  intro M G w a s hF hs hS hf K Q hK
  have hxo : ∀ y ∈ o.op.operands, aEval (aForget (readsOf A o) fr) y = aEval fr y := fun y hy => aEval_forget hy
  have hx' : aEval (aForget (readsOf A o) fr) x = .func (.func f) fcs := by
    rw [hxo x (by simp [ho, Op.operands, Call.operands, hc])]
    exact hx
  have hargs' : (c.args.toList.map fun y => (aEval (aForget (readsOf A o) fr) y).soft) = c.args.toList.map fun y => (aEval fr y).soft :=
    List.map_congr_left fun y hy => by rw [hxo y (by simp [ho, Op.operands, Call.operands]; right; simpa using hy)]
  have hv := (hf.eval x).1
  rw [hx'] at hv
  simp only [VR0] at hv
  obtain ⟨cvs, hv, hcv⟩ := hv
  have hargs : ∀ l : List Operand, VRs0 G w (l.map fun y => (aEval (aForget (readsOf A o) fr) y).soft) (l.map a.eval) := by
    intro l
    induction l with
    | nil => simp only [List.map_nil, VRs0]
    | cons y l ih =>
      simp only [List.map_cons, VRs0]
      exact ⟨_, _, rfl, (hf.eval y).1.soft, ih⟩
  have h2 := hargs c.args.toList
  rw [hargs'] at h2
  have hcall := OkW_at hok hd h0 hl0 hm0 hs0 hlen h1 hm1 hs1 ha hr hs hS hSl hv0 hF.2 (h2.app hcv)
  have hrun : (execOp a.eval o).run P w = .ok (.enter f ((c.args.toList.map a.eval) ++ cvs).toArray) w := by
    have e1 : c.args.map a.eval ++ cvs.toArray = ((c.args.toList.map a.eval) ++ cvs).toArray := by
      apply Array.ext'
      simp
    simp [execOp, ho, resolve, hc, hv, Deferred.ofValue, invoke, run_enter hbody, e1]
  unfold Oper.wp
  rw [hrun, Oper.upon_enter]
  refine hcall.mono ?_
  rintro e w' ⟨v, G', rfl, h1, h2, h3⟩
  exact hK v G' w' h3 h2 ⟨h1, OwnC.of_plain hm⟩
end
end Go.Proofs.YtmacghaihlfcpaaGreat.Abs
