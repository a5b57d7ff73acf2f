/- A call that looks at no object and makes new ones: what it does beside any objects. -/
import Derived.Test.YtmacghaihlfcpaaGreatSY
namespace Go.Proofs.YtmacghaihlfcpaaGreat.Abs
noncomputable section
open Go Go.ChangeShapes Go.WideShapes Go.ChangeAt Go.RowKit
set_option linter.unusedVariables false
set_option linter.unusedSimpArgs false

mutual
/-- no pointer into a row without a cell -/
def AV.semi : AV → Bool
  | .eptr cs _ => !cs.isEmpty && semis cs
  | .list cs _ _ => semis cs
  | .func _ cs => semis cs
  | .agg cs => semis cs
  | .tuple cs => semis cs
  | .undef | .int .. | .bool _ | .str _ | .nilp | .nilf | .mapn | .mapr _ | .ref .. | .arr .. => true
def semis : List AV → Bool
  | [] => true
  | a :: l => a.semi && semis l
end
theorem semis_mem : ∀ {l : List AV}, semis l = true → ∀ a ∈ l, a.semi = true
  | [], _, a, h => by simp at h
  | b :: l, h, a, ha => by
    simp only [semis, Bool.and_eq_true] at h
    rcases List.mem_cons.1 ha with e | e
    · subst e; exact h.1
    · exact semis_mem h.2 a e
theorem semi_plain {a : AV} (h : a.semi = true) : a.plain.semi = true := by
  cases a <;> try exact h
  rename_i cs n g
  cases g <;> exact h
mutual
theorem VR0.sh {G G' : Gh} {w : World} {f : Nat → Nat} (hs : ∀ b o len, 0 < len → Seen G w b o len → Seen G' w b o len) (hm : ∀ i, i < G.n → G'.mu (f i) = G.mu i ∧ f i < G'.n) : ∀ (a : AV) (v : Value), a.semi = true → VR0 G w a v → VR0 G' w (a.rn f) v
  | .undef, _, _, _ => by simp only [AV.rn, VR0]
  | .int .., _, _, h => by simp only [AV.rn, VR0] at h ⊢; exact h
  | .bool _, _, _, h => by simp only [AV.rn, VR0] at h ⊢; exact h
  | .str _, _, _, h => by simp only [AV.rn, VR0] at h ⊢; exact h
  | .nilp, _, _, h => by simp only [AV.rn, VR0] at h ⊢; exact h
  | .ref i o, _, _, h => by
    simp only [AV.rn, VR0] at h ⊢
    obtain ⟨q1, q2⟩ := hm i h.2
    rw [q1]
    exact ⟨h.1, q2⟩
  | .arr i o, _, _, h => by
    simp only [AV.rn, VR0] at h ⊢
    obtain ⟨q1, q2⟩ := hm i h.2
    rw [q1]
    exact ⟨h.1, q2⟩
  | .eptr cs o, _, hb, h => by
    simp only [AV.rn, VR0, AV.semi, Bool.and_eq_true, Bool.not_eq_true', List.isEmpty_eq_false_iff] at h hb ⊢
    obtain ⟨b, ob, vs, h1, h2, h3, h4⟩ := h
    exact ⟨b, ob, vs, h1, by rw [rns_length]; exact hs _ _ _ (List.length_pos_iff.2 hb.1) h2, h3, VRs0.sh hs hm cs vs hb.2 h4⟩
  | .list cs n g, _, hb, h => by
    simp only [AV.rn, VR0, AV.semi] at h hb ⊢
    obtain ⟨A, cap, h1, h2, h3, h4⟩ := h
    refine ⟨A, cap, h1, h2, h3, ?_⟩
    rcases h4 with h4 | ⟨b, o, vs, h5, h6, h7, h8⟩
    · subst h4; exact .inl rfl
    · by_cases hc : cs = []
      · subst hc; exact .inl rfl
      · exact .inr ⟨b, o, vs, h5, by rw [rns_length]; exact hs _ _ _ (List.length_pos_iff.2 hc) h6, h7, VRs0.sh hs hm cs vs hb h8⟩
  | .nilf, _, _, h => by simp only [AV.rn, VR0] at h ⊢; exact h
  | .mapn, _, _, h => by simp only [AV.rn, VR0] at h ⊢; exact h
  | .mapr i, _, _, h => by
    simp only [AV.rn, VR0] at h ⊢
    obtain ⟨q1, q2⟩ := hm i h.2
    rw [q1]
    exact ⟨h.1, q2⟩
  | .func fn cs, _, hb, h => by
    simp only [AV.rn, VR0, AV.semi] at h hb ⊢
    obtain ⟨vs, h1, h2⟩ := h
    exact ⟨vs, h1, VRs0.sh hs hm cs vs hb h2⟩
  | .agg cs, _, hb, h => by
    simp only [AV.rn, VR0, AV.semi] at h hb ⊢
    obtain ⟨vs, h1, h2⟩ := h
    exact ⟨vs, h1, VRs0.sh hs hm cs vs hb h2⟩
  | .tuple cs, _, hb, h => by
    simp only [AV.rn, VR0, AV.semi] at h hb ⊢
    obtain ⟨vs, h1, h2⟩ := h
    exact ⟨vs, h1, VRs0.sh hs hm cs vs hb h2⟩
theorem VRs0.sh {G G' : Gh} {w : World} {f : Nat → Nat} (hs : ∀ b o len, 0 < len → Seen G w b o len → Seen G' w b o len) (hm : ∀ i, i < G.n → G'.mu (f i) = G.mu i ∧ f i < G'.n) : ∀ (l : List AV) (vs : List Value), semis l = true → VRs0 G w l vs → VRs0 G' w (rns f l) vs
  | [], _, _, h => by simp only [rns, VRs0] at h ⊢; exact h
  | a :: l, _, hb, h => by
    simp only [rns, VRs0, semis, Bool.and_eq_true] at h hb ⊢
    obtain ⟨v, vs', h1, h2, h3⟩ := h
    exact ⟨v, vs', h1, VR0.sh hs hm a v hb.1 h2, VRs0.sh hs hm l vs' hb.2 h3⟩
end
/-- told back, and the new objects behind -/
def Gh.join (G G1 : Gh) (size : Nat) : Gh where
  n := G.n + G1.n
  live i := if i < G.n then G.live i else G1.live (i - G.n)
  mu i := if i < G.n then G.mu i else G1.mu (i - G.n)
  own b := if b < size then G.own b else G1.own b
  phi b := if b < size then G.phi b else G1.phi b
  tg b := if b < size then G.tg b else G1.tg b
def Ob.up (n : Nat) (o : Ob) : Ob := { o with cs := rns (· + n) (o.cs.map AV.plain) }
theorem OkN_at {P : Program} {f : FuncId} {args : List AV} {r : AV} {s1 : List Ob} (h : Ok P f args [] r s1) (ha : frees args = true) (hr : r.semi = true) (hs1 : ∀ o ∈ s1, semis o.cs = true) {M : Nat → Prop} {G : Gh} {s : List Ob} {w : World} {cargs : List Value} (hS : Sim M G s w) (hG : GI P G w) (hargs : VRs0 G w args cargs) :
    Calls P f cargs.toArray w fun e w' => ∃ v G', e = .returned v ∧ VR0 G' w' (r.rn (· + s.length)) v ∧ Sim M G' (s ++ s1.map (Ob.up s.length)) w' ∧ Ext (fun _ => False) G w G' w' := by
  have hobj : ∀ b, G.obj b → b < w.heap.size ∧ G.own b = false := by
    rintro b ⟨i, h1, h2, rfl⟩
    exact ⟨hS.lt h1 h2, hS.own i h1 h2⟩
  have h0 := h (fun _ => False) G.hide w cargs ⟨rfl, fun i j hi => by simp only [Gh.hide] at hi; omega, fun i hi => by simp only [Gh.hide] at hi; omega, fun i o hi => by simp at hi, fun {i} hi => by simp only [Gh.hide] at hi; omega, fun i o hi => by simp at hi⟩ hG.hide
    (VRs0.move (fun b o len hl ⟨k1, k2, k3⟩ => ⟨k1, hide_nobj G b, fun ho => by
      simp only [Gh.hide] at ho ⊢
      rw [if_neg k2] at ho ⊢
      exact k3 ho⟩) args cargs ha hargs)
  refine h0.mono ?_
  rintro e w' ⟨v, G1, rfl, h1, h2, h3⟩
  have hM : ∀ b, b < w.heap.size → ¬ MofS (fun _ => False) G.hide [] w b := fun b hb hm => by
    rcases hm with hm | ⟨hm, _⟩
    · omega
    · exact hm
  have own1 : ∀ b, b < w.heap.size → G.own b = true → ¬ G.obj b → G.hide.own b = true ∧ G.hide.phi b = G.phi b := fun b hb ho hn => by
    simp only [Gh.hide]; rw [if_neg hn, if_neg hn]; exact ⟨ho, rfl⟩
  have hnew : ∀ i, i < G1.n → w.heap.size ≤ G1.mu i := fun i hi => h3.newobj i (Nat.zero_le _) hi
  have hE : Ext (fun _ => False) G w (G.join G1 w.heap.size) w' := {
    size := h3.size
    os := h3.os
    tape := h3.tape
    output := h3.output
    n := Nat.le_add_right _ _
    live := fun i hi h => by simp only [Gh.join] at h; rw [if_pos hi] at h; exact h
    mu := fun i hi => by simp only [Gh.join]; rw [if_pos hi]
    newobj := fun i k1 k2 => by
      simp only [Gh.join] at k2 ⊢
      rw [if_neg (by omega)]
      exact hnew _ (by omega)
    own := fun b hb => by simp only [Gh.join]; rw [if_pos hb]
    phi := fun b hb _ => by simp only [Gh.join]; rw [if_pos hb]; exact Nat.le_refl _
    cell := fun b hb hn ho => h3.cell b hb (hide_nobj G b) (by simp only [Gh.hide]; rw [if_neg hn]; exact ho)
    row := fun b hb hn ho o hlt => h3.row b hb (hide_nobj G b) (own1 b hb ho hn).1 o (by rw [(own1 b hb ho hn).2]; exact hlt)
    keep := fun b hb hn ho _ => ⟨(h3.keep b hb (hide_nobj G b) (own1 b hb ho hn).1 (hM b hb)).1, by simp only [Gh.join]; rw [if_pos hb], by simp only [Gh.join]; rw [if_pos hb]⟩ }
  have hseen : ∀ b o len, 0 < len → Seen G1 w' b o len → Seen (G.join G1 w.heap.size) w' b o len := by
    rintro b o len hl ⟨k1, k2, k3⟩
    have hno : ¬ G.obj b := fun hb => by
      obtain ⟨hlt, _⟩ := hobj b hb
      have ho1 : G.hide.own b = true := by simp only [Gh.hide]; rw [if_pos hb]
      have e1 := (h3.own b hlt).trans ho1
      have e2 := (h3.keep b hlt (hide_nobj G b) ho1 (hM b hlt)).2.1
      have e3 : G.hide.phi b = 0 := by simp only [Gh.hide]; rw [if_pos hb]
      have := k3 e1
      omega
    refine ⟨k1, fun ⟨i, q1, q2, q3⟩ => ?_, fun ho => ?_⟩
    · simp only [Gh.join] at q1 q2 q3
      by_cases hi : i < G.n
      · rw [if_pos hi] at q2 q3
        exact hno ⟨i, hi, q2, q3⟩
      · rw [if_neg hi] at q2 q3
        exact k2 ⟨i - G.n, by omega, q2, q3⟩
    simp only [Gh.join] at ho ⊢
    by_cases hlt : b < w.heap.size
    · rw [if_pos hlt] at ho ⊢
      obtain ⟨q1, q2⟩ := own1 b hlt ho hno
      have e1 := (h3.own b hlt).trans q1
      have e2 := (h3.keep b hlt (hide_nobj G b) q1 (hM b hlt)).2.1
      have := k3 e1
      omega
    · rw [if_neg hlt] at ho ⊢
      exact k3 ho
  have hmu : ∀ i, i < G1.n → (G.join G1 w.heap.size).mu (i + s.length) = G1.mu i ∧ i + s.length < (G.join G1 w.heap.size).n := fun i hi => by
    have := hS.n
    simp only [Gh.join]
    rw [if_neg (by omega)]
    exact ⟨by congr 1; omega, by omega⟩
  have hsh : ∀ (a : AV) (u : Value), a.semi = true → VR0 G1 w' a u → VR0 (G.join G1 w.heap.size) w' (a.rn (· + s.length)) u := fun a u hb hu => VR0.sh (f := (· + s.length)) hseen hmu a u hb hu
  refine ⟨v, G.join G1 w.heap.size, rfl, hsh r v hr h1.1, ?_, hE⟩
  have hn1 : G1.n = s1.length := h2.n
  refine ⟨?_, ?_, ?_, ?_, ?_, ?_⟩
  · simp only [Gh.join, List.length_append, List.length_map]
    rw [hS.n, hn1]
  · intro i j hi hj li lj hij
    simp only [Gh.join] at hi hj li lj hij
    by_cases h4 : i < G.n
    · rw [if_pos h4] at li hij
      by_cases h5 : j < G.n
      · rw [if_pos h5] at lj hij
        exact hS.inj i j h4 h5 li lj hij
      · rw [if_neg h5] at lj hij
        have q1 := hS.lt h4 li
        have q2 := hnew (j - G.n) (by omega)
        omega
    · rw [if_neg h4] at li hij
      by_cases h5 : j < G.n
      · rw [if_pos h5] at lj hij
        have q1 := hS.lt h5 lj
        have q2 := hnew (i - G.n) (by omega)
        omega
      · rw [if_neg h5] at lj hij
        have := h2.inj (i - G.n) (j - G.n) (by omega) (by omega) li lj hij
        omega
  · intro i hi hl
    simp only [Gh.join] at hi hl ⊢
    by_cases h4 : i < G.n
    · rw [if_pos h4] at hl ⊢
      rw [if_pos (hS.lt h4 hl)]
      exact hS.own i h4 hl
    · rw [if_neg h4] at hl ⊢
      have := hnew (i - G.n) (by omega)
      rw [if_neg (by omega)]
      exact h2.own _ (by omega) hl
  · intro i o hi hl
    simp only [Gh.join]
    rcases Nat.lt_or_ge i s.length with h4 | h4
    · rw [List.getElem?_append_left h4] at hi
      rw [if_pos (by rw [hS.n]; exact h4)]
      exact hS.live i o hi hl
    · rw [List.getElem?_append_right h4, List.getElem?_map] at hi
      obtain ⟨o', h5, rfl⟩ := map_some_eq hi
      rw [if_neg (by rw [hS.n]; omega), hS.n]
      exact h2.live _ o' h5 hl
  · intro i hi hl
    simp only [Gh.join] at hi hl ⊢
    by_cases h4 : i < G.n
    · rw [if_pos h4] at hl ⊢
      exact Nat.lt_of_lt_of_le (hS.lt h4 hl) hE.size
    · rw [if_neg h4] at hl ⊢
      exact h2.lt (by omega) hl
  · intro i o hi hl
    rcases Nat.lt_or_ge i s.length with h4 | h4
    · rw [List.getElem?_append_left h4] at hi
      obtain ⟨vs, g1, g2, g3⟩ := hS.at_ i o hi hl
      have hin : i < G.n := by rw [hS.n]; exact h4
      have hlv : G.live i = true := hS.live i o hi hl
      have hob : G.obj (G.mu i) := ⟨i, hin, hlv, rfl⟩
      have ho1 : G.hide.own (G.mu i) = true := by simp only [Gh.hide]; rw [if_pos hob]
      refine ⟨vs, ?_, g2, fun k a u hk hu => (g3 k a u hk hu).grow hE⟩
      have e : (G.join G1 w.heap.size).mu i = G.mu i := by simp only [Gh.join]; rw [if_pos hin]
      rw [e, (h3.keep _ (hS.lt hin hlv) (hide_nobj G _) ho1 (hM _ (hS.lt hin hlv))).1, g1]
    · rw [List.getElem?_append_right h4, List.getElem?_map] at hi
      obtain ⟨o', h5, rfl⟩ := map_some_eq hi
      obtain ⟨vs, g1, g2, g3⟩ := h2.at_ _ o' h5 hl
      have e : (G.join G1 w.heap.size).mu i = G1.mu (i - s.length) := by simp only [Gh.join]; rw [if_neg (by rw [hS.n]; omega), hS.n]
      refine ⟨vs, ?_, by simp only [Ob.up]; rw [rns_length, List.length_map]; exact g2, ?_⟩
      · rw [e, Ob.obj_congr (o := o') (o' := Ob.up s.length o') rfl]; exact g1
      · intro k a u hk hu
        simp only [Ob.up] at hk
        rw [rns_map, List.getElem?_map, List.getElem?_map] at hk
        obtain ⟨a1, h6, rfl⟩ := map_some_eq hk
        obtain ⟨a2, h7, rfl⟩ := map_some_eq h6
        have hsm : a2.semi = true := semis_mem (hs1 o' (List.mem_of_getElem? h5)) a2 (List.mem_of_getElem? h7)
        have hv := g3 k a2 u h7 hu
        refine ⟨hsh _ u (semi_plain hsm) hv.1.plain, OwnC.of_plain ?_⟩
        cases a2 with
        | list cs n g => cases g <;> rfl
        | _ => rfl
theorem Step_callN {P : Program} {o : Oper} {fr : List AV} {s s1 : List Ob} {r : AV} {c : Call} {x : Operand} {f : FuncId} {fcs : List AV} (ho : o.op = .call c) (hc : c.callee = .value x) (hx : aEval fr x = .func (.func f) fcs)
    (hbody : enters P f = true) (hok : Ok P f ((c.args.toList.map fun y => (aEval fr y).soft) ++ fcs) [] r s1) (ha : frees ((c.args.toList.map fun y => (aEval fr y).soft) ++ fcs) = true) (hr : r.semi = true) (hm : (r.rn (· + s.length)).mark = none) (hs1 : ∀ o ∈ s1, semis o.cs = true) : Step P o fr s fr (r.rn (· + s.length)) (s ++ s1.map (Ob.up s.length)) := by
  intro M G w a hF hS hf K Q hK
  have hv := (hf.eval x).1
  rw [hx] at hv
  simp only [VR0] at hv
  obtain ⟨cvs, hv, hcv⟩ := hv
  have hargs : ∀ l : List Operand, VRs0 G w (l.map fun y => (aEval fr y).soft) (l.map a.eval) := by
    intro l
    induction l with
    | nil => simp only [List.map_nil, VRs0]
    | cons y l ih =>
      simp only [List.map_cons, VRs0]
      exact ⟨_, _, rfl, (hf.eval y).1.soft, ih⟩
  have happ : ∀ (l m : List AV) (x y : List Value), VRs0 G w l x → VRs0 G w m y → VRs0 G w (l ++ m) (x ++ y) := by
    intro l
    induction l with
    | nil => intro m x y h1 h2; simp only [VRs0] at h1; subst h1; exact h2
    | cons a l ih =>
      intro m x y h1 h2
      simp only [VRs0] at h1
      obtain ⟨v, vs', rfl, h3, h4⟩ := h1
      simp only [List.cons_append, VRs0]
      exact ⟨v, _, rfl, h3, ih m vs' y h4 h2⟩
  have hcall := OkN_at hok ha hr hs1 hS hF.2 (happ _ _ _ _ (hargs c.args.toList) hcv)
  have hrun : (execOp a.eval o).run P w = .ok (.enter f ((c.args.toList.map a.eval) ++ cvs).toArray) w := by
    have e1 : c.args.map a.eval ++ cvs.toArray = ((c.args.toList.map a.eval) ++ cvs).toArray := by
      apply Array.ext'
      simp
    simp [execOp, ho, resolve, hc, hv, Deferred.ofValue, invoke, run_enter hbody, e1]
  unfold Oper.wp
  rw [hrun, Oper.upon_enter]
  refine hcall.mono ?_
  rintro e w' ⟨v, G', rfl, h1, h2, h3⟩
  exact hK v G' w' (h3.mono fun _ _ => False.elim) h2 (hf.grow h3) ⟨h1, OwnC.of_plain hm⟩
/-! on typed values -/
mutual
def tsemi : TV → Bool
  | .ep cs _ => !cs.isEmpty && tsemis cs
  | .ll cs _ _ => tsemis cs
  | .func _ cs => tsemis cs
  | .agg cs => tsemis cs
  | .tup cs => tsemis cs
  | .ap .. => false
  | .undef | .int .. | .bool _ | .tt | .ff | .str _ | .nilp | .tl .. | .nilf | .mapn | .mapr _ | .ref .. | .arr .. => true
def tsemis : List TV → Bool
  | [] => true
  | a :: l => tsemi a && tsemis l
end
mutual
theorem AV.semi_of_free : ∀ a : AV, a.free = true → a.semi = true
  | .undef, _ => rfl
  | .int .., _ => rfl
  | .bool _, _ => rfl
  | .str _, _ => rfl
  | .nilp, _ => rfl
  | .nilf, _ => rfl
  | .mapn, _ => rfl
  | .mapr _, _ => rfl
  | .ref .., _ => rfl
  | .arr .., _ => rfl
  | .eptr cs _, h => by
    simp only [AV.free, AV.semi, Bool.and_eq_true] at h ⊢
    exact ⟨h.1, semis_of_frees cs h.2⟩
  | .list cs _ _, h => by simp only [AV.free, AV.semi] at h ⊢; exact semis_of_frees cs h
  | .func _ cs, h => by simp only [AV.free, AV.semi] at h ⊢; exact semis_of_frees cs h
  | .agg cs, h => by simp only [AV.free, AV.semi] at h ⊢; exact semis_of_frees cs h
  | .tuple cs, h => by simp only [AV.free, AV.semi] at h ⊢; exact semis_of_frees cs h
theorem semis_of_frees : ∀ l : List AV, frees l = true → semis l = true
  | [], _ => rfl
  | a :: l, h => by
    simp only [frees, semis, Bool.and_eq_true] at h ⊢
    exact ⟨AV.semi_of_free a h.1, semis_of_frees l h.2⟩
end
mutual
theorem tsemi_spec : ∀ v : TV, tsemi v = true → (dn v).semi = true
  | .undef, _ => rfl
  | .int .., _ => rfl
  | .bool _, _ => rfl
  | .tt, _ => rfl
  | .ff, _ => rfl
  | .str _, _ => rfl
  | .nilp, _ => rfl
  | .nilf, _ => rfl
  | .mapn, _ => rfl
  | .mapr _, _ => rfl
  | .tl t xs g, _ => semis_of_frees _ (flat_free xs)
  | .ref .., _ => rfl
  | .arr .., _ => rfl
  | .ap .., h => by simp [tsemi] at h
  | .ll cs _ _, h => by simp only [tsemi] at h; exact tsemis_spec cs h
  | .ep cs _, h => by
    simp only [tsemi, Bool.and_eq_true] at h
    simp only [dn, AV.semi, tsemis_spec cs h.2, Bool.and_true]
    cases cs with
    | nil => simp at h
    | cons => rfl
  | .func _ cs, h => by simp only [tsemi] at h; exact tsemis_spec cs h
  | .agg cs, h => by simp only [tsemi] at h; exact tsemis_spec cs h
  | .tup cs, h => by simp only [tsemi] at h; exact tsemis_spec cs h
theorem tsemis_spec : ∀ (l : List TV), tsemis l = true → semis (dns l) = true
  | [], _ => rfl
  | a :: l, h => by
    simp only [tsemis, Bool.and_eq_true] at h
    simp only [dns, semis, tsemi_spec a h.1, tsemis_spec l h.2, Bool.and_self]
end
/-- new objects behind n others -/
def upS (n : Nat) : List TOb → Option (List TOb)
  | [] => some []
  | .cells cs t l :: s => match tsemis cs, upS n s with
    | true, some s' => some (.cells (trns (· + n) (cs.map tplain)) t l :: s')
    | _, _ => none
  | .tarr .. :: _ => none
theorem upS_spec {n : Nat} : ∀ {s s' : List TOb}, upS n s = some s' → dnS s' = (dnS s).map (Ob.up n) ∧ ∀ o ∈ dnS s, semis o.cs = true
  | [], _, h => by simp only [upS, Option.some.injEq] at h; subst h; exact ⟨rfl, fun o ho => by simp [dnS] at ho⟩
  | .cells cs t l :: s, s', h => by
    unfold upS at h
    split at h
    · rename_i s2 h1 h2
      cases h
      obtain ⟨q1, q2⟩ := upS_spec h2
      refine ⟨?_, fun o ho => ?_⟩
      · have : dns (cs.map tplain) = (dns cs).map AV.plain := by rw [dns_map, dns_map, List.map_map, List.map_map]; exact List.map_congr_left fun v _ => dn_tplain v
        simp only [dnS, List.map_cons, dnO, Ob.up, dns_rn, this]
        congr 1
      · simp only [dnS, List.map_cons, List.mem_cons] at ho
        rcases ho with e | e
        · subst e; exact tsemis_spec cs h1
        · exact q2 o e
    · cases h
  | .tarr .. :: _, _, h => by simp [upS] at h
theorem rn_mark {f : Nat → Nat} {a : AV} (h : a.mark = none) : (a.rn f).mark = none := by
  cases a with
  | list cs n g => cases g <;> first | rfl | cases h
  | _ => rfl
theorem tsemi_plain (v : TV) : tsemi (tplain v) = tsemi v := by
  cases v
  case tl t xs g => cases g <;> rfl
  case ll cs n g => cases g <;> rfl
  all_goals rfl
end
end Go.Proofs.YtmacghaihlfcpaaGreat.Abs
