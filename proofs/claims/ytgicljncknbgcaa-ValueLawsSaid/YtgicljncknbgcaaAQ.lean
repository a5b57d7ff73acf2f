/- A contract that asks no object holds beside any objects. -/
import Derived.Test.YtgicljncknbgcaaTE
import Derived.Test.YtgicljncknbgcaaAM2
namespace Go.Proofs.Ytgicljncknbgcaa.Abs
open Go Go.ChangeShapes Go.WideShapes Go.ChangeAt Go.RowKit
set_option linter.unusedVariables false
set_option linter.unusedSimpArgs false

mutual
/-- it points to no object -/
def AV.free : AV → Bool
  | .ref _ _ => false
  | .arr _ _ => false
  | .eptr cs _ => !cs.isEmpty && frees cs
  | .list cs _ _ => frees cs
  | .func _ cs => frees cs
  | .agg cs => frees cs
  | .tuple cs => frees cs
  | .undef | .int .. | .bool _ | .str _ | .nilp | .nilf => true
def frees : List AV → Bool
  | [] => true
  | a :: as => a.free && frees as
end
mutual
theorem VR0.move {G G' : Gh} {w : World} (hs : ∀ b o len, 0 < len → Seen G w b o len → Seen G' w b o len) : ∀ (a : AV) (v : Value), a.free = true → VR0 G w a v → VR0 G' w a v
  | .undef, _, _, _ => by simp only [VR0]
  | .int .., _, _, hv => by simp only [VR0] at hv ⊢; exact hv
  | .bool .., _, _, hv => by simp only [VR0] at hv ⊢; exact hv
  | .str .., _, _, hv => by simp only [VR0] at hv ⊢; exact hv
  | .nilp, _, _, hv => by simp only [VR0] at hv ⊢; exact hv
  | .nilf, _, _, hv => by simp only [VR0] at hv ⊢; exact hv
  | .ref i o, _, hb, _ => by simp [AV.free] at hb
  | .arr i o, _, hb, _ => by simp [AV.free] at hb
  | .eptr cs o, _, hb, hv => by
    simp only [VR0, AV.free, Bool.and_eq_true, Bool.not_eq_true', List.isEmpty_eq_false_iff] at hv hb ⊢
    obtain ⟨b, ob, vs, h1, h2, h3, h4⟩ := hv
    exact ⟨b, ob, vs, h1, hs _ _ _ (List.length_pos_iff.2 hb.1) h2, h3, VRs0.move hs cs vs hb.2 h4⟩
  | .list cs n g, _, hb, hv => by
    simp only [VR0, AV.free] at hv hb ⊢
    obtain ⟨A, cap, h1, h2, h3, h4⟩ := hv
    refine ⟨A, cap, h1, h2, h3, ?_⟩
    rcases h4 with h4 | ⟨b, o, vs, h5, h6, h7, h8⟩
    · exact .inl h4
    · by_cases hc : cs = []
      · exact .inl hc
      · exact .inr ⟨b, o, vs, h5, hs _ _ _ (List.length_pos_iff.2 hc) h6, h7, VRs0.move hs cs vs hb h8⟩
  | .func fn cs, _, hb, hv => by
    simp only [VR0, AV.free] at hv hb ⊢
    obtain ⟨vs, h1, h2⟩ := hv
    exact ⟨vs, h1, VRs0.move hs cs vs hb h2⟩
  | .agg cs, _, hb, hv => by
    simp only [VR0, AV.free] at hv hb ⊢
    obtain ⟨vs, h1, h2⟩ := hv
    exact ⟨vs, h1, VRs0.move hs cs vs hb h2⟩
  | .tuple cs, _, hb, hv => by
    simp only [VR0, AV.free] at hv hb ⊢
    obtain ⟨vs, h1, h2⟩ := hv
    exact ⟨vs, h1, VRs0.move hs cs vs hb h2⟩
theorem VRs0.move {G G' : Gh} {w : World} (hs : ∀ b o len, 0 < len → Seen G w b o len → Seen G' w b o len) : ∀ (as : List AV) (vs : List Value), frees as = true → VRs0 G w as vs → VRs0 G' w as vs
  | [], _, _, hv => by simp only [VRs0] at hv ⊢; exact hv
  | a :: as, _, hb, hv => by
    simp only [VRs0, frees, Bool.and_eq_true] at hv hb ⊢
    obtain ⟨v, vs', h1, h2, h3⟩ := hv
    exact ⟨v, vs', h1, VR0.move hs a v hb.1 h2, VRs0.move hs as vs' hb.2 h3⟩
end
open Classical in
/-- the objects hidden -/
noncomputable def Gh.hide (G : Gh) : Gh where
  n := 0
  live _ := false
  mu := G.mu
  own b := if G.obj b then true else G.own b
  phi b := if G.obj b then 0 else G.phi b
  tg := G.tg
theorem hide_nobj (G : Gh) (b : Nat) : ¬ G.hide.obj b := fun ⟨i, hi, _⟩ => by simp only [Gh.hide] at hi; omega
/-- told back -/
def Gh.back (G G1 : Gh) (size : Nat) : Gh where
  n := G.n
  live := G.live
  mu := G.mu
  own b := if b < size then G.own b else G1.own b
  phi b := if b < size then G.phi b else G1.phi b
  tg b := if b < size then G.tg b else G1.tg b
theorem OkP_at {P : Program} {f : FuncId} {args : List AV} {r : AV} (h : Ok P f args [] r []) (ha : frees args = true) (hr : r.free = true) {M : Nat → Prop} {G : Gh} {s : List Ob} {w : World} {cargs : List Value} (hS : Sim M G s w) (hargs : VRs0 G w args cargs) :
    Calls P f cargs.toArray w fun e w' => ∃ v G', e = .returned v ∧ VR0 G' w' r v ∧ Sim M G' s w' ∧ Ext (fun _ => False) G w G' w' := by
  have hobj : ∀ b, G.obj b → b < w.heap.size ∧ G.own b = false := by
    rintro b ⟨i, h1, h2, rfl⟩
    exact ⟨hS.lt h1 h2, hS.own i h1 h2⟩
  have h0 := h (fun _ => False) G.hide w cargs ⟨rfl, fun i j hi => by simp only [Gh.hide] at hi; omega, fun i hi => by simp only [Gh.hide] at hi; omega, fun i o hi => by simp at hi, fun {i} hi => by simp only [Gh.hide] at hi; omega, fun i o hi => by simp at hi⟩
    (VRs0.move (fun b o len hl ⟨k1, k2, k3⟩ => ⟨k1, hide_nobj G b, fun ho => by
      simp only [Gh.hide] at ho ⊢
      rw [if_neg k2] at ho ⊢
      exact k3 ho⟩) args cargs ha hargs)
  refine h0.mono ?_
  rintro e w' ⟨v, G1, rfl, h1, h2, h3⟩
  have hM : ∀ b, b < w.heap.size → ¬ MofS (fun _ => False) G.hide [] w b := fun b hb hm => by
    rcases hm with hm | ⟨hm, _⟩
    · omega
    · exact hm
  have own1 : ∀ b, b < w.heap.size → G.own b = true → ¬ G.obj b → G.hide.own b = true ∧ G.hide.phi b = G.phi b := fun b hb ho hn => by
    simp only [Gh.hide]; rw [if_neg hn, if_neg hn]; exact ⟨ho, rfl⟩
  have hE : Ext (fun _ => False) G w (G.back G1 w.heap.size) w' := {
    size := h3.size
    os := h3.os
    tape := h3.tape
    output := h3.output
    n := Nat.le_refl _
    live := fun _ _ h => h
    mu := fun _ _ => rfl
    newobj := fun i k1 k2 => by simp only [Gh.back] at k2; omega
    own := fun b hb => by simp only [Gh.back]; rw [if_pos hb]
    phi := fun b hb _ => by simp only [Gh.back]; rw [if_pos hb]; exact Nat.le_refl _
    cell := fun b hb hn ho => h3.cell b hb (hide_nobj G b) (by simp only [Gh.hide]; rw [if_neg hn]; exact ho)
    row := fun b hb hn ho o hlt => h3.row b hb (hide_nobj G b) (own1 b hb ho hn).1 o (by rw [(own1 b hb ho hn).2]; exact hlt)
    keep := fun b hb hn ho _ => ⟨(h3.keep b hb (hide_nobj G b) (own1 b hb ho hn).1 (hM b hb)).1, by simp only [Gh.back]; rw [if_pos hb], by simp only [Gh.back]; rw [if_pos hb]⟩ }
  refine ⟨v, G.back G1 w.heap.size, rfl, ?_, ?_, hE⟩
  · refine VR0.move ?_ r v hr h1
    rintro b o len hl ⟨k1, k2, k3⟩
    have hno : ¬ G.obj b := fun hb => by
      obtain ⟨hlt, _⟩ := hobj b hb
      have ho1 : G.hide.own b = true := by simp only [Gh.hide]; rw [if_pos hb]
      have e1 := (h3.own b hlt).trans ho1
      have e2 := (h3.keep b hlt (hide_nobj G b) ho1 (hM b hlt)).2.1
      have e3 : G.hide.phi b = 0 := by simp only [Gh.hide]; rw [if_pos hb]
      have := k3 e1
      omega
    refine ⟨k1, fun ⟨i, q1, q2, q3⟩ => hno ⟨i, q1, q2, q3⟩, fun ho => ?_⟩
    simp only [Gh.back] at ho ⊢
    by_cases hlt : b < w.heap.size
    · rw [if_pos hlt] at ho ⊢
      obtain ⟨q1, q2⟩ := own1 b hlt ho hno
      have e1 := (h3.own b hlt).trans q1
      have e2 := (h3.keep b hlt (hide_nobj G b) q1 (hM b hlt)).2.1
      have := k3 e1
      omega
    · rw [if_neg hlt] at ho ⊢
      exact k3 ho
  · refine ⟨hS.n, hS.inj, ?_, hS.live, fun {i} hi hl => Nat.lt_of_lt_of_le (hS.lt hi hl) hE.size, ?_⟩
    · intro i hi hl
      simp only [Gh.back] at hi hl ⊢
      rw [if_pos (hS.lt hi hl)]
      exact hS.own i hi hl
    · intro i o hi hl
      obtain ⟨vs, g1, g2, g3⟩ := hS.at_ i o hi hl
      have hin : i < G.n := by rw [hS.n]; exact lt_of_some hi
      have hlv : G.live i = true := hS.live i o hi hl
      have hob : G.obj (G.mu i) := ⟨i, hin, hlv, rfl⟩
      have ho1 : G.hide.own (G.mu i) = true := by simp only [Gh.hide]; rw [if_pos hob]
      refine ⟨vs, ?_, g2, fun k a u hk hu => (g3 k a u hk hu).grow hE⟩
      show w'.heap[G.mu i]? = _
      rw [(h3.keep _ (hS.lt hin hlv) (hide_nobj G _) ho1 (hM _ (hS.lt hin hlv))).1, g1]
/-- such a call, where the callee and the arguments are known -/
theorem CallP_wp {P : Program} {o : Oper} {fr : List AV} {s : List Ob} {r : AV} {c : Call} {x : Operand} {f : FuncId} {fcs : List AV} {M : Nat → Prop} {G : Gh} {w : World} {a : Act} (ho : o.op = .call c) (hc : c.callee = .value x) (hx : aEval fr x = .func (.func f) fcs)
    (hbody : enters P f = true) (hok : Ok P f ((c.args.toList.map fun y => (aEval fr y).soft) ++ fcs) [] r []) (ha : frees ((c.args.toList.map fun y => (aEval fr y).soft) ++ fcs) = true) (hr : r.free = true)
    (hS : Sim M G s w) (hf : FR M G w fr a) (K : Act → World → Prop) (Q : Exit → Act → World → Prop)
    (hK : ∀ v G' w', VR0 G' w' r v → Sim M G' s w' → Ext (fun _ => False) G w G' w' → K (a.put o.dst v) w') : o.wp P a w K Q := by
  have hv := (hf.eval x).1
  rw [hx] at hv
  simp only [VR0] at hv
  obtain ⟨cvs, hv, hcv⟩ := hv
  have hargs : ∀ l : List Operand, VRs0 G w (l.map fun y => (aEval fr y).soft) (l.map a.eval) := by
    intro l
    induction l with
    | nil => simp only [List.map_nil, VRs0]
    | cons y l ih =>
      simp only [List.map_cons, VRs0]
      exact ⟨_, _, rfl, (hf.eval y).1.soft, ih⟩
  have happ : ∀ (l m : List AV) (x y : List Value), VRs0 G w l x → VRs0 G w m y → VRs0 G w (l ++ m) (x ++ y) := by
    intro l
    induction l with
    | nil => intro m x y h1 h2; simp only [VRs0] at h1; subst h1; exact h2
    | cons a l ih =>
      intro m x y h1 h2
      simp only [VRs0] at h1
      obtain ⟨v, vs', rfl, h3, h4⟩ := h1
      simp only [List.cons_append, VRs0]
      exact ⟨v, _, rfl, h3, ih m vs' y h4 h2⟩
  have hcall := OkP_at hok ha hr hS (happ _ _ _ _ (hargs c.args.toList) hcv)
  have hrun : (execOp a.eval o).run P w = .ok (.enter f ((c.args.toList.map a.eval) ++ cvs).toArray) w := by
    have e1 : c.args.map a.eval ++ cvs.toArray = ((c.args.toList.map a.eval) ++ cvs).toArray := by
      apply Array.ext'
      simp
    simp [execOp, ho, resolve, hc, hv, Deferred.ofValue, invoke, run_enter hbody, e1]
  unfold Oper.wp
  rw [hrun, Oper.upon_enter]
  refine hcall.mono ?_
  rintro e w' ⟨v, G', rfl, h1, h2, h3⟩
  exact hK v G' w' h1 h2 h3
theorem Step_callP {P : Program} {o : Oper} {fr : List AV} {s : List Ob} {r : AV} {c : Call} {x : Operand} {f : FuncId} {fcs : List AV} (ho : o.op = .call c) (hc : c.callee = .value x) (hx : aEval fr x = .func (.func f) fcs)
    (hbody : enters P f = true) (hok : Ok P f ((c.args.toList.map fun y => (aEval fr y).soft) ++ fcs) [] r []) (ha : frees ((c.args.toList.map fun y => (aEval fr y).soft) ++ fcs) = true) (hr : r.free = true) (hm : r.mark = none) : Step P o fr s fr r s := by
  intro M G w a hF hS hf K Q hK
  refine CallP_wp ho hc hx hbody hok ha hr hS hf K Q ?_
  intro v G' w' h1 h2 h3
  exact hK v G' w' (h3.mono fun _ _ => False.elim) h2 (hf.grow h3) ⟨h1, OwnC.of_plain hm⟩
theorem HStep_callP {P : Program} {A : Array Oper} {o : Oper} {fr : List AV} {s : List Ob} {ts : List Nat} {r : AV} {c : Call} {x : Operand} {f : FuncId} {fcs : List AV} (ho : o.op = .call c) (hc : c.callee = .value x) (hx : aEval fr x = .func (.func f) fcs)
    (hbody : enters P f = true) (hok : Ok P f ((c.args.toList.map fun y => (aEval fr y).soft) ++ fcs) [] r []) (ha : frees ((c.args.toList.map fun y => (aEval fr y).soft) ++ fcs) = true) (hr : r.free = true) (hm : r.mark = none) : HStep P A o fr s ts r s := by
  intro M G w a hF hS hf K Q hK
  have hxo : ∀ y ∈ o.op.operands, aEval (aForget (readsOf A o) fr) y = aEval fr y := fun y hy => aEval_forget hy
  have hx' : aEval (aForget (readsOf A o) fr) x = .func (.func f) fcs := by
    rw [hxo x (by simp [ho, Op.operands, Call.operands, hc])]
    exact hx
  have hargs' : (c.args.toList.map fun y => (aEval (aForget (readsOf A o) fr) y).soft) = c.args.toList.map fun y => (aEval fr y).soft :=
    List.map_congr_left fun y hy => by rw [hxo y (by simp [ho, Op.operands, Call.operands]; right; simpa using hy)]
  refine CallP_wp (a := a) ho hc hx' hbody (by rw [hargs']; exact hok) (by rw [hargs']; exact ha) hr hS hf K Q ?_
  intro v G' w' h1 h2 h3
  exact hK v G' w' (fun _ => False) (fun _ h => h.elim) h3 h2 ⟨h1, OwnC.of_plain hm⟩
theorem HStep.weaken {P : Program} {A : Array Oper} {o : Oper} {fr : List AV} {s s' : List Ob} {ts : List Nat} {v v' : AV} (h : HStep P A o fr s ts v s') (k : WkM v v') : HStep P A o fr s ts v' s' :=
  fun M G w a hF hS hf K Q hK => h M G w a hF hS hf K Q fun cv G' w' M' h1 h2 h3 h4 => hK cv G' w' M' h1 h2 h3 (k M G' w' cv h4)
/-! a call that only reads objects: they are handed as rows -/
mutual
/-- it tells of no row and no object -/
def AV.flat : AV → Bool
  | .ref _ _ => false
  | .arr _ _ => false
  | .eptr _ _ => false
  | .list cs _ _ => cs.isEmpty
  | .func _ cs => flats cs
  | .agg cs => flats cs
  | .tuple cs => flats cs
  | .undef | .int .. | .bool _ | .str _ | .nilp | .nilf => true
def flats : List AV → Bool
  | [] => true
  | a :: as => a.flat && flats as
end
mutual
theorem VR0.flat {G G' : Gh} {w w' : World} : ∀ (a : AV) (v : Value), a.flat = true → VR0 G w a v → VR0 G' w' a v
  | .undef, _, _, _ => by simp only [VR0]
  | .int .., _, _, hv => by simp only [VR0] at hv ⊢; exact hv
  | .bool .., _, _, hv => by simp only [VR0] at hv ⊢; exact hv
  | .str .., _, _, hv => by simp only [VR0] at hv ⊢; exact hv
  | .nilp, _, _, hv => by simp only [VR0] at hv ⊢; exact hv
  | .nilf, _, _, hv => by simp only [VR0] at hv ⊢; exact hv
  | .ref i o, _, hb, _ => by simp [AV.flat] at hb
  | .arr i o, _, hb, _ => by simp [AV.flat] at hb
  | .eptr cs o, _, hb, _ => by simp [AV.flat] at hb
  | .list cs n g, _, hb, hv => by
    simp only [VR0, AV.flat, List.isEmpty_iff] at hv hb ⊢
    obtain ⟨A, cap, h1, h2, h3, h4⟩ := hv
    exact ⟨A, cap, h1, h2, h3, .inl hb⟩
  | .func fn cs, _, hb, hv => by
    simp only [VR0, AV.flat] at hv hb ⊢
    obtain ⟨vs, h1, h2⟩ := hv
    exact ⟨vs, h1, VRs0.flat cs vs hb h2⟩
  | .agg cs, _, hb, hv => by
    simp only [VR0, AV.flat] at hv hb ⊢
    obtain ⟨vs, h1, h2⟩ := hv
    exact ⟨vs, h1, VRs0.flat cs vs hb h2⟩
  | .tuple cs, _, hb, hv => by
    simp only [VR0, AV.flat] at hv hb ⊢
    obtain ⟨vs, h1, h2⟩ := hv
    exact ⟨vs, h1, VRs0.flat cs vs hb h2⟩
theorem VRs0.flat {G G' : Gh} {w w' : World} : ∀ (as : List AV) (vs : List Value), flats as = true → VRs0 G w as vs → VRs0 G' w' as vs
  | [], _, _, hv => by simp only [VRs0] at hv ⊢; exact hv
  | a :: as, _, hb, hv => by
    simp only [VRs0, flats, Bool.and_eq_true] at hv hb ⊢
    obtain ⟨v, vs', h1, h2, h3⟩ := hv
    exact ⟨v, vs', h1, VR0.flat a v hb.1 h2, VRs0.flat as vs' hb.2 h3⟩
end
/-- no objects -/
def Gh.bare (G : Gh) : Gh := { G with n := 0 }
theorem bare_nobj (G : Gh) (b : Nat) : ¬ G.bare.obj b := fun ⟨i, hi, _⟩ => by simp only [Gh.bare] at hi; omega
theorem Seen.bare {G : Gh} {w : World} {b o len : Nat} (h : Seen G w b o len) : Seen G.bare w b o len := ⟨h.1, bare_nobj G b, h.2.2⟩
theorem OkR_at {P : Program} {f : FuncId} {args : List AV} {r : AV} (h : Ok P f args [] r []) (hr : r.flat = true) {M : Nat → Prop} {G : Gh} {s : List Ob} {w : World} {cargs : List Value} (hS : Sim M G s w) (hargs : VRs0 G.bare w args cargs) :
    Calls P f cargs.toArray w fun e w' => ∃ v G', e = .returned v ∧ VR0 G' w' r v ∧ Ext (fun _ => False) G w G' w' ∧ ∀ s, Sim M G s w → Sim M G' s w' := by
  have h0 := h (fun _ => False) G.bare w cargs ⟨rfl, fun i j hi => by simp only [Gh.bare] at hi; omega, fun i hi => by simp only [Gh.bare] at hi; omega, fun i o hi => by simp at hi, fun {i} hi => by simp only [Gh.bare] at hi; omega, fun i o hi => by simp at hi⟩ hargs
  refine h0.mono ?_
  rintro e w' ⟨v, G1, rfl, h1, h2, h3⟩
  have hM : ∀ b, b < w.heap.size → ¬ MofS (fun _ => False) G.bare [] w b := fun b hb hm => by
    rcases hm with hm | ⟨hm, _⟩
    · omega
    · exact hm
  have hE : Ext (fun _ => False) G w (G.back G1 w.heap.size) w' := {
    size := h3.size
    os := h3.os
    tape := h3.tape
    output := h3.output
    n := Nat.le_refl _
    live := fun _ _ h => h
    mu := fun _ _ => rfl
    newobj := fun i k1 k2 => by simp only [Gh.back] at k2; omega
    own := fun b hb => by simp only [Gh.back]; rw [if_pos hb]
    phi := fun b hb _ => by simp only [Gh.back]; rw [if_pos hb]; exact Nat.le_refl _
    cell := fun b hb _ ho => h3.cell b hb (bare_nobj G b) ho
    row := fun b hb _ ho o hlt => h3.row b hb (bare_nobj G b) ho o hlt
    keep := fun b hb _ ho _ => ⟨(h3.keep b hb (bare_nobj G b) ho (hM b hb)).1, by simp only [Gh.back]; rw [if_pos hb], by simp only [Gh.back]; rw [if_pos hb]⟩ }
  refine ⟨v, G.back G1 w.heap.size, rfl, VR0.flat r v hr h1, hE, fun s hS => ?_⟩
  refine ⟨hS.n, hS.inj, ?_, hS.live, fun {i} hi hl => Nat.lt_of_lt_of_le (hS.lt hi hl) hE.size, ?_⟩
  · intro i hi hl
    simp only [Gh.back] at hi hl ⊢
    rw [if_pos (hS.lt hi hl)]
    exact hS.own i hi hl
  · intro i o hi hl
    obtain ⟨vs, g1, g2, g3⟩ := hS.at_ i o hi hl
    have hin : i < G.n := by rw [hS.n]; exact lt_of_some hi
    have hlv : G.live i = true := hS.live i o hi hl
    refine ⟨vs, ?_, g2, fun k a u hk hu => (g3 k a u hk hu).grow hE⟩
    show w'.heap[G.mu i]? = _
    rw [h3.cell _ (hS.lt hin hlv) (bare_nobj G _) (hS.own i hin hlv), g1]
/-- such a call: the arguments as rows -/
theorem CallR_wp {P : Program} {o : Oper} {fr : List AV} {s : List Ob} {r : AV} {c : Call} {x : Operand} {f : FuncId} {fcs args : List AV} {M : Nat → Prop} {G : Gh} {w : World} {a : Act} (ho : o.op = .call c) (hc : c.callee = .value x) (hx : aEval fr x = .func (.func f) fcs)
    (hbody : enters P f = true) (hok : Ok P f args [] r []) (hsn : ∀ cv, VRs0 G w ((c.args.toList.map fun y => (aEval fr y).soft) ++ fcs) cv → VRs0 G.bare w args cv) (hr : r.flat = true)
    (hS : Sim M G s w) (hf : FR M G w fr a) (K : Act → World → Prop) (Q : Exit → Act → World → Prop)
    (hK : ∀ v G' w', VR0 G' w' r v → Ext (fun _ => False) G w G' w' → (∀ s, Sim M G s w → Sim M G' s w') → K (a.put o.dst v) w') : o.wp P a w K Q := by
  have hv := (hf.eval x).1
  rw [hx] at hv
  simp only [VR0] at hv
  obtain ⟨cvs, hv, hcv⟩ := hv
  have hargs : ∀ l : List Operand, VRs0 G w (l.map fun y => (aEval fr y).soft) (l.map a.eval) := by
    intro l
    induction l with
    | nil => simp only [List.map_nil, VRs0]
    | cons y l ih =>
      simp only [List.map_cons, VRs0]
      exact ⟨_, _, rfl, (hf.eval y).1.soft, ih⟩
  have happ : ∀ (l m : List AV) (x y : List Value), VRs0 G w l x → VRs0 G w m y → VRs0 G w (l ++ m) (x ++ y) := by
    intro l
    induction l with
    | nil => intro m x y h1 h2; simp only [VRs0] at h1; subst h1; exact h2
    | cons a l ih =>
      intro m x y h1 h2
      simp only [VRs0] at h1
      obtain ⟨v, vs', rfl, h3, h4⟩ := h1
      simp only [List.cons_append, VRs0]
      exact ⟨v, _, rfl, h3, ih m vs' y h4 h2⟩
  have hcall := OkR_at hok hr hS (hsn _ (happ _ _ _ _ (hargs c.args.toList) hcv))
  have hrun : (execOp a.eval o).run P w = .ok (.enter f ((c.args.toList.map a.eval) ++ cvs).toArray) w := by
    have e1 : c.args.map a.eval ++ cvs.toArray = ((c.args.toList.map a.eval) ++ cvs).toArray := by
      apply Array.ext'
      simp
    simp [execOp, ho, resolve, hc, hv, Deferred.ofValue, invoke, run_enter hbody, e1]
  unfold Oper.wp
  rw [hrun, Oper.upon_enter]
  refine hcall.mono ?_
  rintro e w' ⟨v, G', rfl, h1, h2, h3⟩
  exact hK v G' w' h1 h2 h3
end Go.Proofs.Ytgicljncknbgcaa.Abs
