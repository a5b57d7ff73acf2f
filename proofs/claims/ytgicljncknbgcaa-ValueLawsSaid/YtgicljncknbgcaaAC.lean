/- Calls: what a function does to abstract arguments and the abstract store. -/
import Derived.Test.YtgicljncknbgcaaAW
namespace Go.Proofs.Ytgicljncknbgcaa.Abs
open Go Go.ChangeShapes Go.WideShapes Go.ChangeAt Go.RowKit
set_option linter.unusedVariables false
set_option linter.unusedSimpArgs false

/-- the rows that a callee may write: those that the store holds as its own, and new ones -/
def storeMarks (s : List Ob) : List Nat := s.flatMap fun o => o.cs.filterMap AV.mark
def MofS (M : Nat → Prop) (G : Gh) (s : List Ob) (w : World) (b : Nat) : Prop :=
  w.heap.size ≤ b ∨ (M b ∧ ∃ t, G.tg b = t ∧ t ∈ storeMarks s)
/-- called with these the function tells that, and the store is this -/
def Ok (P : Program) (f : FuncId) (args : List AV) (s : List Ob) (r : AV) (s' : List Ob) : Prop :=
  ∀ M G w (cargs : List Value), Sim M G s w → VRs0 G w args cargs →
    Calls P f cargs.toArray w fun e w' => ∃ v G', e = .returned v ∧ VR0 G' w' r v ∧ Sim (MofS M G s w) G' s' w' ∧ Ext (MofS M G s w) G w G' w'
def clearMark (ts : List Nat) (a : AV) : AV := match a.mark with
  | some t => if ts.contains t then a.plain else a
  | none => a
def clearMarks (ts : List Nat) (fr : List AV) : List AV := fr.map (clearMark ts)

theorem clearMark_VR0 {G : Gh} {w : World} {a : AV} {v : Value} (ts : List Nat) (h : VR0 G w a v) : VR0 G w (clearMark ts a) v := by
  unfold clearMark
  split
  · split
    · exact h.plain
    · exact h
  · exact h
theorem clearMark_OwnC {M : Nat → Prop} {G : Gh} {w : World} {a : AV} {v : Value} (ts : List Nat) (h : OwnC M G w a v) : OwnC M G w (clearMark ts a) v := by
  unfold clearMark
  split
  · split
    · exact OwnC.of_plain a.mark_plain
    · exact h
  · exact h
theorem clearMark_mark {ts : List Nat} {a : AV} {t : Nat} (h : (clearMark ts a).mark = some t) : ts.contains t = false := by
  unfold clearMark at h
  split at h
  · rename_i t' ht
    split at h
    · rw [a.mark_plain] at h; cases h
    · rename_i h2
      rw [ht] at h
      cases h
      simpa using h2
  · rename_i ht
    rw [ht] at h
    cases h
theorem FR.clear {M : Nat → Prop} {G : Gh} {w : World} {fr : List AV} {a : Act} (ts : List Nat) (h : FR M G w fr a) : FR M G w (clearMarks ts fr) a := by
  refine ⟨h.defers, by simp [clearMarks, h.size], fun t => ?_⟩
  have := h.at_ t
  unfold clearMarks
  rw [List.getD_eq_getElem?_getD, List.getElem?_map]
  rw [List.getD_eq_getElem?_getD] at this
  cases hh : fr[t]? with
  | none =>
    rw [hh] at this
    exact this
  | some x =>
    rw [hh] at this
    exact ⟨clearMark_VR0 ts this.1, clearMark_OwnC ts this.2⟩

theorem cell_of_vs {w : World} {b : Nat} {vs : List Value} {t : TypeId} (h : w.heap[b]? = some (.cells vs.toArray t (0, 0))) (k : Nat) : w.cell? ⟨b, k, none⟩ = vs[k]? := by
  simp [World.cell?, h]
theorem Sim.cellVR {M : Nat → Prop} {G : Gh} {s : List Ob} {w : World} (h : Sim M G s w) {i k : Nat} {o : Ob} {a : AV} (hi : s[i]? = some o) (hl : o.live = true) (hk : o.cs[k]? = some a) : ∃ v, w.cell? ⟨G.mu i, k, none⟩ = some v ∧ VR M G w a v := by
  obtain ⟨vs, h1, h2, h3⟩ := h.at_ i o hi hl
  have hlt : k < vs.length := by
    rw [h2]
    rcases Nat.lt_or_ge k o.cs.length with h4 | h4
    · exact h4
    · rw [List.getElem?_eq_none h4] at hk; cases hk
  exact ⟨vs[k], by rw [cell_of_vs h1, List.getElem?_eq_getElem hlt], h3 k a _ hk (List.getElem?_eq_getElem hlt)⟩
/-- what the store's own rows are known to be, whoever looks -/
theorem Sim.own_M {M : Nat → Prop} {G : Gh} {s : List Ob} {w : World} (h : Sim M G s w) {b : Nat} (hb : MofS M G s w b) : w.heap.size ≤ b ∨ (M b ∧ ∃ t, G.tg b = t ∧ t ∈ storeMarks s) := hb
theorem OwnC.monoM {M M' : Nat → Prop} {G : Gh} {w : World} {a : AV} {v : Value} (h : OwnC M G w a v) (hM : ∀ b, (∃ t, a.mark = some t ∧ G.tg b = t) → M b → M' b) : OwnC M' G w a v := by
  unfold OwnC at *
  split
  · rcases h with h | ⟨g, cap, cur, rfl, h2, h3, h4, h5, h6, h7⟩
    · exact .inl h
    · exact .inr ⟨g, cap, cur, rfl, hM g ⟨_, rfl, h6⟩ h2, h3, h4, h5, h6, h7⟩
  · trivial
theorem Sim.monoM {M M' : Nat → Prop} {G : Gh} {s : List Ob} {w : World} (h : Sim M G s w) (hM : ∀ b, M b → M' b) : Sim M' G s w :=
  ⟨h.n, h.inj, h.own, h.live, h.lt, fun i o hi hl => by
    obtain ⟨vs, h1, h2, h3⟩ := h.at_ i o hi hl
    exact ⟨vs, h1, h2, fun k a v hk hv => ⟨(h3 k a v hk hv).1, (h3 k a v hk hv).2.monoM fun b _ => hM b⟩⟩⟩
theorem Sim.toS {M : Nat → Prop} {G : Gh} {s : List Ob} {w : World} (h : Sim M G s w) : Sim (MofS M G s w) G s w :=
  ⟨h.n, h.inj, h.own, h.live, h.lt, fun i o hi hl => by
    obtain ⟨vs, h1, h2, h3⟩ := h.at_ i o hi hl
    refine ⟨vs, h1, h2, fun k a v hk hv => ⟨(h3 k a v hk hv).1, (h3 k a v hk hv).2.monoM fun b hb hm => .inr ⟨hm, ?_⟩⟩⟩
    obtain ⟨t, ht, hbt⟩ := hb
    exact ⟨t, hbt, List.mem_flatMap.2 ⟨o, List.mem_of_getElem? hi, List.mem_filterMap.2 ⟨a, List.mem_of_getElem? hk, ht⟩⟩⟩⟩

/-- as an argument: nothing is known of what is behind it -/
def AV.soft : AV → AV
  | .list cs n _ => .list cs n .unk
  | a => a
theorem VR0.soft {G : Gh} {w : World} {a : AV} {v : Value} (h : VR0 G w a v) : VR0 G w a.soft v := by
  unfold AV.soft
  split
  · simp only [VR0] at h ⊢
    obtain ⟨A, cap, h1, h2, _, h4⟩ := h
    exact ⟨A, cap, h1, h2, (fun h => by cases h), h4⟩
  · exact h
def enters (P : Program) (f : FuncId) : Bool := match P.funcs[f]? with
  | some fn => !(fn.name == "runtime.NumGoroutine") && fn.body.isSome
  | none => false
theorem run_enter {P : Program} {f : FuncId} (h : enters P f = true) (args : Array Value) (w : World) : (callFunc f args).run P w = .ok (.enter f args) w := by
  unfold enters at h
  split at h
  · rename_i fn hf
    simp at h
    have h2 : ¬ fn.body = none := by intro hb; simp [hb] at h
    simp [callFunc, program, hf, h.1, h2, Sem.run]
  · cases h
/-- a call, where the callee and the arguments are known -/
theorem Call_wp {P : Program} {o : Oper} {fr : List AV} {s s' : List Ob} {r : AV} {c : Call} {x : Operand} {f : FuncId} {fcs : List AV} {M : Nat → Prop} {G : Gh} {w : World} {a : Act} (ho : o.op = .call c) (hc : c.callee = .value x) (hx : aEval fr x = .func (.func f) fcs)
    (hbody : enters P f = true)
    (hok : Ok P f ((c.args.toList.map fun y => (aEval fr y).soft) ++ fcs) s r s') (hS : Sim M G s w) (hf : FR M G w fr a) (K : Act → World → Prop) (Q : Exit → Act → World → Prop)
    (hK : ∀ v G' w', VR0 G' w' r v → Sim (MofS M G s w) G' s' w' → Ext (MofS M G s w) G w G' w' → K (a.put o.dst v) w') : o.wp P a w K Q := by
  have hv := (hf.eval x).1
  rw [hx] at hv
  simp only [VR0] at hv
  obtain ⟨cvs, hv, hcv⟩ := hv
  have hargs : ∀ l : List Operand, VRs0 G w (l.map fun y => (aEval fr y).soft) (l.map a.eval) := by
    intro l
    induction l with
    | nil => simp only [List.map_nil, VRs0]
    | cons y l ih =>
      simp only [List.map_cons, VRs0]
      exact ⟨_, _, rfl, (hf.eval y).1.soft, ih⟩
  have happ : ∀ (l m : List AV) (x y : List Value), VRs0 G w l x → VRs0 G w m y → VRs0 G w (l ++ m) (x ++ y) := by
    intro l
    induction l with
    | nil => intro m x y h1 h2; simp only [VRs0] at h1; subst h1; exact h2
    | cons a l ih =>
      intro m x y h1 h2
      simp only [VRs0] at h1
      obtain ⟨v, vs', rfl, h3, h4⟩ := h1
      simp only [List.cons_append, VRs0]
      exact ⟨v, _, rfl, h3, ih m vs' y h4 h2⟩
  have hcall := hok M G w _ hS (happ _ _ _ _ (hargs c.args.toList) hcv)
  have hrun : (execOp a.eval o).run P w = .ok (.enter f ((c.args.toList.map a.eval) ++ cvs).toArray) w := by
    have e1 : c.args.map a.eval ++ cvs.toArray = ((c.args.toList.map a.eval) ++ cvs).toArray := by
      apply Array.ext'
      simp
    simp [execOp, ho, resolve, hc, hv, Deferred.ofValue, invoke, run_enter hbody, e1]
  unfold Oper.wp
  rw [hrun, Oper.upon_enter]
  refine hcall.mono ?_
  rintro e w' ⟨v, G', rfl, h1, h2, h3⟩
  exact hK v G' w' h1 h2 h3
theorem Step_call {P : Program} {o : Oper} {fr : List AV} {s s' : List Ob} {r : AV} {c : Call} {x : Operand} {f : FuncId} {fcs : List AV} (ho : o.op = .call c) (hc : c.callee = .value x) (hx : aEval fr x = .func (.func f) fcs)
    (hbody : enters P f = true)
    (hok : Ok P f ((c.args.toList.map fun y => (aEval fr y).soft) ++ fcs) s r s') (hr : r.mark = none) : Step P o fr s (clearMarks (storeMarks s) fr) r s' := by
  intro M G w a hF hS hf K Q hK
  have hsub : ∀ b, MofS M G s w b → M b := fun b hb => by
    rcases hS.own_M hb with h | h
    · exact hF b h
    · exact h.1
  refine Call_wp ho hc hx hbody hok hS hf K Q ?_
  intro v G' w' h1 h2 h3
  have hE : Ext M G w G' w' := h3.mono fun b _ => hsub b
  refine hK v G' w' hE (h2.monoM hsub) ?_ ⟨h1, OwnC.of_plain hr⟩
  refine FR.keep h3 ?_ (hf.clear _)
  intro t g k hk hg hlt _ _ _ hM'
  have hk' : (storeMarks s).contains k = false := by
    unfold clearMarks at hk
    rw [List.getD_eq_getElem?_getD, List.getElem?_map] at hk
    cases hh : fr[t]? with
    | none => rw [hh] at hk; cases hk
    | some x => rw [hh] at hk; exact clearMark_mark hk
  rcases hS.own_M hM' with h | ⟨_, t', ht', hmem⟩
  · omega
  · rw [hg] at ht'
    subst ht'
    rw [List.contains_eq_mem] at hk'
    simp at hk'
    exact hk' hmem

/-! the end of a function -/
mutual
/-- its pointers are to objects below n -/
def AV.refs (n : Nat) : AV → Bool
  | .ref i _ => decide (i < n)
  | .arr i _ => decide (i < n)
  | .eptr cs _ => belows n cs
  | .list cs _ _ => belows n cs
  | .func _ cs => belows n cs
  | .agg cs => belows n cs
  | .tuple cs => belows n cs
  | .undef | .int .. | .bool _ | .str _ | .nilp | .nilf => true
def belows (n : Nat) : List AV → Bool
  | [] => true
  | a :: as => a.refs n && belows n as
end
def Gh.cut (G : Gh) (n : Nat) : Gh := { G with n := n }
theorem Seen.cut {G : Gh} {w : World} {b o len n : Nat} (hn : n ≤ G.n) (h : Seen G w b o len) : Seen (G.cut n) w b o len :=
  ⟨h.1, fun ⟨i, hi, hl, he⟩ => h.2.1 ⟨i, Nat.lt_of_lt_of_le hi hn, hl, he⟩, h.2.2⟩
mutual
theorem VR0.cut {G : Gh} {w : World} {n : Nat} (hn : n ≤ G.n) : ∀ (a : AV) (v : Value), a.refs n = true → VR0 G w a v → VR0 (G.cut n) w a v
  | .undef, _, _, _ => by simp only [VR0]
  | .int .., _, _, hv => by simp only [VR0] at hv ⊢; exact hv
  | .bool .., _, _, hv => by simp only [VR0] at hv ⊢; exact hv
  | .str .., _, _, hv => by simp only [VR0] at hv ⊢; exact hv
  | .nilp, _, _, hv => by simp only [VR0] at hv ⊢; exact hv
  | .ref i o, _, hb, hv => by
    simp only [VR0, AV.refs, decide_eq_true_eq] at hv hb ⊢
    exact ⟨hv.1, hb⟩
  | .arr i o, _, hb, hv => by
    simp only [VR0, AV.refs, decide_eq_true_eq] at hv hb ⊢
    exact ⟨hv.1, hb⟩
  | .eptr cs o, _, hb, hv => by
    simp only [VR0, AV.refs] at hv hb ⊢
    obtain ⟨b, ob, vs, h1, h2, h3, h4⟩ := hv
    exact ⟨b, ob, vs, h1, h2.cut hn, h3, VRs0.cut hn cs vs hb h4⟩
  | .list cs n g, _, hb, hv => by
    simp only [VR0, AV.refs] at hv hb ⊢
    obtain ⟨A, cap, h1, h2, h3, h4⟩ := hv
    refine ⟨A, cap, h1, h2, h3, h4.imp id ?_⟩
    rintro ⟨b, o, vs, h5, h6, h7, h8⟩
    exact ⟨b, o, vs, h5, h6.cut hn, h7, VRs0.cut hn cs vs hb h8⟩
  | .nilf, _, _, hv => by simp only [VR0] at hv ⊢; exact hv
  | .func fn cs, _, hb, hv => by
    simp only [VR0, AV.refs] at hv hb ⊢
    obtain ⟨vs, h1, h2⟩ := hv
    exact ⟨vs, h1, VRs0.cut hn cs vs hb h2⟩
  | .agg cs, _, hb, hv => by
    simp only [VR0, AV.refs] at hv hb ⊢
    obtain ⟨vs, h1, h2⟩ := hv
    exact ⟨vs, h1, VRs0.cut hn cs vs hb h2⟩
  | .tuple cs, _, hb, hv => by
    simp only [VR0, AV.refs] at hv hb ⊢
    obtain ⟨vs, h1, h2⟩ := hv
    exact ⟨vs, h1, VRs0.cut hn cs vs hb h2⟩
theorem VRs0.cut {G : Gh} {w : World} {n : Nat} (hn : n ≤ G.n) : ∀ (as : List AV) (vs : List Value), belows n as = true → VRs0 G w as vs → VRs0 (G.cut n) w as vs
  | [], _, _, hv => by simp only [VRs0] at hv ⊢; exact hv
  | a :: as, _, hb, hv => by
    simp only [VRs0, belows, Bool.and_eq_true] at hv hb ⊢
    obtain ⟨v, vs', h1, h2, h3⟩ := hv
    exact ⟨v, vs', h1, VR0.cut hn a v hb.1 h2, VRs0.cut hn as vs' hb.2 h3⟩
end
theorem belows_get {n : Nat} : ∀ {cs : List AV} {k : Nat} {a : AV}, belows n cs = true → cs[k]? = some a → a.refs n = true
  | [], k, _, _, h => by simp at h
  | b :: cs, 0, a, hb, h => by simp at h; subst h; simp only [belows, Bool.and_eq_true] at hb; exact hb.1
  | b :: cs, k + 1, a, hb, h => by simp only [belows, Bool.and_eq_true] at hb; exact belows_get hb.2 (by simpa using h)
/-- the store when a function has returned: its own objects are gone -/
def cutStore (n : Nat) (s : List Ob) : Option (List Ob) := if (s.take n).all (fun o => !o.live || belows n o.cs) then some (s.take n) else none
theorem Sim.cut {M : Nat → Prop} {G : Gh} {s s' : List Ob} {w : World} {n : Nat} (h : Sim M G s w) (hn : n ≤ G.n) (hc : cutStore n s = some s') : Sim M (G.cut n) s' w := by
  unfold cutStore at hc
  split at hc
  · rename_i hall
    cases hc
    have hlen : n ≤ s.length := h.n ▸ hn
    refine ⟨by simp [Gh.cut, Nat.min_eq_left hlen], fun i j hi hj => h.inj i j (Nat.lt_of_lt_of_le hi hn) (Nat.lt_of_lt_of_le hj hn), fun i hi => h.own i (Nat.lt_of_lt_of_le hi hn), ?_, fun {i} hi hl => h.lt (Nat.lt_of_lt_of_le hi hn) hl, ?_⟩
    · intro i o hi
      rw [List.getElem?_take] at hi
      split at hi
      · exact h.live i o hi
      · cases hi
    intro i o hi hl
    have hmem : o ∈ s.take n := List.mem_of_getElem? hi
    have hb := List.all_eq_true.1 hall o hmem
    rw [hl] at hb
    simp only [Bool.not_true, Bool.false_or] at hb
    rw [List.getElem?_take] at hi
    split at hi
    · obtain ⟨vs, h1, h2, h3⟩ := h.at_ i o hi hl
      refine ⟨vs, h1, h2, fun k a v hk hv => ?_⟩
      obtain ⟨k1, k2⟩ := h3 k a v hk hv
      refine ⟨k1.cut hn a v (belows_get hb hk), ?_⟩
      unfold OwnC at *
      split
      · rcases k2 with k2 | ⟨g, cap, cur, e1, e2, e3, e4, e5⟩
        · exact .inl k2
        · exact .inr ⟨g, cap, cur, e1, e2, e3, fun ⟨j, hj, hl, he⟩ => e4 ⟨j, Nat.lt_of_lt_of_le hj hn, hl, he⟩, e5⟩
      · trivial
    · cases hi
  · cases hc
theorem Ext.cut {M : Nat → Prop} {G G' : Gh} {w w' : World} (h : Ext M G w G' w') : Ext M G w (G'.cut G.n) w' :=
  { h with n := Nat.le_refl _, newobj := fun i h1 h2 => by simp only [Gh.cut] at h2; omega, mu := fun i hi => h.mu i hi, live := fun i hi => h.live i hi, own := h.own, phi := h.phi, keep := h.keep }

/-- of a type: none: a value of one cell; some n: one of n cells -/
def aggSize (P : Program) (t : TypeId) : Option (Option Nat) :=
  match P.underlying t with
  | some (.struct _) => (P.info? t).map fun i => some i.size
  | some (.array _ _) => (P.info? t).map fun i => some i.size
  | some _ => some none
  | none => none
theorem run_sizeOf {P : Program} {t : TypeId} {i : TypeInfo} (h : P.info? t = some i) (w : World) : (Go.sizeOf t).run P w = .ok i.size w := by simp [Go.sizeOf, typeInfo, h]
theorem aggSize_some {P : Program} {t : TypeId} {n : Nat} (h : aggSize P t = some (some n)) (w : World) : (isAgg t).run P w = .ok true w ∧ (Go.sizeOf t).run P w = .ok n w := by
  unfold aggSize at h
  split at h
  · rename_i f h1
    cases hi : P.info? t with
    | none => rw [hi] at h; cases h
    | some i =>
      rw [hi] at h
      simp at h
      exact ⟨by simp [isAgg, run_underlying h1], by rw [run_sizeOf hi, h]⟩
  · rename_i f h1
    cases hi : P.info? t with
    | none => rw [hi] at h; cases h
    | some i =>
      rw [hi] at h
      simp at h
      exact ⟨by simp [isAgg, run_underlying h1], by rw [run_sizeOf hi, h]⟩
  · cases h
  · cases h
theorem aggSize_none {P : Program} {t : TypeId} (h : aggSize P t = some none) (w : World) : (isAgg t).run P w = .ok false w := by
  unfold aggSize at h
  split at h
  · rename_i f h1
    cases hi : P.info? t <;> rw [hi] at h <;> simp at h
  · rename_i f h1
    cases hi : P.info? t <;> rw [hi] at h <;> simp at h
  · rename_i d n1 n2 h1
    simp only [isAgg, Sem.run_bind, run_underlying h1, Result.andThen_ok]
    rfl
  · cases h
/-- a variable of a type in a row of cells -/
def aLoad (P : Program) (t : TypeId) (cs : List AV) (o : Nat) : Option AV :=
  match aggSize P t with
  | some (some n) => if o + n ≤ cs.length then some (.agg (((cs.drop o).take n).map AV.plain)) else none
  | some none => cs[o]?
  | none => none
theorem Addr_add (b o k : Nat) : Addr.add ⟨b, o, none⟩ k = ⟨b, o + k, none⟩ := by
  unfold Addr.add
  split
  · rename_i h; subst h; rfl
  · rfl
theorem VRs0.drop {G : Gh} {w : World} : ∀ {cs : List AV} {vs : List Value} (k : Nat), VRs0 G w cs vs → VRs0 G w (cs.drop k) (vs.drop k)
  | _, _, 0, h => by simpa using h
  | [], _, k + 1, h => by simp only [VRs0] at h; subst h; simp only [List.drop_nil, VRs0]
  | a :: as, vs, k + 1, h => by
    simp only [VRs0] at h
    obtain ⟨v, vs', rfl, _, h2⟩ := h
    simpa using h2.drop k
theorem VRs0.take {G : Gh} {w : World} : ∀ {cs : List AV} {vs : List Value} (k : Nat), VRs0 G w cs vs → VRs0 G w (cs.take k) (vs.take k)
  | _, _, 0, h => by simp only [List.take_zero, VRs0]
  | [], _, k + 1, h => by simp only [VRs0] at h; subst h; simp only [List.take_nil, VRs0]
  | a :: as, vs, k + 1, h => by
    simp only [VRs0] at h
    obtain ⟨v, vs', rfl, h1, h2⟩ := h
    simp only [List.take_succ_cons, VRs0]
    exact ⟨v, _, rfl, h1, h2.take k⟩
theorem VRs0.plain {G : Gh} {w : World} : ∀ {cs : List AV} {vs : List Value}, VRs0 G w cs vs → VRs0 G w (cs.map AV.plain) vs
  | [], _, h => by simpa only [List.map_nil, VRs0] using h
  | a :: as, vs, h => by
    simp only [VRs0] at h
    obtain ⟨v, vs', rfl, h1, h2⟩ := h
    simp only [List.map_cons, VRs0]
    exact ⟨v, vs', rfl, h1.plain, h2.plain⟩
theorem run_loadVar {P : Program} {w : World} {G : Gh} {t : TypeId} {b o base : Nat} {cs : List AV} {vs : List Value} {av : AV} (h : aLoad P t cs o = some av) (hc : CellsAt w b base vs) (hv : VRs0 G w cs vs) :
    ∃ v, (loadVar t ⟨b, base + o, none⟩).run P w = .ok v w ∧ VR0 G w av v ∧ (aggSize P t = some none → cs[o]? = some av ∧ vs[o]? = some v) ∧ (aggSize P t ≠ some none → av.mark = none) := by
  unfold aLoad at h
  split at h
  · rename_i n hn
    split at h
    · rename_i hle
      cases h
      have hlen : vs.length = cs.length := hv.length
      have hl : ((vs.drop o).take n).length = n := by simp; omega
      have hrun := run_loadCells_list (P := P) w ⟨b, base + o, none⟩ ((vs.drop o).take n) (by
        intro j v hj
        rw [List.getElem?_take] at hj
        split at hj
        · rw [List.getElem?_drop] at hj
          have := hc (o + j) v hj
          rw [Addr_add]
          rw [← Nat.add_assoc] at this
          exact this
        · cases hj)
      rw [hl] at hrun
      refine ⟨.agg ((vs.drop o).take n).toArray, ?_, ?_, fun hh => by rw [hn] at hh; simp at hh, fun _ => rfl⟩
      · simp [loadVar, aggSize_some hn, hrun]
      · simp only [VR0]
        exact ⟨_, rfl, ((hv.drop o).take n).plain⟩
    · cases h
  · rename_i hn
    obtain ⟨v, hv1, hv2⟩ := hv.get o av h
    refine ⟨v, ?_, hv2, fun _ => ⟨h, hv1⟩, fun hh => absurd hn hh⟩
    have hcell := hc o v hv1
    simp [loadVar, aggSize_none hn, load, Sem.run, hcell]
  · cases h
/-- what the frame and the store tell as a function's results -/
def aResult (fr : List AV) (s : List Ob) (P : Program) : ResultVar → Option AV
  | .tmp t => some (fr.getD t .undef)
  | .cell a t =>
    match fr.getD a .undef with
    | .ref i o => match s[i]? with
      | some ob => if ob.live then aLoad P t ob.cs o else none
      | _ => none
    | _ => none
def aResults (fr : List AV) (s : List Ob) (P : Program) (rs : List ResultVar) : Option AV :=
  match rs.mapM (aResult fr s P) with
  | some [a] => some a.plain
  | some l => some (.tuple (l.map AV.plain))
  | none => none
def cResult (tmps : Array Value) : ResultVar → Sem Value
  | .tmp t => pure (tmps.getD t undef)
  | .cell a t => do loadVar t (← asAddr (tmps.getD a undef))
theorem aResult_spec {P : Program} {M : Nat → Prop} {G : Gh} {w : World} {fr : List AV} {s : List Ob} {a : Act} {r : ResultVar} {av : AV} (hS : Sim M G s w) (hf : FR M G w fr a) (h : aResult fr s P r = some av) :
    ∃ v, (cResult a.tmps r).run P w = .ok v w ∧ VR0 G w av v := by
  cases r with
  | tmp t =>
    simp only [aResult, Option.some.injEq] at h
    subst h
    exact ⟨_, rfl, (hf.at_ t).1⟩
  | cell b t =>
    simp only [aResult] at h
    split at h
    · rename_i i o hb
      have hv := (hf.at_ b).1
      rw [hb] at hv
      simp only [VR0] at hv
      split at h
      · rename_i ob hi
        split at h
        case isFalse => cases h
        rename_i hl
        obtain ⟨vs, h1, h2, h3⟩ := hS.at_ i ob hi hl
        have hvs : VRs0 G w ob.cs vs := VRs0.mk h2 fun k x v hx hvv => (h3 k x v hx hvv).1
        obtain ⟨v, k1, k2, _⟩ := run_loadVar (w := w) (b := G.mu i) (base := 0) h (fun k v hk => by rw [Nat.zero_add, cell_of_vs h1]; exact hk) hvs
        refine ⟨v, ?_, k2⟩
        rw [Nat.zero_add] at k1
        simp [cResult, hv.1, asAddr, k1]
      · cases h
    · cases h
theorem mapM_results {P : Program} {M : Nat → Prop} {G : Gh} {w : World} {fr : List AV} {s : List Ob} {a : Act} (hS : Sim M G s w) (hf : FR M G w fr a) : ∀ (rs : List ResultVar) (avs : List AV), rs.mapM (aResult fr s P) = some avs →
    ∃ vs : List Value, (rs.mapM (cResult a.tmps)).run P w = .ok vs w ∧ VRs0 G w avs vs
  | [], avs, h => by
    simp at h
    subst h
    exact ⟨[], by simp, by simp only [VRs0]⟩
  | r :: rs, avs, h => by
    simp only [List.mapM_cons] at h
    cases h1 : aResult fr s P r with
    | none => rw [h1] at h; cases h
    | some av =>
      rw [h1] at h
      cases h2 : rs.mapM (aResult fr s P) with
      | none => rw [h2] at h; cases h
      | some avs' =>
        rw [h2] at h
        simp at h
        subst h
        obtain ⟨v, k1, k2⟩ := aResult_spec hS hf h1
        obtain ⟨vs, k3, k4⟩ := mapM_results hS hf rs avs' h2
        refine ⟨v :: vs, ?_, by simp only [VRs0]; exact ⟨v, vs, rfl, k2, k4⟩⟩
        simp only [List.mapM_cons, Sem.run_bind, k1, Result.andThen_ok, k3, Sem.run_pure]
end Go.Proofs.Ytgicljncknbgcaa.Abs
