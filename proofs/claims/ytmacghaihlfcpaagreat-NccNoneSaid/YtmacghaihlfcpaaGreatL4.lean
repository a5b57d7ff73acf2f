/- makeSlice: as a list of zeros, or as an object; an object that nobody writes any more as a list. -/
import Derived.Test.YtmacghaihlfcpaaGreatL2
import Derived.Laws.MakeOwn
import Derived.Test.YtmacghaihlfcpaaGreatL3
namespace Go.Proofs.YtmacghaihlfcpaaGreat.Abs
noncomputable section
open Go Go.ChangeShapes Go.WideShapes Go.ChangeAt Go.RowKit
set_option linter.unusedVariables false
set_option linter.unusedSimpArgs false
def zerosOf (z : Value) (n : Nat) : List AV := (madeCells z.cells n).toList.map absS
/-- element type, size, one element's zero, and whether so many may be asked for -/
def aMake (P : Program) (t : TypeId) (n : Nat) : Option (TypeId × List AV) :=
  match aElem P t with
  | some (e, size) => match P.info? e with
    | some i => match i.zero with
      | some z => if i.bytes * n ≤ 281474976710656 ∧ n ≤ 9223372036854775807 then some (e, zerosOf z (n * size)) else none
      | none => none
    | none => none
  | none => none
theorem aMake_run {P : Program} {t e : TypeId} {n : Nat} {cs : List AV} (h : aMake P t n = some (e, cs)) (k k' : IntKind) (w : World) :
    ∃ vs : Array Value, cs = vs.toList.map absS ∧ (Instr.makeSlice t (.int k n) (.int k' n)).run P w = .ok (.slice (some ⟨w.heap.size, 0, none⟩) n n) (w.alloc (.cells vs e)) := by
  unfold aMake at h
  split at h
  case h_2 => cases h
  rename_i e' size he
  obtain ⟨h2, i, h3, h4, h5⟩ := aElem_spec he
  rw [h3] at h
  dsimp only at h
  split at h
  case h_2 => cases h
  rename_i z hz
  split at h
  case isFalse => cases h
  rename_i hc
  simp only [Option.some.injEq, Prod.mk.injEq] at h
  obtain ⟨rfl, rfl⟩ := h
  have hb' : (i.bytes : Int) * (n : Int) ≤ 281474976710656 := by
    have h : ((i.bytes * n : Nat) : Int) ≤ 281474976710656 := by omega
    rwa [Int.natCast_mul] at h
  have hr := run_make (P := P) w t e' i z h2 h3 hz k k' n n (by omega) (Int.le_refl _) hb' (by omega)
  refine ⟨madeCells z.cells (n * size), rfl, ?_⟩
  rw [hr, h4]
  simp
section
variable {P : Program} {o : Oper} {fr : List AV} {s : List Ob}
theorem Step_makeList {t e : TypeId} {x y : Operand} {k k' : IntKind} {n : Nat} {cs : List AV} (ho : o.op = .makeSlice t x y) (hx : aEval fr x = .int k n) (hy : aEval fr y = .int k' n) (h : aMake P t n = some (e, cs)) :
    Foreign P o fr s (.list cs n .full) := fun M G w a hS hf => by
  have hv := (hf.eval x).1
  have hu := (hf.eval y).1
  rw [hx] at hv
  rw [hy] at hu
  simp only [VR0] at hv hu
  obtain ⟨vs, rfl, h2⟩ := aMake_run h k k' w
  refine ⟨.slice (some ⟨w.heap.size, 0, none⟩) n n, .cells vs e, ?_, foreign_list hS (by simp) fun j b v hb hv' => zero_VR0 G w vs.toList j b v hb hv'⟩
  simp only [execOp, ho, hv, hu, Sem.run_bind, h2, Result.andThen_ok]
  rfl
theorem Step_makeArr {t e : TypeId} {x y : Operand} {k k' : IntKind} {n : Nat} {cs : List AV} (hem : e ≠ mapT) (ho : o.op = .makeSlice t x y) (hx : aEval fr x = .int k n) (hy : aEval fr y = .int k' n) (h : aMake P t n = some (e, cs)) :
    Step P o fr s fr (.arr s.length n) (s ++ [⟨cs, e, true⟩]) := by
  intro M G w a hF hS hf K Q hK
  have hv := (hf.eval x).1
  have hu := (hf.eval y).1
  rw [hx] at hv
  rw [hy] at hu
  simp only [VR0] at hv hu
  obtain ⟨vs, rfl, h2⟩ := aMake_run h k k' w
  have hex : (execOp a.eval o).run P w = .ok (.value (.slice (some ⟨w.heap.size, 0, none⟩) n n)) (w.alloc (.cells vs e)) := by
    simp only [execOp, ho, hv, hu, Sem.run_bind, h2, Result.andThen_ok]
    rfl
  obtain ⟨hE, hS'⟩ := hS.addObj (cs := vs.toList.map absS) (vs := vs.toList) (t := e) hem (by simp) (fun j b v hb hv' => ⟨zero_VR0 G w vs.toList j b v hb hv', OwnC.of_plain (by
    rw [List.getElem?_map] at hb
    cases hq : vs.toList[j]? with
    | none => rw [hq] at hb; cases hb
    | some u => rw [hq] at hb; simp at hb; subst hb; exact absS_mark u)⟩)
  have ea : vs.toList.toArray = vs := by simp
  rw [ea] at hE hS'
  unfold Oper.wp
  rw [hex, Oper.upon_value]
  refine hK _ _ _ (hE.mono fun _ _ => False.elim) hS' (hf.grow hE) ⟨?_, OwnC.of_plain rfl⟩
  simp only [VR0]
  refine ⟨⟨n, ?_, Nat.le_refl _⟩, ?_⟩
  · simp [Gh.addObj, hS.n]
  · simp [Gh.addObj, hS.n]
end
/-! an object that becomes a list -/
def Gh.kill (G : Gh) (i : Nat) : Gh := { G with live := fun j => if j = i then false else G.live j }
theorem Ext.kill (G : Gh) (i : Nat) (w : World) : Ext (fun _ => False) G w (G.kill i) w where
  size := Nat.le_refl _
  os := rfl
  tape := rfl
  output := rfl
  n := Nat.le_refl _
  live j hj h := by
    simp only [Gh.kill] at h
    split at h
    · cases h
    · exact h
  mu _ _ := rfl
  newobj j h1 h2 := by simp only [Gh.kill] at h2; omega
  own _ _ := rfl
  phi _ _ _ := Nat.le_refl _
  cell _ _ _ _ := rfl
  row _ _ _ _ _ _ := rfl
  keep _ _ _ _ _ := ⟨rfl, rfl, rfl⟩
theorem Sim.kill {M : Nat → Prop} {G : Gh} {s : List Ob} {w : World} (h : Sim M G s w) {i : Nat} {ob : Ob} (hi : s[i]? = some ob) : Sim M (G.kill i) (s.set i { ob with live := false }) w := by
  have hE := Ext.kill G i w
  refine ⟨by simp [Gh.kill, h.n], ?_, ?_, ?_, fun {j} hj h1 => h.lt hj (hE.live j hj h1), ?_⟩
  · intro j k hj hk h1 h2
    exact h.inj j k hj hk (hE.live j hj h1) (hE.live k hk h2)
  · intro j hj h1
    exact h.own j hj (hE.live j hj h1)
  · intro j o' hj hol
    rw [List.getElem?_set] at hj
    split at hj
    · rename_i hij
      split at hj
      · simp at hj; subst hj; cases hol
      · cases hj
    · rename_i hij
      simp only [Gh.kill]
      rw [if_neg (fun e => hij e.symm)]
      exact h.live j o' hj hol
  · intro j o' hj hlv
    rw [List.getElem?_set] at hj
    split at hj
    · split at hj
      · simp at hj; subst hj; cases hlv
      · cases hj
    · obtain ⟨us, g1, g2, g3⟩ := h.at_ j o' hj hlv
      exact ⟨us, g1, g2, fun k' a' v' hk hv' => (g3 k' a' v' hk hv').grow hE⟩
theorem Rel.freeze {M : Nat → Prop} {G0 : Gh} {w0 : World} {fr : List AV} {s : List Ob} {a : Act} {w : World} (t i n : Nat) {ob : Ob} (hi : s[i]? = some ob) (hl : ob.live = true) (hm : ob.t ≠ mapT) (ht : fr.getD t .undef = .arr i n)
    (h : Rel M G0 w0 fr s a w) : Rel M G0 w0 (fr.set t (.list (ob.cs.map AV.plain) n .unk)) (s.set i { ob with live := false }) a w := by
  obtain ⟨G, h1, h2, h3⟩ := h
  have hE := Ext.kill G i w
  have hin : i < G.n := by rw [h2.n]; exact lt_of_some hi
  refine ⟨G.kill i, h1.trans (hE.mono fun _ _ => False.elim) (fun b _ hb => hb), h2.kill hi, ?_⟩
  have h4 := h3.grow hE
  refine ⟨h4.defers, by simpa using h4.size, fun t' => ?_⟩
  rw [List.getD_eq_getElem?_getD, List.getElem?_set]
  split
  · rename_i htt
    subst htt
    split
    · have hv := (h3.at_ t).1
      rw [ht] at hv
      simp only [VR0] at hv
      obtain ⟨⟨cap, e1, e2⟩, e3⟩ := hv
      refine ⟨?_, OwnC.of_plain rfl⟩
      simp only [Option.getD_some, VR0]
      obtain ⟨vs, g1, g2, g3⟩ := h2.at_ i ob hi hl
      rw [Ob.obj_cells hm] at g1
      refine ⟨_, cap, e1, e2, (fun h => by cases h), .inr ⟨G.mu i, 0, vs, rfl, ⟨?_, ?_, ?_⟩, ?_, ?_⟩⟩
      · rcases Nat.lt_or_ge (G.mu i) w.heap.size with h5 | h5
        · exact h5
        · rw [Array.getElem?_eq_none h5] at g1; cases g1
      · rintro ⟨j, hj, hlj, hmj⟩
        have hlj' := hE.live j hj hlj
        have : j = i := h2.inj j i hj hin hlj' (h2.live i ob hi hl) hmj
        subst this
        simp [Gh.kill] at hlj
      · intro ho
        have := h2.own i hin (h2.live i ob hi hl)
        simp only [Gh.kill] at ho
        rw [this] at ho
        cases ho
      · intro j v hj
        rw [Nat.zero_add, cell_of_vs g1]
        exact hj
      · refine VRs0.mk (by simp [g2]) fun j b v hb hv' => ?_
        rw [List.getElem?_map] at hb
        cases hq : ob.cs[j]? with
        | none => rw [hq] at hb; cases hb
        | some c =>
          rw [hq] at hb
          simp at hb
          subst hb
          exact (VR0.mono hE c v (g3 j c v hq hv').1).plain
    · rename_i hlt
      refine ⟨by simp only [Option.getD_none, VR0], OwnC.of_plain rfl⟩
  · have := h4.at_ t'
    rwa [List.getD_eq_getElem?_getD] at this
end
end Go.Proofs.YtmacghaihlfcpaaGreat.Abs

namespace Go.Proofs.YtmacghaihlfcpaaGreat.Abs
noncomputable section
open Go Go.ChangeShapes Go.WideShapes Go.ChangeAt Go.RowKit
set_option linter.unusedVariables false
set_option linter.unusedSimpArgs false

/-- as a result: nothing is known of what is behind its slices -/
def AV.soft2 : AV → AV
  | .agg cs => .agg (cs.map AV.soft)
  | a => a.soft
theorem VRs0.soft {G : Gh} {w : World} : ∀ {cs : List AV} {vs : List Value}, VRs0 G w cs vs → VRs0 G w (cs.map AV.soft) vs
  | [], _, h => by simpa only [List.map_nil, VRs0] using h
  | a :: as, vs, h => by
    simp only [VRs0] at h
    obtain ⟨v, vs', rfl, h1, h2⟩ := h
    simp only [List.map_cons, VRs0]
    exact ⟨v, vs', rfl, h1.soft, h2.soft⟩
theorem VR0.soft2 {G : Gh} {w : World} {a : AV} {v : Value} (h : VR0 G w a v) : VR0 G w a.soft2 v := by
  cases a with
  | agg cs =>
    simp only [AV.soft2, VR0] at h ⊢
    obtain ⟨vs, h1, h2⟩ := h
    exact ⟨vs, h1, h2.soft⟩
  | _ => exact h.soft
theorem VRs0.soft2 {G : Gh} {w : World} : ∀ {cs : List AV} {vs : List Value}, VRs0 G w cs vs → VRs0 G w (cs.map AV.soft2) vs
  | [], _, h => by simpa only [List.map_nil, VRs0] using h
  | a :: as, vs, h => by
    simp only [VRs0] at h
    obtain ⟨v, vs', rfl, h1, h2⟩ := h
    simp only [List.map_cons, VRs0]
    exact ⟨v, vs', rfl, h1.soft2, h2.soft2⟩
def softR : List AV → AV
  | [a] => a.soft2
  | l => .tuple (l.map AV.soft2)
mutual
theorem VR0.refs {G : Gh} {w : World} : ∀ (a : AV) (v : Value), VR0 G w a v → a.refs G.n = true
  | .undef, _, _ => rfl
  | .int .., _, _ => rfl
  | .bool _, _, _ => rfl
  | .str _, _, _ => rfl
  | .nilp, _, _ => rfl
  | .nilf, _, _ => rfl
  | .mapn, _, _ => rfl
  | .mapr i, _, h => by simp only [VR0] at h; simp [AV.refs, h.2]
  | .ref i o, _, h => by simp only [VR0] at h; simp [AV.refs, h.2]
  | .arr i o, _, h => by simp only [VR0] at h; simp [AV.refs, h.2]
  | .eptr cs o, _, h => by
    simp only [VR0] at h
    obtain ⟨b, ob, vs, h1, h2, h3, h4⟩ := h
    simp only [AV.refs]
    exact VRs0.refs cs vs h4
  | .list cs n g, _, h => by
    simp only [VR0] at h
    obtain ⟨A, cap, h1, h2, h3, h4⟩ := h
    simp only [AV.refs]
    rcases h4 with rfl | ⟨b, o, vs, h5, h6, h7, h8⟩
    · rfl
    · exact VRs0.refs cs vs h8
  | .func fn cs, _, h => by
    simp only [VR0] at h
    obtain ⟨vs, h1, h2⟩ := h
    simp only [AV.refs]
    exact VRs0.refs cs vs h2
  | .agg cs, _, h => by
    simp only [VR0] at h
    obtain ⟨vs, h1, h2⟩ := h
    simp only [AV.refs]
    exact VRs0.refs cs vs h2
  | .tuple cs, _, h => by
    simp only [VR0] at h
    obtain ⟨vs, h1, h2⟩ := h
    simp only [AV.refs]
    exact VRs0.refs cs vs h2
theorem VRs0.refs {G : Gh} {w : World} : ∀ (cs : List AV) (vs : List Value), VRs0 G w cs vs → belows G.n cs = true
  | [], _, _ => rfl
  | a :: as, _, h => by
    simp only [VRs0] at h
    obtain ⟨v, vs', h1, h2, h3⟩ := h
    simp only [belows, Bool.and_eq_true]
    exact ⟨VR0.refs a v h2, VRs0.refs as vs' h3⟩
end
theorem Sim.refs {M : Nat → Prop} {G : Gh} {s : List Ob} {w : World} (h : Sim M G s w) {i : Nat} {o : Ob} (hi : s[i]? = some o) (hl : o.live = true) : belows s.length o.cs = true := by
  obtain ⟨vs, h1, h2, h3⟩ := h.at_ i o hi hl
  rw [← h.n]
  exact VRs0.refs o.cs vs (VRs0.mk h2 fun k a v ha hv => (h3 k a v ha hv).1)
end
end Go.Proofs.YtmacghaihlfcpaaGreat.Abs

namespace Go.Proofs.YtmacghaihlfcpaaGreat.Abs
noncomputable section
open Go Go.ChangeShapes Go.WideShapes Go.ChangeAt Go.RowKit
set_option linter.unusedVariables false
set_option linter.unusedSimpArgs false

mutual
/-- it points to no object -/
def AV.free : AV → Bool
  | .ref _ _ => false
  | .arr _ _ => false
  | .eptr cs _ => !cs.isEmpty && frees cs
  | .list cs _ _ => frees cs
  | .func _ cs => frees cs
  | .agg cs => frees cs
  | .tuple cs => frees cs
  | .undef | .int .. | .bool _ | .str _ | .nilp | .nilf | .mapn => true
  | .mapr _ => false
def frees : List AV → Bool
  | [] => true
  | a :: as => a.free && frees as
end
mutual
theorem VR0.move {G G' : Gh} {w : World} (hs : ∀ b o len, 0 < len → Seen G w b o len → Seen G' w b o len) : ∀ (a : AV) (v : Value), a.free = true → VR0 G w a v → VR0 G' w a v
  | .undef, _, _, _ => by simp only [VR0]
  | .int .., _, _, hv => by simp only [VR0] at hv ⊢; exact hv
  | .bool .., _, _, hv => by simp only [VR0] at hv ⊢; exact hv
  | .str .., _, _, hv => by simp only [VR0] at hv ⊢; exact hv
  | .nilp, _, _, hv => by simp only [VR0] at hv ⊢; exact hv
  | .nilf, _, _, hv => by simp only [VR0] at hv ⊢; exact hv
  | .mapn, _, _, hv => by simp only [VR0] at hv ⊢; exact hv
  | .mapr i, _, hb, _ => by simp [AV.free] at hb
  | .ref i o, _, hb, _ => by simp [AV.free] at hb
  | .arr i o, _, hb, _ => by simp [AV.free] at hb
  | .eptr cs o, _, hb, hv => by
    simp only [VR0, AV.free, Bool.and_eq_true, Bool.not_eq_true', List.isEmpty_eq_false_iff] at hv hb ⊢
    obtain ⟨b, ob, vs, h1, h2, h3, h4⟩ := hv
    exact ⟨b, ob, vs, h1, hs _ _ _ (List.length_pos_iff.2 hb.1) h2, h3, VRs0.move hs cs vs hb.2 h4⟩
  | .list cs n g, _, hb, hv => by
    simp only [VR0, AV.free] at hv hb ⊢
    obtain ⟨A, cap, h1, h2, h3, h4⟩ := hv
    refine ⟨A, cap, h1, h2, h3, ?_⟩
    rcases h4 with h4 | ⟨b, o, vs, h5, h6, h7, h8⟩
    · exact .inl h4
    · by_cases hc : cs = []
      · exact .inl hc
      · exact .inr ⟨b, o, vs, h5, hs _ _ _ (List.length_pos_iff.2 hc) h6, h7, VRs0.move hs cs vs hb h8⟩
  | .func fn cs, _, hb, hv => by
    simp only [VR0, AV.free] at hv hb ⊢
    obtain ⟨vs, h1, h2⟩ := hv
    exact ⟨vs, h1, VRs0.move hs cs vs hb h2⟩
  | .agg cs, _, hb, hv => by
    simp only [VR0, AV.free] at hv hb ⊢
    obtain ⟨vs, h1, h2⟩ := hv
    exact ⟨vs, h1, VRs0.move hs cs vs hb h2⟩
  | .tuple cs, _, hb, hv => by
    simp only [VR0, AV.free] at hv hb ⊢
    obtain ⟨vs, h1, h2⟩ := hv
    exact ⟨vs, h1, VRs0.move hs cs vs hb h2⟩
theorem VRs0.move {G G' : Gh} {w : World} (hs : ∀ b o len, 0 < len → Seen G w b o len → Seen G' w b o len) : ∀ (as : List AV) (vs : List Value), frees as = true → VRs0 G w as vs → VRs0 G' w as vs
  | [], _, _, hv => by simp only [VRs0] at hv ⊢; exact hv
  | a :: as, _, hb, hv => by
    simp only [VRs0, frees, Bool.and_eq_true] at hv hb ⊢
    obtain ⟨v, vs', h1, h2, h3⟩ := hv
    exact ⟨v, vs', h1, VR0.move hs a v hb.1 h2, VRs0.move hs as vs' hb.2 h3⟩
end
open Classical in
/-- the objects hidden -/
noncomputable def Gh.hide (G : Gh) : Gh where
  n := 0
  live _ := false
  mu := G.mu
  own b := if G.obj b then true else G.own b
  phi b := if G.obj b then 0 else G.phi b
  tg := G.tg
theorem hide_nobj (G : Gh) (b : Nat) : ¬ G.hide.obj b := fun ⟨i, hi, _⟩ => by simp only [Gh.hide] at hi; omega
/-- told back -/
def Gh.back (G G1 : Gh) (size : Nat) : Gh where
  n := G.n
  live := G.live
  mu := G.mu
  own b := if b < size then G.own b else G1.own b
  phi b := if b < size then G.phi b else G1.phi b
  tg b := if b < size then G.tg b else G1.tg b
theorem GI.hide {P : Program} {G : Gh} {w : World} (h : GI P G w) : GI P G.hide w := fun hg => by
  obtain ⟨h1, h2, h3, h4⟩ := h hg
  exact ⟨h1, h2, hide_nobj G 0, by simp only [Gh.hide]; rw [if_neg h3]; exact h4⟩
theorem OkP_at {P : Program} {f : FuncId} {args : List AV} {r : AV} (h : Ok P f args [] r []) (ha : frees args = true) (hr : r.free = true) {M : Nat → Prop} {G : Gh} {s : List Ob} {w : World} {cargs : List Value} (hS : Sim M G s w) (hG : GI P G w) (hargs : VRs0 G w args cargs) :
    Calls P f cargs.toArray w fun e w' => ∃ v G', e = .returned v ∧ VR0 G' w' r v ∧ Sim M G' s w' ∧ Ext (fun _ => False) G w G' w' := by
  have hobj : ∀ b, G.obj b → b < w.heap.size ∧ G.own b = false := by
    rintro b ⟨i, h1, h2, rfl⟩
    exact ⟨hS.lt h1 h2, hS.own i h1 h2⟩
  have h0 := h (fun _ => False) G.hide w cargs ⟨rfl, fun i j hi => by simp only [Gh.hide] at hi; omega, fun i hi => by simp only [Gh.hide] at hi; omega, fun i o hi => by simp at hi, fun {i} hi => by simp only [Gh.hide] at hi; omega, fun i o hi => by simp at hi⟩ hG.hide
    (VRs0.move (fun b o len hl ⟨k1, k2, k3⟩ => ⟨k1, hide_nobj G b, fun ho => by
      simp only [Gh.hide] at ho ⊢
      rw [if_neg k2] at ho ⊢
      exact k3 ho⟩) args cargs ha hargs)
  refine h0.mono ?_
  rintro e w' ⟨v, G1, rfl, h1, h2, h3⟩
  have hM : ∀ b, b < w.heap.size → ¬ MofS (fun _ => False) G.hide [] w b := fun b hb hm => by
    rcases hm with hm | ⟨hm, _⟩
    · omega
    · exact hm
  have own1 : ∀ b, b < w.heap.size → G.own b = true → ¬ G.obj b → G.hide.own b = true ∧ G.hide.phi b = G.phi b := fun b hb ho hn => by
    simp only [Gh.hide]; rw [if_neg hn, if_neg hn]; exact ⟨ho, rfl⟩
  have hE : Ext (fun _ => False) G w (G.back G1 w.heap.size) w' := {
    size := h3.size
    os := h3.os
    tape := h3.tape
    output := h3.output
    n := Nat.le_refl _
    live := fun _ _ h => h
    mu := fun _ _ => rfl
    newobj := fun i k1 k2 => by simp only [Gh.back] at k2; omega
    own := fun b hb => by simp only [Gh.back]; rw [if_pos hb]
    phi := fun b hb _ => by simp only [Gh.back]; rw [if_pos hb]; exact Nat.le_refl _
    cell := fun b hb hn ho => h3.cell b hb (hide_nobj G b) (by simp only [Gh.hide]; rw [if_neg hn]; exact ho)
    row := fun b hb hn ho o hlt => h3.row b hb (hide_nobj G b) (own1 b hb ho hn).1 o (by rw [(own1 b hb ho hn).2]; exact hlt)
    keep := fun b hb hn ho _ => ⟨(h3.keep b hb (hide_nobj G b) (own1 b hb ho hn).1 (hM b hb)).1, by simp only [Gh.back]; rw [if_pos hb], by simp only [Gh.back]; rw [if_pos hb]⟩ }
  refine ⟨v, G.back G1 w.heap.size, rfl, ?_, ?_, hE⟩
  · refine VR0.move ?_ r v hr h1.1
    rintro b o len hl ⟨k1, k2, k3⟩
    have hno : ¬ G.obj b := fun hb => by
      obtain ⟨hlt, _⟩ := hobj b hb
      have ho1 : G.hide.own b = true := by simp only [Gh.hide]; rw [if_pos hb]
      have e1 := (h3.own b hlt).trans ho1
      have e2 := (h3.keep b hlt (hide_nobj G b) ho1 (hM b hlt)).2.1
      have e3 : G.hide.phi b = 0 := by simp only [Gh.hide]; rw [if_pos hb]
      have := k3 e1
      omega
    refine ⟨k1, fun ⟨i, q1, q2, q3⟩ => hno ⟨i, q1, q2, q3⟩, fun ho => ?_⟩
    simp only [Gh.back] at ho ⊢
    by_cases hlt : b < w.heap.size
    · rw [if_pos hlt] at ho ⊢
      obtain ⟨q1, q2⟩ := own1 b hlt ho hno
      have e1 := (h3.own b hlt).trans q1
      have e2 := (h3.keep b hlt (hide_nobj G b) q1 (hM b hlt)).2.1
      have := k3 e1
      omega
    · rw [if_neg hlt] at ho ⊢
      exact k3 ho
  · refine ⟨hS.n, hS.inj, ?_, hS.live, fun {i} hi hl => Nat.lt_of_lt_of_le (hS.lt hi hl) hE.size, ?_⟩
    · intro i hi hl
      simp only [Gh.back] at hi hl ⊢
      rw [if_pos (hS.lt hi hl)]
      exact hS.own i hi hl
    · intro i o hi hl
      obtain ⟨vs, g1, g2, g3⟩ := hS.at_ i o hi hl
      have hin : i < G.n := by rw [hS.n]; exact lt_of_some hi
      have hlv : G.live i = true := hS.live i o hi hl
      have hob : G.obj (G.mu i) := ⟨i, hin, hlv, rfl⟩
      have ho1 : G.hide.own (G.mu i) = true := by simp only [Gh.hide]; rw [if_pos hob]
      refine ⟨vs, ?_, g2, fun k a u hk hu => (g3 k a u hk hu).grow hE⟩
      show w'.heap[G.mu i]? = _
      rw [(h3.keep _ (hS.lt hin hlv) (hide_nobj G _) ho1 (hM _ (hS.lt hin hlv))).1, g1]
/-- such a call, where the callee and the arguments are known -/
theorem CallP_wp {P : Program} {o : Oper} {fr : List AV} {s : List Ob} {r : AV} {c : Call} {x : Operand} {f : FuncId} {fcs : List AV} {M : Nat → Prop} {G : Gh} {w : World} {a : Act} (ho : o.op = .call c) (hc : c.callee = .value x) (hx : aEval fr x = .func (.func f) fcs)
    (hbody : enters P f = true) (hok : Ok P f ((c.args.toList.map fun y => (aEval fr y).soft) ++ fcs) [] r []) (ha : frees ((c.args.toList.map fun y => (aEval fr y).soft) ++ fcs) = true) (hr : r.free = true)
    (hS : Sim M G s w) (hG : GI P G w) (hf : FR M G w fr a) (K : Act → World → Prop) (Q : Exit → Act → World → Prop)
    (hK : ∀ v G' w', VR0 G' w' r v → Sim M G' s w' → Ext (fun _ => False) G w G' w' → K (a.put o.dst v) w') : o.wp P a w K Q := by
  have hv := (hf.eval x).1
  rw [hx] at hv
  simp only [VR0] at hv
  obtain ⟨cvs, hv, hcv⟩ := hv
  have hargs : ∀ l : List Operand, VRs0 G w (l.map fun y => (aEval fr y).soft) (l.map a.eval) := by
    intro l
    induction l with
    | nil => simp only [List.map_nil, VRs0]
    | cons y l ih =>
      simp only [List.map_cons, VRs0]
      exact ⟨_, _, rfl, (hf.eval y).1.soft, ih⟩
  have happ : ∀ (l m : List AV) (x y : List Value), VRs0 G w l x → VRs0 G w m y → VRs0 G w (l ++ m) (x ++ y) := by
    intro l
    induction l with
    | nil => intro m x y h1 h2; simp only [VRs0] at h1; subst h1; exact h2
    | cons a l ih =>
      intro m x y h1 h2
      simp only [VRs0] at h1
      obtain ⟨v, vs', rfl, h3, h4⟩ := h1
      simp only [List.cons_append, VRs0]
      exact ⟨v, _, rfl, h3, ih m vs' y h4 h2⟩
  have hcall := OkP_at hok ha hr hS hG (happ _ _ _ _ (hargs c.args.toList) hcv)
  have hrun : (execOp a.eval o).run P w = .ok (.enter f ((c.args.toList.map a.eval) ++ cvs).toArray) w := by
    have e1 : c.args.map a.eval ++ cvs.toArray = ((c.args.toList.map a.eval) ++ cvs).toArray := by
      apply Array.ext'
      simp
    simp [execOp, ho, resolve, hc, hv, Deferred.ofValue, invoke, run_enter hbody, e1]
  unfold Oper.wp
  rw [hrun, Oper.upon_enter]
  refine hcall.mono ?_
  rintro e w' ⟨v, G', rfl, h1, h2, h3⟩
  exact hK v G' w' h1 h2 h3
theorem Step_callP {P : Program} {o : Oper} {fr : List AV} {s : List Ob} {r : AV} {c : Call} {x : Operand} {f : FuncId} {fcs : List AV} (ho : o.op = .call c) (hc : c.callee = .value x) (hx : aEval fr x = .func (.func f) fcs)
    (hbody : enters P f = true) (hok : Ok P f ((c.args.toList.map fun y => (aEval fr y).soft) ++ fcs) [] r []) (ha : frees ((c.args.toList.map fun y => (aEval fr y).soft) ++ fcs) = true) (hr : r.free = true) (hm : r.mark = none) : Step P o fr s fr r s := by
  intro M G w a hF hS hf K Q hK
  refine CallP_wp ho hc hx hbody hok ha hr hS hF.2 hf K Q ?_
  intro v G' w' h1 h2 h3
  exact hK v G' w' (h3.mono fun _ _ => False.elim) h2 (hf.grow h3) ⟨h1, OwnC.of_plain hm⟩
theorem HStep_callP {P : Program} {A : Array Oper} {o : Oper} {fr : List AV} {s : List Ob} {ts : List Nat} {r : AV} {c : Call} {x : Operand} {f : FuncId} {fcs : List AV} (ho : o.op = .call c) (hc : c.callee = .value x) (hx : aEval fr x = .func (.func f) fcs)
    (hbody : enters P f = true) (hok : Ok P f ((c.args.toList.map fun y => (aEval fr y).soft) ++ fcs) [] r []) (ha : frees ((c.args.toList.map fun y => (aEval fr y).soft) ++ fcs) = true) (hr : r.free = true) (hm : r.mark = none) : HStep P A o fr s ts r s := by
  intro M G w a hF hS hf K Q hK
  have hxo : ∀ y ∈ o.op.operands, aEval (aForget (readsOf A o) fr) y = aEval fr y := fun y hy => aEval_forget hy
  have hx' : aEval (aForget (readsOf A o) fr) x = .func (.func f) fcs := by
    rw [hxo x (by simp [ho, Op.operands, Call.operands, hc])]
    exact hx
  have hargs' : (c.args.toList.map fun y => (aEval (aForget (readsOf A o) fr) y).soft) = c.args.toList.map fun y => (aEval fr y).soft :=
    List.map_congr_left fun y hy => by rw [hxo y (by simp [ho, Op.operands, Call.operands]; right; simpa using hy)]
  refine CallP_wp (a := a) ho hc hx' hbody (by rw [hargs']; exact hok) (by rw [hargs']; exact ha) hr hS hF.2 hf K Q ?_
  intro v G' w' h1 h2 h3
  exact hK v G' w' (fun _ => False) (fun _ h => h.elim) h3 h2 ⟨h1, OwnC.of_plain hm⟩
theorem HStep.weaken {P : Program} {A : Array Oper} {o : Oper} {fr : List AV} {s s' : List Ob} {ts : List Nat} {v v' : AV} (h : HStep P A o fr s ts v s') (k : WkM v v') : HStep P A o fr s ts v' s' :=
  fun M G w a hF hS hf K Q hK => h M G w a hF hS hf K Q fun cv G' w' M' h1 h2 h3 h4 => hK cv G' w' M' h1 h2 h3 (k M G' w' cv h4)
/-! a call that only reads objects: they are handed as rows -/
mutual
/-- it tells of no row and no object -/
def AV.flat : AV → Bool
  | .ref _ _ => false
  | .arr _ _ => false
  | .eptr _ _ => false
  | .list cs _ _ => cs.isEmpty
  | .func _ cs => flats cs
  | .agg cs => flats cs
  | .tuple cs => flats cs
  | .undef | .int .. | .bool _ | .str _ | .nilp | .nilf | .mapn => true
  | .mapr _ => false
def flats : List AV → Bool
  | [] => true
  | a :: as => a.flat && flats as
end
mutual
theorem VR0.flat {G G' : Gh} {w w' : World} : ∀ (a : AV) (v : Value), a.flat = true → VR0 G w a v → VR0 G' w' a v
  | .undef, _, _, _ => by simp only [VR0]
  | .int .., _, _, hv => by simp only [VR0] at hv ⊢; exact hv
  | .bool .., _, _, hv => by simp only [VR0] at hv ⊢; exact hv
  | .str .., _, _, hv => by simp only [VR0] at hv ⊢; exact hv
  | .nilp, _, _, hv => by simp only [VR0] at hv ⊢; exact hv
  | .nilf, _, _, hv => by simp only [VR0] at hv ⊢; exact hv
  | .mapn, _, _, hv => by simp only [VR0] at hv ⊢; exact hv
  | .mapr i, _, hb, _ => by simp [AV.flat] at hb
  | .ref i o, _, hb, _ => by simp [AV.flat] at hb
  | .arr i o, _, hb, _ => by simp [AV.flat] at hb
  | .eptr cs o, _, hb, _ => by simp [AV.flat] at hb
  | .list cs n g, _, hb, hv => by
    simp only [VR0, AV.flat, List.isEmpty_iff] at hv hb ⊢
    obtain ⟨A, cap, h1, h2, h3, h4⟩ := hv
    exact ⟨A, cap, h1, h2, h3, .inl hb⟩
  | .func fn cs, _, hb, hv => by
    simp only [VR0, AV.flat] at hv hb ⊢
    obtain ⟨vs, h1, h2⟩ := hv
    exact ⟨vs, h1, VRs0.flat cs vs hb h2⟩
  | .agg cs, _, hb, hv => by
    simp only [VR0, AV.flat] at hv hb ⊢
    obtain ⟨vs, h1, h2⟩ := hv
    exact ⟨vs, h1, VRs0.flat cs vs hb h2⟩
  | .tuple cs, _, hb, hv => by
    simp only [VR0, AV.flat] at hv hb ⊢
    obtain ⟨vs, h1, h2⟩ := hv
    exact ⟨vs, h1, VRs0.flat cs vs hb h2⟩
theorem VRs0.flat {G G' : Gh} {w w' : World} : ∀ (as : List AV) (vs : List Value), flats as = true → VRs0 G w as vs → VRs0 G' w' as vs
  | [], _, _, hv => by simp only [VRs0] at hv ⊢; exact hv
  | a :: as, _, hb, hv => by
    simp only [VRs0, flats, Bool.and_eq_true] at hv hb ⊢
    obtain ⟨v, vs', h1, h2, h3⟩ := hv
    exact ⟨v, vs', h1, VR0.flat a v hb.1 h2, VRs0.flat as vs' hb.2 h3⟩
end
/-- no objects -/
def Gh.bare (G : Gh) : Gh := { G with n := 0 }
theorem bare_nobj (G : Gh) (b : Nat) : ¬ G.bare.obj b := fun ⟨i, hi, _⟩ => by simp only [Gh.bare] at hi; omega
theorem Seen.bare {G : Gh} {w : World} {b o len : Nat} (h : Seen G w b o len) : Seen G.bare w b o len := ⟨h.1, bare_nobj G b, h.2.2⟩
theorem GI.bare {P : Program} {G : Gh} {w : World} (h : GI P G w) : GI P G.bare w := fun hg => by
  obtain ⟨h1, h2, h3, h4⟩ := h hg
  exact ⟨h1, h2, bare_nobj G 0, h4⟩
theorem OkR_at {P : Program} {f : FuncId} {args : List AV} {r : AV} (h : Ok P f args [] r []) (hr : r.flat = true) {M : Nat → Prop} {G : Gh} {s : List Ob} {w : World} {cargs : List Value} (hS : Sim M G s w) (hG : GI P G w) (hargs : VRs0 G.bare w args cargs) :
    Calls P f cargs.toArray w fun e w' => ∃ v G', e = .returned v ∧ VR0 G' w' r v ∧ Ext (fun _ => False) G w G' w' ∧ ∀ s, Sim M G s w → Sim M G' s w' := by
  have h0 := h (fun _ => False) G.bare w cargs ⟨rfl, fun i j hi => by simp only [Gh.bare] at hi; omega, fun i hi => by simp only [Gh.bare] at hi; omega, fun i o hi => by simp at hi, fun {i} hi => by simp only [Gh.bare] at hi; omega, fun i o hi => by simp at hi⟩ hG.bare hargs
  refine h0.mono ?_
  rintro e w' ⟨v, G1, rfl, h1, h2, h3⟩
  have hM : ∀ b, b < w.heap.size → ¬ MofS (fun _ => False) G.bare [] w b := fun b hb hm => by
    rcases hm with hm | ⟨hm, _⟩
    · omega
    · exact hm
  have hE : Ext (fun _ => False) G w (G.back G1 w.heap.size) w' := {
    size := h3.size
    os := h3.os
    tape := h3.tape
    output := h3.output
    n := Nat.le_refl _
    live := fun _ _ h => h
    mu := fun _ _ => rfl
    newobj := fun i k1 k2 => by simp only [Gh.back] at k2; omega
    own := fun b hb => by simp only [Gh.back]; rw [if_pos hb]
    phi := fun b hb _ => by simp only [Gh.back]; rw [if_pos hb]; exact Nat.le_refl _
    cell := fun b hb _ ho => h3.cell b hb (bare_nobj G b) ho
    row := fun b hb _ ho o hlt => h3.row b hb (bare_nobj G b) ho o hlt
    keep := fun b hb _ ho _ => ⟨(h3.keep b hb (bare_nobj G b) ho (hM b hb)).1, by simp only [Gh.back]; rw [if_pos hb], by simp only [Gh.back]; rw [if_pos hb]⟩ }
  refine ⟨v, G.back G1 w.heap.size, rfl, VR0.flat r v hr h1.1, hE, fun s hS => ?_⟩
  refine ⟨hS.n, hS.inj, ?_, hS.live, fun {i} hi hl => Nat.lt_of_lt_of_le (hS.lt hi hl) hE.size, ?_⟩
  · intro i hi hl
    simp only [Gh.back] at hi hl ⊢
    rw [if_pos (hS.lt hi hl)]
    exact hS.own i hi hl
  · intro i o hi hl
    obtain ⟨vs, g1, g2, g3⟩ := hS.at_ i o hi hl
    have hin : i < G.n := by rw [hS.n]; exact lt_of_some hi
    have hlv : G.live i = true := hS.live i o hi hl
    refine ⟨vs, ?_, g2, fun k a u hk hu => (g3 k a u hk hu).grow hE⟩
    show w'.heap[G.mu i]? = _
    rw [h3.cell _ (hS.lt hin hlv) (bare_nobj G _) (hS.own i hin hlv), g1]
/-- such a call: the arguments as rows -/
theorem CallR_wp {P : Program} {o : Oper} {fr : List AV} {s : List Ob} {r : AV} {c : Call} {x : Operand} {f : FuncId} {fcs args : List AV} {M : Nat → Prop} {G : Gh} {w : World} {a : Act} (ho : o.op = .call c) (hc : c.callee = .value x) (hx : aEval fr x = .func (.func f) fcs)
    (hbody : enters P f = true) (hok : Ok P f args [] r []) (hsn : ∀ cv, VRs0 G w ((c.args.toList.map fun y => (aEval fr y).soft) ++ fcs) cv → VRs0 G.bare w args cv) (hr : r.flat = true)
    (hS : Sim M G s w) (hG : GI P G w) (hf : FR M G w fr a) (K : Act → World → Prop) (Q : Exit → Act → World → Prop)
    (hK : ∀ v G' w', VR0 G' w' r v → Ext (fun _ => False) G w G' w' → (∀ s, Sim M G s w → Sim M G' s w') → K (a.put o.dst v) w') : o.wp P a w K Q := by
  have hv := (hf.eval x).1
  rw [hx] at hv
  simp only [VR0] at hv
  obtain ⟨cvs, hv, hcv⟩ := hv
  have hargs : ∀ l : List Operand, VRs0 G w (l.map fun y => (aEval fr y).soft) (l.map a.eval) := by
    intro l
    induction l with
    | nil => simp only [List.map_nil, VRs0]
    | cons y l ih =>
      simp only [List.map_cons, VRs0]
      exact ⟨_, _, rfl, (hf.eval y).1.soft, ih⟩
  have happ : ∀ (l m : List AV) (x y : List Value), VRs0 G w l x → VRs0 G w m y → VRs0 G w (l ++ m) (x ++ y) := by
    intro l
    induction l with
    | nil => intro m x y h1 h2; simp only [VRs0] at h1; subst h1; exact h2
    | cons a l ih =>
      intro m x y h1 h2
      simp only [VRs0] at h1
      obtain ⟨v, vs', rfl, h3, h4⟩ := h1
      simp only [List.cons_append, VRs0]
      exact ⟨v, _, rfl, h3, ih m vs' y h4 h2⟩
  have hcall := OkR_at hok hr hS hG (hsn _ (happ _ _ _ _ (hargs c.args.toList) hcv))
  have hrun : (execOp a.eval o).run P w = .ok (.enter f ((c.args.toList.map a.eval) ++ cvs).toArray) w := by
    have e1 : c.args.map a.eval ++ cvs.toArray = ((c.args.toList.map a.eval) ++ cvs).toArray := by
      apply Array.ext'
      simp
    simp [execOp, ho, resolve, hc, hv, Deferred.ofValue, invoke, run_enter hbody, e1]
  unfold Oper.wp
  rw [hrun, Oper.upon_enter]
  refine hcall.mono ?_
  rintro e w' ⟨v, G', rfl, h1, h2, h3⟩
  exact hK v G' w' h1 h2 h3
end
end Go.Proofs.YtmacghaihlfcpaaGreat.Abs

namespace Go.Proofs.YtmacghaihlfcpaaGreat.Abs
noncomputable section
open Go Go.ChangeShapes Go.WideShapes Go.ChangeAt Go.RowKit
set_option linter.unusedVariables false
set_option linter.unusedSimpArgs false

/-! rows of noughts -/
theorem Wks.of_get : ∀ {l m : List AV}, l.length = m.length → (∀ (i : Nat) (a b : AV), l[i]? = some a → m[i]? = some b → Wk a b) → Wks l m
  | [], [], _, _ => .nil
  | [], _ :: _, h, _ => by simp at h
  | _ :: _, [], h, _ => by simp at h
  | a :: l, b :: m, h, hh => .cons (hh 0 a b rfl rfl) (Wks.of_get (by simpa using h) fun i x y hx hy => hh (i + 1) x y (by simpa using hx) (by simpa using hy))
theorem Wks.get : ∀ {l m : List AV}, Wks l m → ∀ (i : Nat) (y y' : AV), l[i]? = some y → m[i]? = some y' → Wk y y' := by
  intro l m hw
  induction hw with
  | nil => intro i y y' h; simp at h
  | cons hh _ ih =>
    intro i y y' h h'
    cases i with
    | zero => simp at h h'; subst h; subst h'; exact hh
    | succ i => exact ih i y y' (by simpa using h) (by simpa using h')
theorem rep_get {α β : Type} (f : α → List β) (x : α) (z : Nat) (hz : (f x).length = z) (h0 : 0 < z) : ∀ (n i : Nat), i < n * z → ((List.replicate n x).flatMap f)[i]? = (f x)[i % z]?
  | 0, i, h => by omega
  | n + 1, i, h => by
    rw [List.replicate_succ, List.flatMap_cons]
    rcases Nat.lt_or_ge i z with h1 | h1
    · rw [List.getElem?_append_left (by omega), Nat.mod_eq_of_lt h1]
    · rw [List.getElem?_append_right (by omega), hz, rep_get f x z hz h0 n (i - z) (by rw [Nat.succ_mul] at h; omega)]
      congr 1
      rw [Nat.mod_eq_sub_mod h1]
theorem zeros_wks {ty : Ty} {z : Value} {x : El ty} {n size : Nat} (hs : size = ty.size) (hz : z.cells.size = size) (h0 : 0 < size) (h : dec ty (z.cells.toList.map tAbsS) = some (x, [])) :
    Wks (zerosOf z (n * size)) ((List.replicate n x).flatMap (cellsOf ty)) := by
  have hw := dec_spec ty _ _ _ h
  simp only [dns, List.append_nil, dns_tAbsS] at hw
  have hlen : (zerosOf z (n * size)).length = n * size := by simp [zerosOf, madeCells]
  refine .of_get (by rw [hlen, flat_len, List.length_replicate, hs]) fun i a b ha hb => ?_
  have hi : i < n * size := by rw [← hlen]; exact lt_of_some ha
  rw [rep_get (cellsOf ty) x size (by rw [cellsOf_len, hs]) h0 n i hi] at hb
  refine hw.get (i % size) a b ?_ hb
  have hn : ¬ n * size = 0 := by omega
  unfold zerosOf madeCells at ha
  rw [List.getElem?_map] at ha ⊢
  have hm : i % size < z.cells.size := by rw [hz]; exact Nat.mod_lt _ h0
  rw [Array.getElem?_toList] at ha ⊢
  rw [Array.getElem?_map] at ha
  rw [Array.getElem?_eq_getElem hm]
  rw [Array.getElem?_eq_getElem (by simpa using hi)] at ha
  simp [hz, hm] at ha ⊢
  rw [← ha, getElem!_pos z.cells (i % size) hm]
def tMake (P : Program) (t : TypeId) (n m : Int) : Option (Bool × TypeId × (ty : Ty) × List (El ty)) :=
  match aElem P t with
  | some (e, size) => match P.info? e, tyOf P 10 e with
    | some i, some ty => match i.zero with
      | some z => if size = ty.size ∧ z.cells.size = size then
          match dec ty (z.cells.toList.map tAbsS) with
          | some (x, []) => some (canMake i.bytes n m, e, ⟨ty, List.replicate n.toNat x⟩)
          | _ => none
        else none
      | none => none
    | _, _ => none
  | none => none
theorem tMake_spec {P : Program} {t e : TypeId} {n m : Int} {g : Bool} {ty : Ty} {xs : List (El ty)} (h : tMake P t n m = some (g, e, ⟨ty, xs⟩)) (hg : gdP g) :
    ∃ cs, n = (n.toNat : Int) ∧ m = n ∧ xs.length = n.toNat ∧ aMake P t n.toNat = some (e, cs) ∧ Wks cs (xs.flatMap (cellsOf ty)) := by
  unfold tMake at h
  split at h
  case h_2 => cases h
  rename_i e' size he
  split at h
  case h_2 => cases h
  rename_i i ty' hi hty
  split at h
  case h_2 => cases h
  rename_i z hz
  split at h
  case isFalse => cases h
  rename_i hc
  split at h
  case h_2 => cases h
  rename_i x hx
  simp only [Option.some.injEq, Prod.mk.injEq] at h
  obtain ⟨rfl, rfl, h3⟩ := h
  cases h3
  simp only [gdP, canMake_iff] at hg
  obtain ⟨_, _, _, _, hpos⟩ := aElem_spec he
  obtain ⟨nn, rfl⟩ : ∃ k : Nat, n = (k : Int) := ⟨n.toNat, by omega⟩
  obtain ⟨hnm, h0, hb, hl⟩ := hg
  refine ⟨zerosOf z (nn * size), by simp, hnm.symm, by simp, ?_, ?_⟩
  · unfold aMake
    rw [he]
    dsimp only
    rw [hi]
    dsimp only
    rw [hz]
    dsimp only
    rw [Int.toNat_natCast, if_pos]
    refine ⟨?_, by omega⟩
    have : ((i.bytes * nn : Nat) : Int) ≤ 281474976710656 := by rw [Int.natCast_mul]; exact hb
    omega
  · rw [Int.toNat_natCast]
    exact zeros_wks hc.1 hc.2 hpos hx
def tZero (P : Program) (t : TypeId) : Option (List TV) := if t = mapT then none else match P.info? t with
  | some i => i.zero.map fun z => z.cells.toList.map tAbsS
  | none => none
theorem tZero_spec {P : Program} {t : TypeId} {cs : List TV} (h : tZero P t = some cs) : zeroCells P t = some (dns cs) := by
  unfold tZero at h
  unfold zeroCells
  split at h
  · cases h
  rename_i hnm
  rw [if_neg hnm]
  split at h
  · rename_i i hi
    obtain ⟨z, h1, rfl⟩ := map_some_eq h
    simp only [hi, h1, Option.map_some, dns_tAbsS]
  · cases h
/-- arr: rows that are made here are objects -/
def tStep (P : Program) (wr : Bool) (tb : Nat) (arr : Bool) (fr : List TV) (s : List TOb) (dst : Option Tmp) (op : Op) : Option (Bool × List TV × TV × List TOb) :=
  match op with
  | .alloc t => if t = mapT then none else match tZero P t with
    | some cs => some (true, fr, .ref s.length 0, s ++ [.cells cs t true])
    | none => none
  | .box t x => if t = mapT then none else match tCells (tEval fr x) with
    | some cs => some (true, fr, .ref s.length 0, s ++ [.cells cs t true])
    | none => none
  | .store t x y => match tStoreAt P s t (tEval fr x) (tEval fr y) with
    | some (g, s') => some (g, fr, .tup [], s')
    | none => none
  | .makeSlice t x y => match tEval fr x, tEval fr y with
    | .int _ n, .int _ m => match tMake P t n m with
      | some (g, e, ⟨ty, xs⟩) => if arr = true then if e = mapT then none else some (g, fr, .arr s.length n.toNat, s ++ [.tarr ty xs e true]) else some (g, fr, .tl ty xs .full, s)
      | none => none
    | _, _ => none
  | .call c => match c.callee with
    | .builtin .append => match c.args.toList, c.argTypes.toList with
      | [x, y], [t, t'] => if t = t' then tAppend P (tb + dst.getD 0) fr s t (tEval fr x) (tEval fr y) else none
      | _, _ => none
    | .builtin .len => match c.args.toList, c.argTypes.toList with
      | [x], [t] => match tLen P t (tEval fr x) with
        | some (g, v) => some (g, fr, v, s)
        | none => none
      | _, _ => none
    | .builtin .max => match tPure P wr fr s op with
      | some (g, v) => some (g, fr, v, s)
      | none => none
    | .builtin .min => match tPure P wr fr s op with
      | some (g, v) => some (g, fr, v, s)
      | none => none
    | _ => none
  | op => match tPure P wr fr s op with
    | some (g, v) => some (g, fr, v, s)
    | none => none
theorem dnS_app (s t : List TOb) : dnS (s ++ t) = dnS s ++ dnS t := by simp [dnS]
theorem Step.weakenV {P : Program} {o : Oper} {fr fr' : List AV} {s s' : List Ob} {v v' : AV} (h : Step P o fr s fr' v s') (k : WkM v v') : Step P o fr s fr' v' s' := h.weaken (.refl _) k (.refl _)
theorem tStep_spec {P : Program} {wr : Bool} {tb : Nat} {arr : Bool} {fr fr' : List TV} {s s' : List TOb} {o : Oper} {g : Bool} {v : TV} (h : tStep P wr tb arr fr s o.dst o.op = some (g, fr', v, s')) (hg : gdP g) : Step P o (dns fr) (dnS s) (dns fr') (dn v) (dnS s') := by
  have pure : ∀ {g v}, tPure P wr fr s o.op = some (g, v) → gdP g → Step P o (dns fr) (dnS s) (dns fr) (dn v) (dnS s) := by
    intro g v h hg
    obtain ⟨a, h1, h2⟩ := tPure_spec h hg
    exact (Step_pure h1).weakenV h2
  have other : (match tPure P wr fr s o.op with | some (g, v) => some (g, fr, v, s) | none => none) = some (g, fr', v, s') → Step P o (dns fr) (dnS s) (dns fr') (dn v) (dnS s') := by
    intro h
    split at h
    · rename_i g1 v1 h1
      cases h
      exact pure h1 hg
    · cases h
  obtain ⟨dst, op, type, pos, after, guard⟩ := o
  unfold tStep at h
  dsimp only at h
  split at h
  · rename_i t
    split at h
    · cases h
    rename_i hnm
    split at h
    · rename_i cs hz
      cases h
      rw [dnS_app]
      have := Step_alloc (P := P) (o := ⟨dst, .alloc t, type, pos, after, guard⟩) (fr := dns fr) (s := dnS s) hnm rfl (tZero_spec hz)
      rw [dnS_length] at this
      exact this
    · cases h
  · rename_i t x
    split at h
    · cases h
    rename_i hnm
    split at h
    · rename_i cs hz
      cases h
      rw [dnS_app]
      have hz' := tCells_spec hz
      rw [dn_tEval] at hz'
      have := Step_box (P := P) (o := ⟨dst, .box t x, type, pos, after, guard⟩) (fr := dns fr) (s := dnS s) hnm rfl hz'
      rw [dnS_length] at this
      exact this
    · cases h
  · rename_i t x y
    split at h
    · rename_i g1 s1 hz
      cases h
      exact tStoreAt_spec (o := ⟨dst, .store t x y, type, pos, after, guard⟩) rfl hz hg
    · cases h
  · rename_i t x y
    split at h
    case h_2 => cases h
    rename_i k n k' m hx hy
    split at h
    case h_2 => cases h
    rename_i g1 e ty xs hmk
    have hg1 : gdP g1 := by
      split at h
      · split at h
        · cases h
        · cases h; exact hg
      · cases h; exact hg
    obtain ⟨cs, e1, e2, e3, e4, e5⟩ := tMake_spec hmk hg1
    have hx' : aEval (dns fr) x = .int k n.toNat := by rw [← dn_tEval, hx]; simp only [dn]; rw [← e1]
    have hy' : aEval (dns fr) y = .int k' n.toNat := by rw [← dn_tEval, hy]; simp only [dn]; rw [← e1, e2]
    split at h
    · split at h
      · cases h
      rename_i hem
      cases h
      rw [dnS_app]
      have := Step_makeArr (P := P) (o := ⟨dst, .makeSlice t x y, type, pos, after, guard⟩) (fr := dns fr) (s := dnS s) hem rfl hx' hy' e4
      rw [dnS_length] at this
      refine this.weaken (.refl _) (.refl _) ?_
      refine ⟨by simp [dnS], fun i o o' h h' => ?_⟩
      rw [List.getElem?_append] at h h'
      split at h
      · rename_i hlt
        rw [if_pos hlt, h] at h'
        cases h'
        exact .refl _
      · rename_i hlt
        rw [if_neg hlt] at h'
        cases hq : i - (dnS s).length with
        | zero =>
          rw [hq] at h h'
          cases h
          cases h'
          refine fun hl => ⟨rfl, hl, e5.len.symm, fun j a a' ha ha' => ?_⟩
          exact .of (e5.get j a a' ha ha') (flat_mark _ a' (List.mem_of_getElem? ha'))
        | succ q => rw [hq] at h; simp at h
    · cases h
      refine (Step_foreign (Step_makeList (P := P) (o := ⟨dst, .makeSlice t x y, type, pos, after, guard⟩) (fr := dns fr) (s := dnS s) rfl hx' hy' e4)).weakenV ?_
      refine .of ?_ rfl
      simp only [dn]
      rw [e3]
      exact .list e5 fun _ => rfl
  · rename_i c
    split at h
    · rename_i hc
      split at h
      · rename_i x y t t' ha ht
        split at h
        · rename_i htt
          subst htt
          have ha' : c.args = #[x, y] := by apply Array.ext'; simpa using ha
          have ht' : c.argTypes = #[t, t] := by apply Array.ext'; simpa using ht
          exact tAppend_spec (o := ⟨dst, .call c, type, pos, after, guard⟩) rfl hc ha' ht' h hg
        · cases h
      · cases h
    · rename_i hc
      split at h
      · rename_i x t ha ht
        split at h
        · rename_i g1 v1 h1
          cases h
          refine pure (g := g) (v := v) ?_ hg
          simp only [tPure, hc, ha, ht, h1]
        · cases h
      · cases h
    · exact other h
    · exact other h
    · cases h
  · exact other h
end
end Go.Proofs.YtmacghaihlfcpaaGreat.Abs
