/- Structs and slices that are put together; parts of slices; fields. -/
import Derived.Test.YtgicljncknbgcaaAF
namespace Go.Proofs.Ytgicljncknbgcaa.Abs
open Go Go.ChangeShapes Go.WideShapes Go.ChangeAt Go.RowKit
set_option linter.unusedVariables false
set_option linter.unusedSimpArgs false

def aParts (fr : List AV) (parts : Array (Nat × Operand)) : List (Nat × AV) := parts.toList.map fun p => (p.1, aEval fr p.2)
def aPlaces (P : Program) (fs : Array Field) : Option (List (Nat × Nat)) := fs.toList.mapM fun f => (P.info? f.type).map fun i => (f.offset, i.size)
theorem run_places {P : Program} {w : World} : ∀ (fs : List Field) (l : List (Nat × Nat)), (fs.mapM fun f => (P.info? f.type).map fun i => (f.offset, i.size)) = some l →
    (fs.mapM fun f => (do pure (f.offset, ← Go.sizeOf f.type) : Sem (Nat × Nat))).run P w = .ok l w
  | [], l, h => by simp at h; subst h; simp
  | f :: fs, l, h => by
    simp only [List.mapM_cons] at h
    cases h1 : P.info? f.type with
    | none => rw [h1] at h; cases h
    | some i =>
      rw [h1] at h
      cases h2 : (fs.mapM fun f => (P.info? f.type).map fun i => (f.offset, i.size)) with
      | none => rw [h2] at h; cases h
      | some l' =>
        rw [h2] at h
        simp at h
        subst h
        have ih := run_places (w := w) fs l' h2
        simp only [List.mapM_cons, Sem.run_bind, run_sizeOf h1, Result.andThen_ok, Sem.run_pure]
        rw [ih]
        rfl
def zeroOf (P : Program) (t : TypeId) : Option Value := (P.info? t).bind (·.zero)
theorem run_zeroOf {P : Program} {t : TypeId} {z : Value} (h : zeroOf P t = some z) (w : World) : (zeroValue t).run P w = .ok z w := by
  unfold zeroOf at h
  cases h1 : P.info? t with
  | none => rw [h1] at h; cases h
  | some i =>
    rw [h1] at h
    simp at h
    simp [zeroValue, typeInfo, h1, h]
def partsOf (l : List (Nat × AV)) : Option (List (Nat × List AV)) := l.mapM fun p => (aCells p.2).map fun c => (p.1, c.map AV.plain)
/-- a struct -/
def aBuild (P : Program) (t : TypeId) (parts : List (Nat × AV)) : Option AV :=
  match P.underlying t, zeroOf P t with
  | some (.struct fs), some z =>
    match aPlaces P fs, partsOf parts with
    | some pl, some ps => (aFill (pl[·]?) (z.cells.toList.map absS) ps).map .agg
    | _, _ => none
  | _, _ => none
section
variable {P : Program} {o : Oper} {fr : List AV} {s : List Ob}
theorem zero_VR0 (G : Gh) (w : World) (z : List Value) : ∀ (k : Nat) (a : AV) (v : Value), (z.map absS)[k]? = some a → z[k]? = some v → VR0 G w a v := by
  intro k a v ha hv
  rw [List.getElem?_map, hv] at ha
  simp at ha
  subst ha
  exact absS_VR0 G w v
theorem parts_VR {M : Nat → Prop} {G : Gh} {w : World} {a : Act} (hf : FR M G w fr a) (parts : Array (Nat × Operand)) :
    (parts.toList.map fun p => (p.1, a.eval p.2)).length = (aParts fr parts).length ∧ ∀ (k : Nat) p q, (aParts fr parts)[k]? = some p → (parts.toList.map fun p => (p.1, a.eval p.2))[k]? = some q → p.1 = q.1 ∧ VR M G w p.2 q.2 := by
  refine ⟨by simp [aParts], fun k p q hp hq => ?_⟩
  unfold aParts at hp
  rw [List.getElem?_map] at hp hq
  cases h : parts.toList[k]? with
  | none => rw [h] at hp; cases hp
  | some x =>
    rw [h] at hp hq
    simp at hp hq
    subst hp; subst hq
    exact ⟨rfl, hf.eval x.2⟩
theorem Step_build {t : TypeId} {parts : Array (Nat × Operand)} {v : AV} (ho : o.op = .build t parts) (h : aBuild P t (aParts fr parts) = some v) : Still P o fr s v := fun M G w a hS hf => by
    unfold aBuild at h
    split at h
    case h_2 => cases h
    rename_i fs z hu hz
    split at h
    case h_2 => cases h
    rename_i pl ps hpl hps
    cases hff : aFill (pl[·]?) (z.cells.toList.map absS) ps with
    | none => rw [hff] at h; cases h
    | some cs' =>
      rw [hff] at h
      simp at h
      subst h
      obtain ⟨p1, p2⟩ := parts_VR hf parts
      obtain ⟨vs', r1, r2, r3⟩ := fill_spec (M := M) (G := G) (w := w) (pl[·]?) (aParts fr parts) (parts.toList.map fun p => (p.1, a.eval p.2)) ps _ cs' z.cells (by simp) (zero_VR0 G w z.cells.toList) hps p1 p2 hff
      refine ⟨.agg vs', ?_, by simp only [VR0]; exact ⟨vs'.toList, by simp, VRs0.mk r2 r3⟩, OwnC.of_plain rfl⟩
      have hplaces : (fs.mapM fun f => (do pure (f.offset, ← Go.sizeOf f.type) : Sem (Nat × Nat))).run P w = .ok pl.toArray w := by
        rw [show fs = fs.toList.toArray by simp, List.mapM_toArray]
        simp only [Sem.run_map]
        rw [run_places (w := w) fs.toList pl hpl]
        rfl
      have hfill : Instr.fill (pl.toArray[·]?) z.cells (parts.map fun x => (x.1, a.eval x.2)).toList = some vs' := by
        rw [Array.toList_map]
        simpa using r1
      simp only [execOp, ho, Sem.run_bind, Instr.build, run_zeroOf hz, Result.andThen_ok, run_underlying hu]
      rw [hplaces]
      simp only [Result.andThen_ok]
      rw [hfill]
      rfl

/-! slices -/
def zerosArr (z : Value) (n : Nat) : Array Value := (Array.range n).map fun k => (if n = 0 then #[] else z.cells)[k % (if n = 0 then #[] else z.cells).size]!
def aBuildSlice (P : Program) (t : TypeId) (len : Nat) (parts : List (Nat × AV)) : Option AV :=
  match aElem P t with
  | some (e, size) =>
    match zeroOf P e, partsOf parts with
    | some z, some ps =>
      if len * size ≤ 16777216 ∧ 0 < z.cells.size then
        (aFill (fun i => some (i * size, size)) ((zerosArr z (len * size)).toList.map absS) ps).map fun cs => .list cs len .full
      else none
    | _, _ => none
  | none => none
/-- it tells this and makes a block -/
def Foreign (P : Program) (o : Oper) (fr : List AV) (s : List Ob) (v : AV) : Prop := ∀ M G w a, Sim M G s w → FR M G w fr a → ∃ cv ob, (execOp a.eval o).run P w = .ok (.value cv) (w.alloc ob) ∧ VR M (G.addForeign w.heap.size) (w.alloc ob) v cv
theorem Step_foreign {v : AV} (h : Foreign P o fr s v) : Step P o fr s fr v s := by
  intro M G w a hF hS hf K Q hK
  obtain ⟨cv, ob, h1, h2⟩ := h M G w a hS hf
  have hg := grown_alloc w ob
  have hm := More.addForeign G w
  have hE := Ext.grow hg hm
  unfold Oper.wp
  rw [h1, Oper.upon_value]
  exact hK _ _ _ (hE.mono fun _ _ => False.elim) (hS.grow hg hm rfl) (hf.grow hE) h2
theorem foreign_list {M : Nat → Prop} {G : Gh} {s : List Ob} {w : World} (hS : Sim M G s w) {cs : List AV} {vs : Array Value} {e : TypeId} {len : Nat} (hl : vs.toList.length = cs.length) (hv : ∀ (k : Nat) (a : AV) (v : Value), cs[k]? = some a → vs.toList[k]? = some v → VR0 G w a v) :
    VR M (G.addForeign w.heap.size) (w.alloc (.cells vs e)) (.list cs len .full) (.slice (some ⟨w.heap.size, 0, none⟩) len len) := by
  have hE := Ext.grow (grown_alloc w (.cells vs e)) (More.addForeign G w)
  refine ⟨?_, OwnC.of_plain rfl⟩
  simp only [VR0]
  refine ⟨_, len, rfl, Nat.le_refl _, fun _ => rfl, .inr ⟨w.heap.size, 0, vs.toList, rfl, ⟨by simp, ?_, ?_⟩, ?_, VRs0.mk hl fun k a v ha hv' => VR0.mono hE a v (hv k a v ha hv')⟩⟩
  · rintro ⟨i, hi, h1, h2⟩
    have := hS.lt (i := i) hi h1
    simp only [Gh.addForeign] at h2
    omega
  · simp [Gh.addForeign]
  · intro i v hi
    rw [Nat.zero_add]
    have : (w.alloc (.cells vs e)).heap[w.heap.size]? = some (.cells vs.toList.toArray e (0, 0)) := by simpa using heap_alloc_new w (.cells vs e)
    rw [cell_of_vs this]
    exact hi
theorem Step_buildSlice {t : TypeId} {len : Nat} {parts : Array (Nat × Operand)} {v : AV} (ho : o.op = .buildSlice t len parts) (h : aBuildSlice P t len (aParts fr parts) = some v) : Foreign P o fr s v := fun M G w a hS hf => by
    unfold aBuildSlice at h
    split at h
    case h_2 => cases h
    rename_i e size he
    obtain ⟨h2, i, h3, h4, h5⟩ := aElem_spec he
    split at h
    case h_2 => cases h
    rename_i z ps hz hps
    split at h
    case isFalse => cases h
    rename_i hc
    obtain ⟨hc1, hc2⟩ := hc
    generalize hzz : zerosArr z (len * size) = zs at h
    unfold zerosArr at hzz
    cases hff : aFill (fun i => some (i * size, size)) (zs.toList.map absS) ps with
    | none => rw [hff] at h; cases h
    | some cs' =>
      rw [hff] at h
      simp at h
      subst h
      obtain ⟨p1, p2⟩ := parts_VR hf parts
      obtain ⟨vs', r1, r2, r3⟩ := fill_spec (M := M) (G := G) (w := w) (fun i => some (i * size, size)) (aParts fr parts) (parts.toList.map fun p => (p.1, a.eval p.2)) ps _ cs' zs (by simp) (zero_VR0 G w zs.toList) hps p1 p2 hff
      refine ⟨.slice (some ⟨w.heap.size, 0, none⟩) len len, .cells vs' e, ?_, foreign_list hS r2 r3⟩
      have hfill : Instr.fill (fun i => some (i * size, size)) zs (parts.map fun x => (x.1, a.eval x.2)).toList = some vs' := by
        rw [Array.toList_map]
        exact r1
      have hn : ¬ (len * size > 2 ^ 24) := by omega
      by_cases h0 : len * size = 0
      · rw [if_pos h0] at hzz
        simp only [execOp, ho, Sem.run_bind, Instr.buildSlice, Result.andThen_ok, run_underlying h2, run_sizeOf h3, h4, if_neg hn, if_pos h0, Sem.run_pure]
        rw [hzz, hfill]
        rfl
      · rw [if_neg h0] at hzz
        simp only [execOp, ho, Sem.run_bind, Instr.buildSlice, Result.andThen_ok, run_underlying h2, run_sizeOf h3, h4, if_neg hn, if_neg h0, Sem.run_pure, run_zeroOf hz]
        rw [hzz, hfill]
        rfl
/-- part of a slice -/
def aBound (fr : List AV) (d : Nat) : Option Operand → Option Nat
  | none => some d
  | some x => match aEval fr x with
    | .int _ n => if 0 ≤ n then some n.toNat else none
    | _ => none
theorem Step_slice {t e : TypeId} {x : Operand} {lo hi : Option Operand} {cs : List AV} {n size l h : Nat} {g : Tag} (ho : o.op = .slice t x lo hi none) (he : aElem P t = some (e, size)) (hx : aEval fr x = .list cs n g)
    (hlo : aBound fr 0 lo = some l) (hhi : aBound fr n hi = some h) (h1 : l ≤ h) (h2 : h ≤ n) : Still P o fr s (.list ((cs.take (h * size)).drop (l * size)) (h - l) (if g = .full ∧ h = n then .full else .unk)) := fun M G w a hS hf => by
    have hv := (hf.eval x).1
    rw [hx] at hv
    simp only [VR0] at hv
    obtain ⟨A, cap, e1, e2, e3, e4⟩ := hv
    obtain ⟨g2, i, g3, g4, g5⟩ := aElem_spec he
    have bnd : ∀ (b : Option Operand) (d r : Nat), aBound fr d b = some r → (b = none ∧ r = d) ∨ ∃ x k n, b = some x ∧ a.eval x = .int k n ∧ 0 ≤ n ∧ r = n.toNat := by
      intro b d r hb
      cases b with
      | none => simp only [aBound, Option.some.injEq] at hb; exact .inl ⟨rfl, hb.symm⟩
      | some y =>
        simp only [aBound] at hb
        split at hb
        · rename_i k m hy
          split at hb
          · rename_i h0
            cases hb
            have := (hf.eval y).1
            rw [hy] at this
            simp only [VR0] at this
            exact .inr ⟨y, k, m, rfl, this, h0, rfl⟩
          · cases hb
        · cases hb
    have hrun : (execOp a.eval o).run P w = .ok (.value (.slice (if cap = l then A else A.map (·.add (l * size))) (h - l) (cap - l))) w := by
      have q1 : (Instr.sliceBounds true n cap (lo.map a.eval) (hi.map a.eval) none).run P w = .ok (l, h, cap) w := by
        rcases bnd lo 0 l hlo with ⟨rfl, rfl⟩ | ⟨xl, kl, nl, rfl, r1, r2, rfl⟩ <;> rcases bnd hi n h hhi with ⟨rfl, rfl⟩ | ⟨xh, kh, nh, rfl, r3, r4, rfl⟩
        · simp [Instr.sliceBounds]
        · have : nh ≤ cap := by omega
          simp [Instr.sliceBounds, Instr.sliceBound, r3, asIntOf, r4, this]
        · have : nl ≤ (h : Int) := by omega
          simp [Instr.sliceBounds, Instr.sliceBound, r1, asIntOf, r2, this]
        · have : nh ≤ cap := by omega
          have : nl ≤ max nh 0 := by omega
          simp [Instr.sliceBounds, Instr.sliceBound, r1, r3, asIntOf, r2, r4, *]
      have q2 := run_underlying g2 w
      have q3 := run_sizeOf g3 w
      simp only [execOp, ho, Sem.run_bind, Instr.sliceAt, q2, Result.andThen_ok, Option.map_none, e1, Instr.slice, q1, q3, g4]
      rfl
    refine ⟨_, hrun, ?_, OwnC.of_plain ?_⟩
    · simp only [VR0]
      refine ⟨_, cap - l, rfl, by omega, ?_, ?_⟩
      · intro hh
        split at hh
        · rename_i hg
          have := e3 hg.1
          omega
        · cases hh
      · by_cases hnil : (cs.take (h * size)).drop (l * size) = []
        · exact .inl hnil
        · rcases e4 with e4 | ⟨b, ob, vs, rfl, e5, e6, e7⟩
          · subst e4; simp at hnil
          · right
            have hlen : ((cs.take (h * size)).drop (l * size)).length = min (h * size) cs.length - l * size := by simp
            have hpos : 0 < ((cs.take (h * size)).drop (l * size)).length := List.length_pos_iff.2 hnil
            have hne : ¬ cap = l ∨ l = 0 ∨ True := .inr (.inr trivial)
            by_cases hcl : cap = l
            · have : h = l := by omega
              subst this
              rw [hlen] at hpos
              omega
            · rw [if_neg hcl]
              refine ⟨b, ob + l * size, (vs.take (h * size)).drop (l * size), by simp [Addr_add], ⟨e5.1, e5.2.1, fun ho' => ?_⟩, ?_, (e7.take _).drop _⟩
              · have := e5.2.2 ho'
                rw [hlen] at hpos ⊢
                omega
              · intro j v hj
                rw [List.getElem?_drop, List.getElem?_take] at hj
                split at hj
                · have := e6 _ v hj
                  rw [← Nat.add_assoc] at this
                  exact this
                · cases hj
    · split <;> rfl
end
end Go.Proofs.Ytgicljncknbgcaa.Abs
