/- Operations that make memory. -/
import Derived.Test.YtgicljncknbgcaaAO
import Derived.Laws.CopyRow
namespace Go.Proofs.Ytgicljncknbgcaa.Abs
open Go Go.ChangeShapes Go.WideShapes Go.ChangeAt Go.RowKit
set_option linter.unusedVariables false
set_option linter.unusedSimpArgs false

/-- new ghosts: the old blocks, the old objects as they were -/
structure More (G : Gh) (w : World) (G' : Gh) : Prop where
  n : G.n ≤ G'.n
  mu : ∀ i, i < G.n → G'.mu i = G.mu i
  live : ∀ i, i < G.n → G'.live i = G.live i
  newobj : ∀ i, G.n ≤ i → i < G'.n → w.heap.size ≤ G'.mu i
  own : ∀ b, b < w.heap.size → G'.own b = G.own b
  phi : ∀ b, b < w.heap.size → G'.phi b = G.phi b
  tg : ∀ b, b < w.heap.size → G'.tg b = G.tg b
theorem Ext.grow {G G' : Gh} {w w' : World} (hg : w.grownBy w' none) (hm : More G w G') : Ext (fun _ => False) G w G' w' where
  size := hg.size
  os := hg.os
  tape := hg.tape
  output := hg.output
  n := hm.n
  mu := hm.mu
  live i hi h := (hm.live i hi).symm.trans h
  newobj := hm.newobj
  own := hm.own
  phi b hb _ := Nat.le_of_eq (hm.phi b hb).symm
  cell b hb _ _ := hg.block b hb (by simp)
  row b hb _ _ o _ := World.cell?_of_block (w := w) (hg.block b hb (by simp))
  keep b hb _ _ _ := ⟨hg.block b hb (by simp), hm.phi b hb, hm.tg b hb⟩
theorem VR.grow {M : Nat → Prop} {G G' : Gh} {w w' : World} (h : Ext (fun _ => False) G w G' w') {a : AV} {v : Value} (hv : VR M G w a v) : VR M G' w' a v := hv.keep h fun _ _ _ _ _ _ _ _ => id
theorem FR.grow {M : Nat → Prop} {G G' : Gh} {w w' : World} (h : Ext (fun _ => False) G w G' w') {fr : List AV} {a : Act} (hf : FR M G w fr a) : FR M G' w' fr a := hf.keep h fun _ _ _ _ _ _ _ _ _ => id
/-- the same objects, more blocks -/
theorem Sim.grow {M : Nat → Prop} {G G' : Gh} {s : List Ob} {w w' : World} (h : Sim M G s w) (hg : w.grownBy w' none) (hm : More G w G') (hn : G'.n = G.n) : Sim M G' s w' := by
  have hE := Ext.grow hg hm
  have hlt : ∀ i, i < G.n → G.live i = true → G.mu i < w.heap.size := fun i hi hl => h.lt hi hl
  refine ⟨hn.trans h.n, ?_, ?_, ?_, fun {i} hi hl => by
    rw [hn] at hi
    rw [hm.live i hi] at hl
    rw [hm.mu i hi]
    exact Nat.lt_of_lt_of_le (h.lt hi hl) hg.size, ?_⟩
  · intro i j hi hj h1 h2
    rw [hn] at hi hj
    rw [hm.mu i hi, hm.mu j hj]
    rw [hm.live i hi] at h1
    rw [hm.live j hj] at h2
    exact h.inj i j hi hj h1 h2
  · intro i hi hl
    rw [hn] at hi
    rw [hm.live i hi] at hl
    rw [hm.mu i hi, hm.own _ (hlt i hi hl)]
    exact h.own i hi hl
  · intro i o hi hol
    have hi' : i < G.n := by
      rw [h.n]
      rcases Nat.lt_or_ge i s.length with h4 | h4
      · exact h4
      · rw [List.getElem?_eq_none h4] at hi; cases hi
    rw [hm.live i hi']
    exact h.live i o hi hol
  · intro i o hi hl
    have hi' : i < G.n := by
      rw [h.n]
      rcases Nat.lt_or_ge i s.length with h4 | h4
      · exact h4
      · rw [List.getElem?_eq_none h4] at hi; cases hi
    obtain ⟨vs, h1, h2, h3⟩ := h.at_ i o hi hl
    refine ⟨vs, ?_, h2, fun k a v hk hv => (h3 k a v hk hv).grow hE⟩
    rw [hm.mu i hi', hg.block _ (hlt i hi' (h.live i o hi hl)) (by simp)]
    exact h1
theorem lt_of_some {α : Type} {l : List α} {i : Nat} {a : α} (h : l[i]? = some a) : i < l.length := by
  rcases Nat.lt_or_ge i l.length with h4 | h4
  · exact h4
  · rw [List.getElem?_eq_none h4] at h; cases h
def Gh.addObj (G : Gh) (b : Nat) : Gh :=
  { G with n := G.n + 1, live := fun i => if i = G.n then true else G.live i, mu := fun i => if i = G.n then b else G.mu i, own := fun x => if x = b then false else G.own x }
def Gh.addForeign (G : Gh) (b : Nat) : Gh := { G with own := fun x => if x = b then false else G.own x }
def Gh.addRow (G : Gh) (b t len : Nat) : Gh :=
  { G with own := fun x => if x = b then true else G.own x, phi := fun x => if x = b then len else G.phi x, tg := fun x => if x = b then t else G.tg x }
theorem More.addObj (G : Gh) (w : World) : More G w (G.addObj w.heap.size) := by
  refine ⟨by simp [Gh.addObj], ?_, ?_, ?_, ?_, fun _ _ => rfl, fun _ _ => rfl⟩
  · intro i hi
    simp only [Gh.addObj]
    rw [if_neg (by omega)]
  · intro i hi
    simp only [Gh.addObj]
    rw [if_neg (by omega)]
  · intro i h1 h2
    simp only [Gh.addObj] at h2 ⊢
    rw [if_pos (by omega)]
    exact Nat.le_refl _
  · intro b hb
    simp only [Gh.addObj]
    rw [if_neg (by omega)]
theorem More.addForeign (G : Gh) (w : World) : More G w (G.addForeign w.heap.size) := by
  refine ⟨by simp [Gh.addForeign], fun _ _ => rfl, fun _ _ => rfl, ?_, ?_, fun _ _ => rfl, fun _ _ => rfl⟩
  · intro i h1 h2
    simp only [Gh.addForeign] at h2
    omega
  · intro b hb
    simp only [Gh.addForeign]
    rw [if_neg (by omega)]
theorem More.addRow (G : Gh) (w : World) (t len : Nat) : More G w (G.addRow w.heap.size t len) := by
  refine ⟨by simp [Gh.addRow], fun _ _ => rfl, fun _ _ => rfl, ?_, ?_, ?_, ?_⟩
  · intro i h1 h2
    simp only [Gh.addRow] at h2
    omega
  all_goals
    intro b hb
    simp only [Gh.addRow]
    rw [if_neg (by omega)]
theorem grown_alloc (w : World) (o : Obj) : w.grownBy (w.alloc o) none := ⟨rfl, rfl, rfl, by simp, fun k hk _ => Below.heap_alloc w o k hk⟩
theorem grown_drew_alloc (w : World) (o : Obj) : w.grownBy (w.drew.alloc o) none := ⟨rfl, rfl, rfl, by simp, fun k hk _ => Below.heap_alloc w.drew o k hk⟩

/-- a new object -/
theorem Sim.addObj {M : Nat → Prop} {G : Gh} {s : List Ob} {w : World} (h : Sim M G s w) {cs : List AV} {vs : List Value} {t : TypeId} (hl : vs.length = cs.length) (hv : ∀ (k : Nat) (a : AV) (v : Value), cs[k]? = some a → vs[k]? = some v → VR M G w a v) :
    Ext (fun _ => False) G w (G.addObj w.heap.size) (w.alloc (.cells vs.toArray t)) ∧ Sim M (G.addObj w.heap.size) (s ++ [⟨cs, t, true⟩]) (w.alloc (.cells vs.toArray t)) := by
  have hg := grown_alloc w (.cells vs.toArray t)
  have hm := More.addObj G w
  have hE := Ext.grow hg hm
  refine ⟨hE, by simp [Gh.addObj, h.n], ?_, ?_, ?_, fun {i} hi hl' => by
    simp only [Gh.addObj] at hi hl' ⊢
    have hsz : (w.alloc (Obj.cells vs.toArray t)).heap.size = w.heap.size + 1 := by simp
    rw [hsz]
    split
    · omega
    · rename_i h3
      rw [if_neg h3] at hl'
      have := h.lt (by omega) hl'
      omega, ?_⟩
  · intro i j hi hj h1 h2 heq
    simp only [Gh.addObj] at hi hj h1 h2 heq
    split at heq <;> split at heq
    · omega
    · rename_i h3 h4
      rw [if_neg h4] at h2
      have := h.lt (by omega) h2
      omega
    · rename_i h3 h4
      rw [if_neg h3] at h1
      have := h.lt (by omega) h1
      omega
    · rename_i h3 h4
      rw [if_neg h3] at h1
      rw [if_neg h4] at h2
      exact h.inj i j (by omega) (by omega) h1 h2 heq
  · intro i hi hl'
    simp only [Gh.addObj] at hi hl' ⊢
    split
    · simp
    · rename_i h3
      rw [if_neg h3] at hl'
      have := h.lt (by omega) hl'
      rw [if_neg (by omega)]
      exact h.own i (by omega) hl'
  · intro i o hi hol
    rw [List.getElem?_append] at hi
    split at hi
    · rename_i h3
      simp only [Gh.addObj]
      rw [if_neg (by rw [h.n]; omega)]
      exact h.live i o hi hol
    · rename_i h3
      have h4 : i - s.length = 0 := by
        have := lt_of_some hi
        simpa using this
      rw [h4] at hi
      simp at hi
      subst hi
      simp only [Gh.addObj]
      rw [if_pos (by rw [h.n]; omega)]
  · intro i o hi hlv
    rw [List.getElem?_append] at hi
    split at hi
    · rename_i h3
      obtain ⟨us, h4, h5, h6⟩ := h.at_ i o hi hlv
      refine ⟨us, ?_, h5, fun k a v hk hv => (h6 k a v hk hv).grow hE⟩
      have h7 : i < G.n := by rw [h.n]; exact h3
      rw [hm.mu i h7, hg.block _ (h.lt h7 (h.live i o hi hlv)) (by simp)]
      exact h4
    · rename_i h3
      have h4 : i - s.length = 0 := by
        have := lt_of_some hi
        simpa using this
      rw [h4] at hi
      simp at hi
      subst hi
      refine ⟨vs, ?_, hl, fun k a v hk hv' => (hv k a v hk hv').grow hE⟩
      simp only [Gh.addObj]
      rw [if_pos (by rw [h.n]; omega)]
      exact heap_alloc_new w _

/-- the cells of a value -/
def aCells : AV → Option (List AV)
  | .agg cs => some (cs.map AV.plain)
  | .undef | .tuple _ => none
  | a => some [a]
theorem aCells_spec {M : Nat → Prop} {G : Gh} {w : World} {a : AV} {v : Value} {cs : List AV} (h : aCells a = some cs) (hv : VR M G w a v) : v.cells.toList.length = cs.length ∧ ∀ (k : Nat) (x : AV) (u : Value), cs[k]? = some x → v.cells.toList[k]? = some u → VR M G w x u := by
  have one : ∀ (x : AV) (u : Value), VR M G w x u → u.cells = #[u] → u.cells.toList.length = [x].length ∧ ∀ (k : Nat) (y : AV) (z : Value), [x][k]? = some y → u.cells.toList[k]? = some z → VR M G w y z := by
    intro x u hx hu
    rw [hu]
    refine ⟨rfl, fun k y z h1 h2 => ?_⟩
    match k, h1, h2 with
    | 0, h1, h2 =>
      simp at h1 h2
      subst h1; subst h2
      exact hx
  have hv0 := hv.1
  cases a <;> simp only [aCells, Option.some.injEq] at h <;> simp only [VR0] at hv0
  case undef => cases h
  case tuple => cases h
  case agg as =>
    subst h
    obtain ⟨vs, rfl, h2⟩ := hv0
    refine ⟨by simp [Value.cells, h2.length], fun k x u h3 h4 => ?_⟩
    obtain ⟨u', h5, h6⟩ := h2.plain.get k x h3
    simp only [Value.cells] at h4
    rw [h5] at h4
    cases h4
    rw [List.getElem?_map] at h3
    cases h7 : as[k]? with
    | none => rw [h7] at h3; cases h3
    | some y => rw [h7] at h3; simp at h3; subst h3; exact ⟨h6, OwnC.of_plain y.mark_plain⟩
  all_goals
    subst h
    apply one _ _ hv
  case int => rw [hv0]; rfl
  case bool => rw [hv0]; rfl
  case str => rw [hv0]; rfl
  case nilp => rw [hv0]; rfl
  case ref => rw [hv0.1]; rfl
  case eptr => obtain ⟨b, ob, vs, h1, _⟩ := hv0; rw [h1]; rfl
  case list => obtain ⟨A, cap, h1, _⟩ := hv0; rw [h1]; rfl
  case arr => obtain ⟨⟨cap, h1, _⟩, _⟩ := hv0; rw [h1]; rfl
  case nilf => rw [hv0]; rfl
  case func => obtain ⟨vs, h1, _⟩ := hv0; rw [h1]; rfl

section
variable {P : Program} {o : Oper} {fr : List AV} {s : List Ob}
theorem Step_new {t : TypeId} {cs : List AV} (h : ∀ M G w a, Sim M G s w → FR M G w fr a → ∃ vs : List Value, vs.length = cs.length ∧ (∀ (k : Nat) (x : AV) (u : Value), cs[k]? = some x → vs[k]? = some u → VR M G w x u) ∧
    (execOp a.eval o).run P w = .ok (.value (.pointer (some ⟨w.heap.size, 0, none⟩))) (w.alloc (.cells vs.toArray t))) : Step P o fr s fr (.ref s.length 0) (s ++ [⟨cs, t, true⟩]) := by
  intro M G w a hF hS hf K Q hK
  obtain ⟨vs, h1, h2, h3⟩ := h M G w a hS hf
  obtain ⟨hE, hS'⟩ := hS.addObj (t := t) h1 h2
  unfold Oper.wp
  rw [h3, Oper.upon_value]
  refine hK _ _ _ (hE.mono fun _ _ => False.elim) hS' (hf.grow hE) ⟨?_, OwnC.of_plain rfl⟩
  simp only [VR0, Gh.addObj]
  rw [if_pos hS.n.symm]
  exact ⟨rfl, by rw [hS.n]; omega⟩
theorem Step_box {t : TypeId} {x : Operand} {cs : List AV} (ho : o.op = .box t x) (hx : aCells (aEval fr x) = some cs) : Step P o fr s fr (.ref s.length 0) (s ++ [⟨cs, t, true⟩]) :=
  Step_new fun M G w a hS hf => by
    obtain ⟨h1, h2⟩ := aCells_spec hx (hf.eval x)
    exact ⟨_, h1, h2, by simp [execOp, ho, Instr.box, newVar, newRow]⟩
def zeroCells (P : Program) (t : TypeId) : Option (List AV) := match P.info? t with
  | some i => i.zero.map fun z => z.cells.toList.map absS
  | none => none
theorem Step_alloc {t : TypeId} {cs : List AV} (ho : o.op = .alloc t) (hz : zeroCells P t = some cs) : Step P o fr s fr (.ref s.length 0) (s ++ [⟨cs, t, true⟩]) :=
  Step_new fun M G w a hS hf => by
    unfold zeroCells at hz
    split at hz
    · rename_i i hi
      cases hzz : i.zero with
      | none => rw [hzz] at hz; cases hz
      | some z =>
        rw [hzz] at hz
        simp at hz
        subst hz
        refine ⟨z.cells.toList, by simp, fun k x u h1 h2 => ?_, by simp [execOp, ho, Instr.alloc, zeroValue, typeInfo, hi, hzz, newVar, newRow]⟩
        rw [List.getElem?_map, h2] at h1
        simp at h1
        subst h1
        exact ⟨absS_VR0 G w u, OwnC.of_plain (absS_mark u)⟩
    · cases hz
end
end Go.Proofs.Ytgicljncknbgcaa.Abs
