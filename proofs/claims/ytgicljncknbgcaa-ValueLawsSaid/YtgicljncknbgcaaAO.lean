/- Operations that turn nothing in the world. -/
import Derived.Test.YtgicljncknbgcaaAC
namespace Go.Proofs.Ytgicljncknbgcaa.Abs
open Go Go.ChangeShapes Go.WideShapes Go.ChangeAt Go.RowKit
set_option linter.unusedVariables false
set_option linter.unusedSimpArgs false

section
variable {P : Program} {o : Oper} {fr : List AV} {s : List Ob}
/-- it tells this and turns nothing -/
def Still (P : Program) (o : Oper) (fr : List AV) (s : List Ob) (v : AV) : Prop := ∀ M G w a, Sim M G s w → FR M G w fr a → ∃ cv, (execOp a.eval o).run P w = .ok (.value cv) w ∧ VR M G w v cv
theorem Step_still {v : AV} (h : Still P o fr s v) : Step P o fr s fr v s := by
  intro M G w a hF hS hf K Q hK
  obtain ⟨cv, h1, h2⟩ := h M G w a hS hf
  unfold Oper.wp
  rw [h1, Oper.upon_value]
  exact hK cv G w (Ext.refl _ _ _) hS hf h2
theorem Step_move {x : Operand} (ho : o.op = .move x) : Still P o fr s (aEval fr x) := fun M G w a hS hf => ⟨a.eval x, by simp [execOp, ho], hf.eval x⟩
theorem Step_assign {x : Operand} (ho : o.op = .assign x) : Still P o fr s (aEval fr x) := fun M G w a hS hf => ⟨a.eval x, by simp [execOp, ho], hf.eval x⟩
theorem Step_pick {c x y : Operand} {b : Bool} (ho : o.op = .pick c x y) (hc : aEval fr c = .bool b) : Still P o fr s (if b then aEval fr x else aEval fr y) := fun M G w a hS hf => by
    have hv := (hf.eval c).1
    rw [hc] at hv
    simp only [VR0] at hv
    refine ⟨if b then a.eval x else a.eval y, by simp [execOp, ho, hv, asBool], ?_⟩
    cases b
    · exact hf.eval y
    · exact hf.eval x

/-! operations on values of one cell alone: the model's own text, run without a world -/
def pureRun (P : Program) {α : Type} : Sem α → Option α
  | .pure a => some a
  | .program k => pureRun P (k P)
  | .mark _ k => pureRun P k
  | _ => none
theorem pureRun_run {P : Program} {α : Type} : ∀ {x : Sem α} {a : α}, pureRun P x = some a → ∀ w, x.run P w = .ok a w
  | .pure b, a, h, w => by simp only [pureRun, Option.some.injEq] at h; subst h; rfl
  | .program k, a, h, w => by simp only [pureRun] at h; exact pureRun_run h w
  | .mark m k, a, h, w => by simp only [pureRun] at h; exact pureRun_run h w
  | .load .., _, h, _ => by simp [pureRun] at h
  | .store .., _, h, _ => by simp [pureRun] at h
  | .new .., _, h, _ => by simp [pureRun] at h
  | .shape .., _, h, _ => by simp [pureRun] at h
  | .freeze .., _, h, _ => by simp [pureRun] at h
  | .frozen .., _, h, _ => by simp [pureRun] at h
  | .getObj .., _, h, _ => by simp [pureRun] at h
  | .setObj .., _, h, _ => by simp [pureRun] at h
  | .choose .., _, h, _ => by simp [pureRun] at h
  | .sys .., _, h, _ => by simp [pureRun] at h
  | .halt .., _, h, _ => by simp [pureRun] at h
def concS : AV → Option Value
  | .int k n => some (.int k n)
  | .bool b => some (.bool b)
  | .str s => some (.string ⟨s.toArray⟩)
  | .nilp => some (.pointer none)
  | .nilf => some .nilFunc
  | _ => none
def conc : AV → Option Value
  | .agg cs => (cs.mapM concS).map fun l => .agg l.toArray
  | a => concS a
theorem concS_eq {G : Gh} {w : World} {a : AV} {v v' : Value} (h : concS a = some v') (hv : VR0 G w a v) : v = v' := by
  cases a <;> simp only [concS, Option.some.injEq, VR0] at h hv <;> first
    | (subst h; exact hv)
    | cases h
theorem concSs_eq {G : Gh} {w : World} : ∀ {as : List AV} {vs vs' : List Value}, as.mapM concS = some vs' → VRs0 G w as vs → vs = vs'
  | [], vs, vs', h, hv => by simp at h; simp only [VRs0] at hv; rw [hv, ← h]
  | a :: as, vs, vs', h, hv => by
    simp only [VRs0] at hv
    obtain ⟨v, vs1, rfl, h1, h2⟩ := hv
    simp only [List.mapM_cons] at h
    cases k1 : concS a with
    | none => rw [k1] at h; cases h
    | some v' =>
      rw [k1] at h
      cases k2 : as.mapM concS with
      | none => rw [k2] at h; cases h
      | some l =>
        rw [k2] at h
        simp at h
        subst h
        rw [concS_eq k1 h1, concSs_eq k2 h2]
theorem conc_eq {G : Gh} {w : World} {a : AV} {v v' : Value} (h : conc a = some v') (hv : VR0 G w a v) : v = v' := by
  cases a
  case agg cs =>
    simp only [conc, VR0] at h hv
    obtain ⟨vs, rfl, h2⟩ := hv
    cases k : cs.mapM concS with
    | none => rw [k] at h; cases h
    | some l =>
      rw [k] at h
      simp at h
      subst h
      rw [concSs_eq k h2]
  all_goals (simp only [conc] at h; exact concS_eq h hv)
def cEval (fr : List AV) (x : Operand) : Value := (conc (aEval fr x)).getD undef
def isSelect : Op → Bool | .select .. => true | _ => false
/-- what an operation tells whose operands are plain -/
def aScalar (P : Program) (fr : List AV) (o : Oper) : Option AV :=
  if (o.op.operands.toList.all fun x => (conc (aEval fr x)).isSome) && !isSelect o.op then
    match pureRun P (execOp (cEval fr) o) with
    | some (.value v) => some (absV v)
    | _ => none
  else none
theorem Step_scalar {v : AV} (h : aScalar P fr o = some v) : Still P o fr s v := fun M G w a hS hf => by
    unfold aScalar at h
    split at h
    · rename_i hc
      simp only [Bool.and_eq_true] at hc
      have he : execOp a.eval o = execOp (cEval fr) o := execOp_congr o (fun cs b h0 => by rw [h0] at hc; simp [isSelect] at hc) fun x hx => by
        have h1 := List.all_eq_true.1 hc.1 x (by simpa using hx)
        unfold cEval
        cases k : conc (aEval fr x) with
        | none => rw [k] at h1; cases h1
        | some v' => exact conc_eq k (hf.eval x).1
      split at h
      · rename_i cv hcv
        cases h
        exact ⟨cv, by rw [he]; exact pureRun_run hcv w, absV_VR0 G w cv, OwnC.of_plain (absV_mark cv)⟩
      · cases h
    · cases h

/-! reads of memory -/
theorem Step_load_ref {t : TypeId} {x : Operand} {i k : Nat} {ob : Ob} {v : AV} (ho : o.op = .load t x) (hx : aEval fr x = .ref i k) (hi : s[i]? = some ob) (hlv : ob.live = true) (hl : aLoad P t ob.cs k = some v) : Still P o fr s v := fun M G w a hS hf => by
    have hv := (hf.eval x).1
    rw [hx] at hv
    simp only [VR0] at hv
    obtain ⟨vs, h1, h2, h3⟩ := hS.at_ i ob hi hlv
    have hvs : VRs0 G w ob.cs vs := VRs0.mk h2 fun k x v hx hvv => (h3 k x v hx hvv).1
    obtain ⟨cv, k1, k2, k3, k4⟩ := run_loadVar (w := w) (b := G.mu i) (base := 0) hl (fun k v hk => by rw [Nat.zero_add, cell_of_vs h1]; exact hk) hvs
    rw [Nat.zero_add] at k1
    refine ⟨cv, by simp [execOp, ho, Instr.loadAt, hv.1, Instr.sureAddr, k1], k2, ?_⟩
    by_cases hag : aggSize P t = some none
    · obtain ⟨e1, e2⟩ := k3 hag
      exact (h3 k v cv e1 e2).2
    · exact OwnC.of_plain (k4 hag)
theorem Step_load_eptr {t : TypeId} {x : Operand} {cs : List AV} {k : Nat} {v : AV} (ho : o.op = .load t x) (hx : aEval fr x = .eptr cs k) (hl : aLoad P t cs k = some v) : Still P o fr s v.plain := fun M G w a hS hf => by
    have hv := (hf.eval x).1
    rw [hx] at hv
    simp only [VR0] at hv
    obtain ⟨b, ob, vs, h1, h2, h3, h4⟩ := hv
    obtain ⟨cv, k1, k2, k3, k4⟩ := run_loadVar (w := w) hl h3 h4
    exact ⟨cv, by simp [execOp, ho, Instr.loadAt, h1, Instr.sureAddr, k1], k2.plain, OwnC.of_plain v.mark_plain⟩
/-- where a field lies -/
def aField (P : Program) (t : TypeId) (f : Nat) : Option (Nat × TypeId) :=
  match P.underlying t with
  | some (.struct fs) => match fs[f]? with
    | some fd => match P.info? fd.type with
      | some i => if i.size = 0 then none else some (fd.offset, fd.type)
      | none => none
    | none => none
  | _ => none
theorem run_fieldAt {t : TypeId} {f off : Nat} {ft : TypeId} (h : aField P t f = some (off, ft)) (w : World) (b k : Nat) : (Instr.fieldAt t (.pointer (some ⟨b, k, none⟩)) f).run P w = .ok (.pointer (some ⟨b, k + off, none⟩)) w := by
  unfold aField at h
  split at h
  · rename_i fs h1
    split at h
    · rename_i fd h2
      split at h
      · rename_i i h3
        split at h
        · cases h
        · rename_i h4
          simp only [Option.some.injEq, Prod.mk.injEq] at h
          obtain ⟨h5, h6⟩ := h
          subst h5
          have h2' : fs[f]? = some fd := h2
          simp [Instr.fieldAt, run_underlying h1, h2', Instr.sureAddr, fieldPlace, run_sizeOf h3, h4, Addr_add]
      · cases h
    · cases h
  · cases h
theorem Step_fieldAddr_ref {t : TypeId} {x : Operand} {f i k off : Nat} {ft : TypeId} (ho : o.op = .fieldAddr t x f) (hx : aEval fr x = .ref i k) (hf0 : aField P t f = some (off, ft)) : Still P o fr s (.ref i (k + off)) := fun M G w a hS hf => by
    have hv := (hf.eval x).1
    rw [hx] at hv
    simp only [VR0] at hv
    exact ⟨_, by simp [execOp, ho, hv.1, run_fieldAt hf0]; rfl, by simp only [VR0]; exact ⟨trivial, hv.2⟩, OwnC.of_plain rfl⟩
theorem Step_fieldAddr_eptr {t : TypeId} {x : Operand} {f k off : Nat} {ft : TypeId} {cs : List AV} (ho : o.op = .fieldAddr t x f) (hx : aEval fr x = .eptr cs k) (hf0 : aField P t f = some (off, ft)) : Still P o fr s (.eptr cs (k + off)) := fun M G w a hS hf => by
    have hv := (hf.eval x).1
    rw [hx] at hv
    simp only [VR0] at hv
    obtain ⟨b, ob, vs, h1, h2, h3, h4⟩ := hv
    exact ⟨_, by simp [execOp, ho, h1, run_fieldAt hf0]; rfl, by simp only [VR0]; exact ⟨b, ob, vs, by rw [Nat.add_assoc], h2, h3, h4⟩, OwnC.of_plain rfl⟩
/-- a slice's element type and how many cells one has -/
def aElem (P : Program) (t : TypeId) : Option (TypeId × Nat) :=
  match P.underlying t with
  | some (.slice e) => match P.info? e with
    | some i => if i.size = 0 then none else some (e, i.size)
    | none => none
  | _ => none
theorem aElem_spec {t e : TypeId} {size : Nat} (h : aElem P t = some (e, size)) : P.underlying t = some (.slice e) ∧ ∃ i, P.info? e = some i ∧ i.size = size ∧ 0 < size := by
  unfold aElem at h
  split at h
  · rename_i e' h1
    split at h
    · rename_i i h2
      split at h
      · cases h
      · rename_i h3
        simp only [Option.some.injEq, Prod.mk.injEq] at h
        obtain ⟨rfl, rfl⟩ := h
        exact ⟨h1, i, h2, rfl, Nat.pos_of_ne_zero h3⟩
    · cases h
  · cases h
theorem Step_indexAddr {t e : TypeId} {x y : Operand} {cs : List AV} {n size : Nat} {g : Tag} {kd : IntKind} {ix : Int} (ho : o.op = .indexAddr t x y) (he : aElem P t = some (e, size)) (hx : aEval fr x = .list cs n g) (hy : aEval fr y = .int kd ix)
    (h0 : 0 ≤ ix) (h1 : ix < n) (hcs : cs ≠ []) : Still P o fr s (.eptr cs (ix.toNat * size)) := fun M G w a hS hf => by
    have hv := (hf.eval x).1
    have hu := (hf.eval y).1
    rw [hx] at hv
    rw [hy] at hu
    simp only [VR0] at hv hu
    obtain ⟨A, cap, e1, e2, e3, e4⟩ := hv
    rcases e4 with e4 | ⟨b, ob, vs, rfl, e5, e6, e7⟩
    · exact absurd e4 hcs
    · obtain ⟨h2, i, h3, h4, h5⟩ := aElem_spec he
      refine ⟨.pointer (some ⟨b, ob + ix.toNat * size, none⟩), ?_, by simp only [VR0]; exact ⟨b, ob, vs, rfl, e5, e6, e7⟩, OwnC.of_plain rfl⟩
      simp [execOp, ho, e1, hu, Instr.indexAt, asIntOf, run_underlying h2, h0, h1, run_sizeOf h3, h4, Addr_add]
theorem Step_len {c : Call} {x : Operand} {t : TypeId} {e : TypeId} {cs : List AV} {n : Nat} {g : Tag} (ho : o.op = .call c) (hc : c.callee = .builtin .len) (ha : c.args = #[x]) (ht : c.argTypes[0]? = some t) (hu : P.underlying t = some (.slice e)) (hx : aEval fr x = .list cs n g) : Still P o fr s (.int .i64 n) := fun M G w a hS hf => by
    have hv := (hf.eval x).1
    rw [hx] at hv
    simp only [VR0] at hv
    obtain ⟨A, cap, e1, e2, e3, e4⟩ := hv
    refine ⟨.int .i64 n, ?_, by simp only [VR0], OwnC.of_plain rfl⟩
    simp [execOp, ho, resolve, hc, ha, invoke, builtin, Builtin.len_, ht, run_underlying hu, e1, goInt]
theorem Step_extract {x : Operand} {k : Nat} {vs : List AV} {v : AV} (ho : o.op = .extract x k) (hx : aEval fr x = .tuple vs) (hv : vs[k]? = some v) : Still P o fr s v.plain := fun M G w a hS hf => by
    have hv' := (hf.eval x).1
    rw [hx] at hv'
    simp only [VR0] at hv'
    obtain ⟨us, h1, h2⟩ := hv'
    obtain ⟨u, h3, h4⟩ := h2.get k v hv
    exact ⟨u, by simp [execOp, ho, h1, Instr.extract, h3], h4.plain, OwnC.of_plain v.mark_plain⟩
theorem Step_nilCheck {x : Operand} (ho : o.op = .nilCheck x) (hx : match aEval fr x with | .ref .. | .eptr .. => True | _ => False) : Still P o fr s (aEval fr x) := fun M G w a hS hf => by
    have hv := hf.eval x
    refine ⟨a.eval x, ?_, hv⟩
    have hv0 := hv.1
    cases hh : aEval fr x with
    | ref i k => rw [hh] at hv0; simp only [VR0] at hv0; simp [execOp, ho, hv0.1]
    | eptr cs k =>
      rw [hh] at hv0
      simp only [VR0] at hv0
      obtain ⟨b, ob, vs, h1, _⟩ := hv0
      simp [execOp, ho, h1]
    | _ => rw [hh] at hx; exact hx.elim
theorem Step_makeFunc {fn : Fn} {captured : Array Operand} (ho : o.op = .makeFunc fn #[] captured) : Still P o fr s (.func fn (captured.toList.map fun x => (aEval fr x).plain)) := fun M G w a hS hf => by
    refine ⟨.func fn #[] (captured.map a.eval), by simp [execOp, ho, Instr.makeFunc], ?_, OwnC.of_plain rfl⟩
    simp only [VR0]
    refine ⟨(captured.map a.eval).toList, rfl, ?_⟩
    rw [Array.toList_map]
    have : ∀ l : List Operand, VRs0 G w (l.map fun x => (aEval fr x).plain) (l.map a.eval) := by
      intro l
      induction l with
      | nil => simp only [List.map_nil, VRs0]
      | cons y l ih => simp only [List.map_cons, VRs0]; exact ⟨_, _, rfl, (hf.eval y).1.plain, ih⟩
    exact this _
end
end Go.Proofs.Ytgicljncknbgcaa.Abs
