/- The next operation, told by a function; code, by a predicate that unfolds. -/
import Derived.Test.YtgicljncknbgcaaAH
import Derived.Laws.StructEq
namespace Go.Proofs.Ytgicljncknbgcaa.Abs
open Go Go.ChangeShapes Go.WideShapes Go.ChangeAt Go.RowKit
set_option linter.unusedVariables false
set_option linter.unusedSimpArgs false

def iBits (op : BinOp) (k : IntKind) (x y : Int) : Int := k.wrap ((match op with
  | .and => BitVec.ofInt k.bits x &&& BitVec.ofInt k.bits y
  | .or => BitVec.ofInt k.bits x ||| BitVec.ofInt k.bits y
  | .xor => BitVec.ofInt k.bits x ^^^ BitVec.ofInt k.bits y
  | _ => BitVec.ofInt k.bits x &&& ~~~(BitVec.ofInt k.bits y)).toNat : Nat)
def iShl (k : IntKind) (x y : Int) : Int := k.wrap (x * 2 ^ (min y.toNat k.bits))
def iShr (k : IntKind) (x y : Int) : Int := x.fdiv (2 ^ (min y.toNat k.bits))
def iMax (x y : Int) : Int := if y > x then y else x
def iMin (x y : Int) : Int := if y < x then y else x
/-- two numbers of one kind -/
def aIntOp (op : BinOp) (k : IntKind) (a b : Int) : Option AV :=
  match op with
  | .add => some (.int k (k.wrap (a + b)))
  | .sub => some (.int k (k.wrap (a - b)))
  | .mul => some (.int k (k.wrap (a * b)))
  | .quo => if b = 0 then none else some (.int k (k.wrap (a.tdiv b)))
  | .rem => if b = 0 then none else some (.int k (a.tmod b))
  | .eql => some (.bool (a == b))
  | .neq => some (.bool (a != b))
  | .lss => some (.bool (decide (a < b)))
  | .leq => some (.bool (decide (a ≤ b)))
  | .gtr => some (.bool (decide (a > b)))
  | .geq => some (.bool (decide (a ≥ b)))
  | .and => some (.int k (iBits .and k a b))
  | .or => some (.int k (iBits .or k a b))
  | .xor => some (.int k (iBits .xor k a b))
  | _ => none
/-- shifts: the other number may be of any kind -/
def aShift (op : BinOp) (k : IntKind) (a b : Int) : Option AV :=
  match op with
  | .shl => if b < 0 then none else some (.int k (iShl k a b))
  | .shr => if b < 0 then none else some (.int k (iShr k a b))
  | _ => none
def aStrOp (op : BinOp) (a b : List UInt8) : Option AV :=
  match op with
  | .add => if a.length + b.length ≤ 9223372036854775807 then some (.str (a ++ b)) else none
  | .eql => some (.bool (a == b))
  | .neq => some (.bool (!(a == b)))
  | .lss => some (.bool (Op.bytesLess a b))
  | .leq => some (.bool (Op.bytesLess a b || a == b))
  | .gtr => some (.bool (!(Op.bytesLess a b || a == b)))
  | .geq => some (.bool (!(Op.bytesLess a b)))
  | _ => none
/-- of structs: the fields, one by one -/
def aEqF (P : Program) (f : TypeId → List AV → List AV → Option Bool) : List Field → List AV → List AV → Option Bool
  | [], _, _ => some true
  | g :: gs, cs, ds => if g.name ≠ "_" then
      match P.info? g.type with
      | some i => match f g.type ((cs.drop g.offset).take i.size) ((ds.drop g.offset).take i.size) with
        | some a => match aEqF P f gs cs ds with
          | some b => some (a && b)
          | none => none
        | none => none
      | none => none
    else aEqF P f gs cs ds
def aEq1 : AV → AV → Option Bool
  | .int k a, .int k' b => if k = k' then some (a == b) else none
  | .bool a, .bool b => some (a == b)
  | .str a, .str b => some (a == b)
  | _, _ => none
def aEqT (P : Program) : Nat → TypeId → List AV → List AV → Option Bool
  | 0, _, _, _ => none
  | d + 1, t, cs, ds => match P.underlying t with
    | some (.struct fs) => if P.stoodInHeld t = true then none else aEqF P (aEqT P d) fs.toList cs ds
    | some .bool => match cs, ds with
      | [.bool a], [.bool b] => aEq1 (.bool a) (.bool b)
      | _, _ => none
    | some (.int _) => match cs, ds with
      | [.int k a], [.int k' b] => aEq1 (.int k a) (.int k' b)
      | _, _ => none
    | some .string => match cs, ds with
      | [.str a], [.str b] => aEq1 (.str a) (.str b)
      | _, _ => none
    | _ => none
/-- two values -/
def aBin (P : Program) (t : TypeId) (op : BinOp) (x y : AV) : Option AV :=
  match x, y with
  | .int k a, .int k' b => match aShift op k a b with
    | some v => some v
    | none => if k = k' then aIntOp op k a b else none
  | .str a, .str b => aStrOp op a b
  | .bool a, .bool b => match P.underlying t, op with
    | some .bool, .eql => some (.bool (a == b))
    | some .bool, .neq => some (.bool (!(a == b)))
    | _, _ => none
  | .nilp, .nilp => match P.underlying t, op with
    | some (.pointer _), .eql => some (.bool true)
    | some (.pointer _), .neq => some (.bool false)
    | _, _ => none
  | .ref _ _, .nilp => match P.underlying t, op with
    | some (.pointer _), .eql => some (.bool false)
    | some (.pointer _), .neq => some (.bool true)
    | _, _ => none
  | .agg cs, .agg ds => match P.underlying t with
    | some (.struct _) => if P.eqGuardType P.depth t = false then
        match op with
        | .eql => (aEqT P 20 t cs ds).map .bool
        | .neq => (aEqT P 20 t cs ds).map fun b => .bool (!b)
        | _ => none
      else none
    | _ => none
  | _, _ => none
def aUn (op : UnOp) (x : AV) : Option AV :=
  match op, x with
  | .neg, .int k n => some (.int k (k.wrap (0 - n)))
  | .not, .bool b => some (.bool (!b))
  | _, _ => none
def byteOfI : AV → Option UInt8
  | .int .u8 n => some (UInt8.ofNat n.toNat)
  | _ => none
def aConv (P : Program) (src dst : TypeId) (x : AV) : Option AV :=
  match x with
  | .str b => match P.underlying src, P.underlying dst with
    | some .string, some .string => some (.str b)
    | _, _ => none
  | .list cs n _ => match P.underlying src, P.underlying dst with
    | some (.slice e), some .string => match P.underlying e with
      | some (.int .u8) => if cs.length = n then (cs.mapM byteOfI).map .str else none
      | _ => none
    | _, _ => none
  | .int _ n => match P.underlying src, P.underlying dst with
    | some _, some (.int k) => some (.int k (k.wrap n))
    | _, _ => none
  | _ => none
def aIndexAddr (P : Program) (t : TypeId) (x y : AV) : Option AV :=
  match x, y with
  | .list cs n _, .int _ ix => match aElem P t with
    | some (_, size) => if 0 ≤ ix ∧ ix < n ∧ cs.isEmpty = false then some (.eptr cs (ix.toNat * size)) else none
    | none => none
  | .arr i n, .int _ ix => match aElem P t with
    | some (_, size) => if 0 ≤ ix ∧ ix < n then some (.ref i (ix.toNat * size)) else none
    | none => none
  | _, _ => none
def aIndex (P : Program) (t : TypeId) (x y : AV) : Option AV :=
  match x, y with
  | .str l, .int _ ix => match P.underlying t with
    | some .string => if 0 ≤ ix then (l[ix.toNat]?).map fun b => .int .u8 (b.toNat : Int) else none
    | _ => none
  | _, _ => none
def aSlice (P : Program) (fr : List AV) (t : TypeId) (x : Operand) (lo hi : Option Operand) : Option AV :=
  match aEval fr x with
  | .list cs n g => match aElem P t, aBound fr 0 lo, aBound fr n hi with
    | some (_, size), some l, some h => if l ≤ h ∧ h ≤ n then some (.list ((cs.take (h * size)).drop (l * size)) (h - l) (if g = .full ∧ h = n then .full else .unk)) else none
    | _, _, _ => none
  | .str b => match P.underlying t, aBound fr 0 lo, aBound fr b.length hi with
    | some .string, some l, some h => if l ≤ h ∧ h ≤ b.length then some (.str ((b.take h).drop l)) else none
    | _, _, _ => none
  | _ => none
def aFieldAddr (P : Program) (t : TypeId) (x : AV) (f : Nat) : Option AV :=
  match x with
  | .ref i k => (aField P t f).map fun r => .ref i (k + r.1)
  | .eptr cs k => (aField P t f).map fun r => .eptr cs (k + r.1)
  | _ => none
def aLoadAt (P : Program) (s : List Ob) (t : TypeId) (x : AV) : Option AV :=
  match x with
  | .ref i k => match s[i]? with
    | some ob => if ob.live then aLoad P t ob.cs k else none
    | none => none
  | .eptr cs k => (aLoad P t cs k).map AV.plain
  | _ => none
def aStoreAt (P : Program) (s : List Ob) (t : TypeId) (x y : AV) : Option (List Ob) :=
  match x with
  | .ref i k => match s[i]? with
    | some ob => if ob.live then match aCells y with
        | some new => (aStore P t ob.cs k new).map fun cs' => s.set i { ob with cs := cs' }
        | none => none
      else none
    | none => none
  | _ => none
def aLen (P : Program) (t : TypeId) (x : AV) : Option AV :=
  match x with
  | .list _ n _ => match P.underlying t with
    | some (.slice _) => some (.int .i64 n)
    | _ => none
  | .arr _ n => match P.underlying t with
    | some (.slice _) => some (.int .i64 n)
    | _ => none
  | .str b => match P.underlying t with
    | some .string => some (.int .i64 b.length)
    | _ => none
  | _ => none
/-- append: the frame, what it tells, the store -/
def aAppend (P : Program) (d : Nat) (fr : List AV) (s : List Ob) (t : TypeId) (x y : AV) : Option (List AV × AV × List Ob) :=
  match y with
  | .list cs2 m _ =>
    match aElem P t with
    | none => none
    | some (e, size) =>
      match x with
      | .list cs n g =>
        if m = 0 ∧ cs2.isEmpty = true then some (fr, x, s)
        else if 0 < m ∧ cs2.length = m * size ∧ cs2.all AV.one = true ∧ fitsB P e size (n + m) = true then
          match g with
          | .full => if cs.length = n * size then some (fr, .list (cs ++ cs2) (n + m) (.own d e size), s) else none
          | .own t0 e' size' => if e' = e ∧ size' = size then some (clearMarks [t0] fr, .list (cs ++ cs2) (n + m) (.own d e size), clearStore [t0] s) else none
          | .unk => none
        else none
      | _ => none
  | _ => none
/-- an operation that turns nothing but, maybe, makes a block of no object -/
def aPureV (P : Program) (fr : List AV) (s : List Ob) (o : Oper) : Option AV :=
  match o.op with
  | .move x => some (aEval fr x)
  | .assign x => some (aEval fr x)
  | .pick c x y => match aEval fr c with
    | .bool b => some (if b then aEval fr x else aEval fr y)
    | _ => none
  | .build t parts => aBuild P t (aParts fr parts)
  | .buildSlice t n parts => aBuildSlice P t n (aParts fr parts)
  | .load t x => aLoadAt P s t (aEval fr x)
  | .nilCheck x => match aEval fr x with
    | .ref i k => some (.ref i k)
    | .eptr cs k => some (.eptr cs k)
    | _ => none
  | .binOp op t x y _ => aBin P t op (aEval fr x) (aEval fr y)
  | .unOp op _ x => aUn op (aEval fr x)
  | .convert src dst x => aConv P src dst (aEval fr x)
  | .makeFunc fn first captured => if first.size = 0 then some (.func fn (captured.toList.map fun x => (aEval fr x).plain)) else none
  | .slice t x lo hi none => aSlice P fr t x lo hi
  | .fieldAddr t x f => aFieldAddr P t (aEval fr x) f
  | .indexAddr t x y => aIndexAddr P t (aEval fr x) (aEval fr y)
  | .index t x y => aIndex P t (aEval fr x) (aEval fr y)
  | .extract x k => match aEval fr x with
    | .tuple vs => (vs[k]?).map AV.plain
    | _ => none
  | .call c => match c.callee with
    | .builtin .len => match c.args.toList, c.argTypes.toList with
      | [x], [t] => aLen P t (aEval fr x)
      | _, _ => none
    | .builtin .max => match c.args.toList with
      | [x, y] => match aEval fr x, aEval fr y with
        | .int k a, .int _ b => some (.int k (iMax a b))
        | _, _ => none
      | _ => none
    | .builtin .min => match c.args.toList with
      | [x, y] => match aEval fr x, aEval fr y with
        | .int k a, .int _ b => some (.int k (iMin a b))
        | _, _ => none
      | _ => none
    | _ => none
  | _ => none
/-- an operation: the frame, what it tells, the store -/
def aDet (P : Program) (tb : Nat) (fr : List AV) (s : List Ob) (o : Oper) : Option (List AV × AV × List Ob) :=
  match aPureV P fr s o with
  | some v => some (fr, v, s)
  | none =>
    match o.op with
    | .alloc t => (zeroCells P t).map fun cs => (fr, .ref s.length 0, s ++ [⟨cs, t, true⟩])
    | .box t x => (aCells (aEval fr x)).map fun cs => (fr, .ref s.length 0, s ++ [⟨cs, t, true⟩])
    | .store t x y => (aStoreAt P s t (aEval fr x) (aEval fr y)).map fun s' => (fr, .tuple [], s')
    | .call c => match c.callee with
      | .builtin .append => match c.args.toList, c.argTypes.toList with
        | [x, y], [t, t'] => if t = t' then aAppend P (tb + o.dst.getD 0) fr s t (aEval fr x) (aEval fr y) else none
        | _, _ => none
      | _ => none
    | _ => none

theorem opt_map {α β : Type} {x : Option α} {f : α → β} {r : β} (h : x.map f = some r) : ∃ v, x = some v ∧ f v = r := by
  cases x with
  | none => cases h
  | some v => exact ⟨v, rfl, by simpa using h⟩
/-- a value of a type, and its cells -/
def isOf (P : Program) (t : TypeId) (x : Value) (vs : List Value) : Prop := match P.underlying t with
  | some (.struct _) => x = .agg vs.toArray
  | some (.array _ _) => True
  | _ => vs = [x]
theorem isOf_part {P : Program} {w : World} {e : TypeId} {i : TypeInfo} {xs : List Value} {off : Nat} (hi : P.info? e = some i) (hs : (∃ fs, P.underlying e = some (.struct fs)) ∨ ∃ v, (xs.drop off).take i.size = [v] ∧ (P.underlying e = some .bool ∨ (∃ k, P.underlying e = some (.int k)) ∨ P.underlying e = some .string)) :
    ∃ x, (part e xs.toArray off).run P w = .ok x w ∧ isOf P e x ((xs.drop off).take i.size) := by
  have hsz : (Go.sizeOf e).run P w = .ok i.size w := by simp [Go.sizeOf, typeInfo, hi]
  rcases hs with ⟨fs, hu⟩ | ⟨v, hv, hu⟩
  · refine ⟨.agg ((xs.drop off).take i.size).toArray, ?_, by unfold isOf; rw [hu]⟩
    simp only [part, isAgg, Sem.run_bind, run_underlying hu, Result.andThen_ok, Sem.run_pure, if_true, hsz]
    congr 3
    apply Array.ext'
    rw [Array.toList_extract]
    simp [List.extract]
  · have hx : xs[off]? = some v := by
      have : ((xs.drop off).take i.size)[0]? = some v := by rw [hv]; rfl
      rw [List.getElem?_take] at this
      split at this
      · rw [List.getElem?_drop] at this; simpa using this
      · cases this
    have hno : (isAgg e).run P w = .ok false w := by
      rcases hu with hu | ⟨k, hu⟩ | hu <;> simp [isAgg, run_underlying hu]
    refine ⟨v, ?_, ?_⟩
    · simp [part, hno, hx]
    · unfold isOf
      rcases hu with hu | ⟨k, hu⟩ | hu <;> rw [hu] <;> exact hv
theorem aEqT_len {P : Program} {d : Nat} {t : TypeId} {cs ds : List AV} {r : Bool} (h : aEqT P d t cs ds = some r) : (∃ fs, P.underlying t = some (.struct fs)) ∨ ((∃ a b, cs = [a] ∧ ds = [b]) ∧ (P.underlying t = some .bool ∨ (∃ k, P.underlying t = some (.int k)) ∨ P.underlying t = some .string)) := by
  cases d with
  | zero => cases h
  | succ d =>
    unfold aEqT at h
    split at h
    · rename_i fs hu; exact .inl ⟨fs, hu⟩
    · rename_i hu
      split at h
      · exact .inr ⟨⟨_, _, rfl, rfl⟩, .inl hu⟩
      · cases h
    · rename_i k hu
      split at h
      · exact .inr ⟨⟨_, _, rfl, rfl⟩, .inr (.inl ⟨k, hu⟩)⟩
      · cases h
    · rename_i hu
      split at h
      · exact .inr ⟨⟨_, _, rfl, rfl⟩, .inr (.inr hu)⟩
      · cases h
    · cases h
theorem aEqF_run {P : Program} {G : Gh} {w : World} {D : Nat} {f : TypeId → List AV → List AV → Option Bool}
    (hlen : ∀ t cs ds r, f t cs ds = some r → (∃ fs, P.underlying t = some (.struct fs)) ∨ ((∃ a b, cs = [a] ∧ ds = [b]) ∧ (P.underlying t = some .bool ∨ (∃ k, P.underlying t = some (.int k)) ∨ P.underlying t = some .string)))
    (hf : ∀ t cs ds r, f t cs ds = some r → ∀ x y vs us, isOf P t x vs → isOf P t y us → VRs0 G w cs vs → VRs0 G w ds us → (Op.equalIn D t x y).run P w = .ok r w) :
    ∀ (gs : List Field) (cs ds : List AV) (vs us : List Value) (r : Bool), aEqF P f gs cs ds = some r → VRs0 G w cs vs → VRs0 G w ds us → (Op.eqFields D vs.toArray us.toArray gs).run P w = .ok r w
  | [], cs, ds, vs, us, r, h, h1, h2 => by simp only [aEqF, Option.some.injEq] at h; subst h; simp [Op.eqFields]
  | g :: gs, cs, ds, vs, us, r, h, h1, h2 => by
    simp only [aEqF] at h
    split at h
    · rename_i hn
      split at h
      · rename_i i hi
        split at h
        · rename_i a ha
          split at h
          · rename_i b hb
            cases h
            have ih := aEqF_run hlen hf gs cs ds vs us b hb h1 h2
            have hd1 := (h1.drop g.offset).take i.size
            have hd2 := (h2.drop g.offset).take i.size
            have one : ∀ {l : List AV} {m : List Value} {c : AV}, VRs0 G w l m → l = [c] → ∃ v, m = [v] := by
              intro l m c hl e
              subst e
              simp only [VRs0] at hl
              obtain ⟨v, vs', rfl, _, rfl⟩ := hl
              exact ⟨v, rfl⟩
            obtain ⟨x, p1, q1⟩ := isOf_part (w := w) (xs := vs) (off := g.offset) hi (by
              rcases hlen _ _ _ _ ha with h | ⟨⟨c1, c2, e1, e2⟩, hk⟩
              · exact .inl h
              · obtain ⟨v, hv⟩ := one hd1 e1
                exact .inr ⟨v, hv, hk⟩)
            obtain ⟨y, p2, q2⟩ := isOf_part (w := w) (xs := us) (off := g.offset) hi (by
              rcases hlen _ _ _ _ ha with h | ⟨⟨c1, c2, e1, e2⟩, hk⟩
              · exact .inl h
              · obtain ⟨v, hv⟩ := one hd2 e2
                exact .inr ⟨v, hv, hk⟩)
            have hr := hf _ _ _ _ ha x y _ _ q1 q2 hd1 hd2
            simp only [Op.eqFields, if_pos hn, Sem.run_bind, p1, p2, hr, Result.andThen_ok]
            cases a with
            | false => simp
            | true => simpa using ih
          · cases h
        · cases h
      · cases h
    · rename_i hn
      simp only [Op.eqFields, if_neg hn]
      exact aEqF_run hlen hf gs cs ds vs us r h h1 h2
theorem aEqT_run {P : Program} {G : Gh} {w : World} : ∀ (d : Nat) (t : TypeId) (cs ds : List AV) (r : Bool), aEqT P d t cs ds = some r → ∀ D, ∀ x y vs us, isOf P t x vs → isOf P t y us → VRs0 G w cs vs → VRs0 G w ds us → (Op.equalIn (d + D) t x y).run P w = .ok r w
  | 0, _, _, _, _, h => by cases h
  | d + 1, t, cs, ds, r, h => by
    intro D x y vs us hx hy h1 h2
    rw [show d + 1 + D = (d + D) + 1 by omega]
    have h0 := h
    unfold aEqT at h
    unfold isOf at hx hy
    have one : ∀ {m : List Value} {c : AV}, VRs0 G w [c] m → ∃ v, m = [v] ∧ VR0 G w c v := by
      intro m c hl
      simp only [VRs0] at hl
      obtain ⟨v, vs', rfl, hv, rfl⟩ := hl
      exact ⟨v, rfl, hv⟩
    split at h
    · rename_i fs hu
      simp only [hu] at hx hy
      subst hx
      subst hy
      split at h
      · cases h
      · rename_i hst
        have hfs : P.fieldsOf t = fs := by unfold Program.fieldsOf; rw [hu]
        rw [run_equalIn_struct w (d + D) t vs.toArray us.toArray (by rw [hfs, hu]) (by simpa using hst), hfs]
        exact aEqF_run (fun t cs ds r h => aEqT_len h) (fun t cs ds r h x y vs us => aEqT_run d t cs ds r h D x y vs us) fs.toList cs ds vs us r h h1 h2
    · rename_i hu
      simp only [hu] at hx hy
      split at h
      · obtain ⟨v, e1, hv⟩ := one h1
        obtain ⟨u, e2, hv2⟩ := one h2
        rw [hx] at e1
        rw [hy] at e2
        cases e1
        cases e2
        simp only [VR0] at hv hv2
        simp only [aEq1, Option.some.injEq] at h
        rw [hv, hv2, ← h]
        exact run_equalIn_bool w (d + D) t _ _ hu
      · cases h
    · rename_i k hu
      simp only [hu] at hx hy
      split at h
      · obtain ⟨v, e1, hv⟩ := one h1
        obtain ⟨u, e2, hv2⟩ := one h2
        rw [hx] at e1
        rw [hy] at e2
        cases e1
        cases e2
        simp only [VR0] at hv hv2
        simp only [aEq1] at h
        split at h
        · rename_i hk
          subst hk
          cases h
          rw [hv, hv2]
          exact run_equalIn_int w (d + D) t _ _ _ _ hu
        · cases h
      · cases h
    · rename_i hu
      simp only [hu] at hx hy
      split at h
      · obtain ⟨v, e1, hv⟩ := one h1
        obtain ⟨u, e2, hv2⟩ := one h2
        rw [hx] at e1
        rw [hy] at e2
        cases e1
        cases e2
        simp only [VR0] at hv hv2
        simp only [aEq1, Option.some.injEq] at h
        rw [hv, hv2, ← h, run_equalIn_string w (d + D) t _ _ hu, ByteArray.toList_mk, ByteArray.toList_mk]
      · cases h
    · cases h
theorem run_bytesEq (a b : List UInt8) : (ByteArray.mk a.toArray).toList = a := ByteArray.toList_mk a
section
variable {P : Program} {o : Oper} {fr : List AV} {s : List Ob}
theorem run_equal_bool {t : TypeId} (w : World) (a b : Bool) (hu : P.underlying t = some .bool) : (Op.equal t (.bool a) (.bool b)).run P w = .ok (a == b) w := by
  have h : ∀ d, (Op.equalIn (d + 1) t (.bool a) (.bool b)).run P w = .ok (a == b) w := fun d => by simp [Op.equalIn, run_underlying hu]
  exact h 9999
theorem run_equal_nil {t e : TypeId} (w : World) (a : Option Addr) (hu : P.underlying t = some (.pointer e)) : (Op.equal t (.pointer a) (.pointer none)).run P w = .ok a.isNone w := by
  have h : ∀ d, (Op.equalIn (d + 1) t (.pointer a) (.pointer none)).run P w = .ok a.isNone w := fun d => by cases a <;> simp [Op.equalIn, run_underlying hu]
  exact h 9999
theorem Step_bin {op : BinOp} {t ty : TypeId} {x y : Operand} {v : AV} (ho : o.op = .binOp op t x y ty) (h : aBin P t op (aEval fr x) (aEval fr y) = some v) : Still P o fr s v := fun M G w a hS hf => by
    have hx := (hf.eval x).1
    have hy := (hf.eval y).1
    unfold aBin at h
    split at h
    · rename_i k p k' q ex ey
      rw [ex] at hx
      rw [ey] at hy
      simp only [VR0] at hx hy
      split at h
      · rename_i u hsh
        cases h
        unfold aShift at hsh
        split at hsh
        · split at hsh
          · cases hsh
          · rename_i hn
            cases hsh
            exact ⟨_, by simp [execOp, ho, hx, hy, eqGuard_at_int, binOp, Op.shift, hn]; rfl, by simp only [VR0]; rfl, OwnC.of_plain rfl⟩
        · split at hsh
          · cases hsh
          · rename_i hn
            cases hsh
            exact ⟨_, by simp [execOp, ho, hx, hy, eqGuard_at_int, binOp, Op.shift, hn]; rfl, by simp only [VR0]; rfl, OwnC.of_plain rfl⟩
        · cases hsh
      split at h
      case isFalse => cases h
      rename_i hk
      subst hk
      unfold aIntOp at h
      split at h
      case h_4 =>
        split at h
        · cases h
        · rename_i hq
          cases h
          exact ⟨_, by simp [execOp, ho, hx, hy, eqGuard_at_int, binOp_quo, Op.intDiv, hq]; rfl, by simp only [VR0], OwnC.of_plain rfl⟩
      case h_5 =>
        split at h
        · cases h
        · rename_i hq
          cases h
          exact ⟨_, by simp [execOp, ho, hx, hy, eqGuard_at_int, binOp_rem, Op.intDiv, hq]; rfl, by simp only [VR0], OwnC.of_plain rfl⟩
      case h_12 => cases h; exact ⟨_, by simp [execOp, ho, hx, hy, eqGuard_at_int, binOp, Op.intBits]; rfl, by simp only [VR0]; rfl, OwnC.of_plain rfl⟩
      case h_13 => cases h; exact ⟨_, by simp [execOp, ho, hx, hy, eqGuard_at_int, binOp, Op.intBits]; rfl, by simp only [VR0]; rfl, OwnC.of_plain rfl⟩
      case h_14 => cases h; exact ⟨_, by simp [execOp, ho, hx, hy, eqGuard_at_int, binOp, Op.intBits]; rfl, by simp only [VR0]; rfl, OwnC.of_plain rfl⟩
      case h_15 => cases h
      all_goals
        cases h
        exact ⟨_, by simp [execOp, ho, hx, hy, eqGuard_at_int, binOp, Op.intArith, Op.intCmp]; rfl, by simp only [VR0], OwnC.of_plain rfl⟩
    · rename_i p q ex ey
      rw [ex] at hx
      rw [ey] at hy
      simp only [VR0] at hx hy
      unfold aStrOp at h
      split at h
      case h_1 =>
        split at h
        · rename_i hq
          cases h
          have hs : ¬ ((((ByteArray.mk p.toArray).size + (ByteArray.mk q.toArray).size : Nat) : Int) > IntKind.i64.max) := by
            have e1 : (ByteArray.mk p.toArray).size = p.length := by simp [ByteArray.size]
            have e2 : (ByteArray.mk q.toArray).size = q.length := by simp [ByteArray.size]
            rw [e1, e2]
            have e3 : IntKind.i64.max = 9223372036854775807 := by decide
            rw [e3]
            omega
          refine ⟨.string ((ByteArray.mk p.toArray) ++ (ByteArray.mk q.toArray)), ?_, ?_, OwnC.of_plain rfl⟩
          · simp only [execOp, ho, hx, hy, eqGuard_at_string, binOp, Op.stringOp, Sem.run_bind, Sem.run_pure, Result.andThen_ok, if_neg hs]
          · simp only [VR0, Value.string.injEq]
            apply ByteArray.ext
            simp [ByteArray.data_append]
        · cases h
      case h_8 => cases h
      all_goals
        cases h
        exact ⟨_, by simp only [execOp, ho, hx, hy, eqGuard_at_string, binOp, Op.stringOp, Sem.run_bind, Sem.run_pure, Result.andThen_ok, ByteArray.toList_mk]; rfl, by simp only [VR0], OwnC.of_plain rfl⟩
    · rename_i p q ex ey
      rw [ex] at hx
      rw [ey] at hy
      simp only [VR0] at hx hy
      split at h
      · rename_i hu
        cases h
        exact ⟨_, by simp [execOp, ho, hx, hy, eqGuard_at_bool, binOp, run_equal_bool _ _ _ hu]; rfl, by simp only [VR0], OwnC.of_plain rfl⟩
      · rename_i hu
        cases h
        exact ⟨_, by simp [execOp, ho, hx, hy, eqGuard_at_bool, binOp, run_equal_bool _ _ _ hu]; rfl, by simp only [VR0], OwnC.of_plain rfl⟩
      · cases h
    · rename_i ex ey
      rw [ex] at hx
      rw [ey] at hy
      simp only [VR0] at hx hy
      split at h
      · rename_i hu
        cases h
        exact ⟨_, by simp [execOp, ho, hx, hy, eqGuard_at_pointer, binOp, run_equal_nil _ _ hu]; rfl, by simp only [VR0], OwnC.of_plain rfl⟩
      · rename_i hu
        cases h
        exact ⟨_, by simp [execOp, ho, hx, hy, eqGuard_at_pointer, binOp, run_equal_nil _ _ hu]; rfl, by simp only [VR0], OwnC.of_plain rfl⟩
      · cases h
    · rename_i i k ex ey
      rw [ex] at hx
      rw [ey] at hy
      simp only [VR0] at hx hy
      split at h
      · rename_i hu
        cases h
        exact ⟨_, by simp [execOp, ho, hx.1, hy, eqGuard_at_pointer, binOp, run_equal_nil _ _ hu]; rfl, by simp only [VR0], OwnC.of_plain rfl⟩
      · rename_i hu
        cases h
        exact ⟨_, by simp [execOp, ho, hx.1, hy, eqGuard_at_pointer, binOp, run_equal_nil _ _ hu]; rfl, by simp only [VR0], OwnC.of_plain rfl⟩
      · cases h
    · rename_i cs ds ex ey
      rw [ex] at hx
      rw [ey] at hy
      simp only [VR0] at hx hy
      obtain ⟨vs, hx, hvs⟩ := hx
      obtain ⟨us, hy, hus⟩ := hy
      split at h
      case h_2 => cases h
      rename_i fs hu
      split at h
      case isFalse => cases h
      rename_i hgd
      have run : ∀ r, aEqT P 20 t cs ds = some r → (Op.equalIn 10000 t (.agg vs.toArray) (.agg us.toArray)).run P w = .ok r w := by
        intro r hr
        exact aEqT_run (G := G) 20 t cs ds r hr 9980 _ _ vs us (by unfold isOf; rw [hu]) (by unfold isOf; rw [hu]) hvs hus
      split at h
      · obtain ⟨r, hr, rfl⟩ := opt_map h
        refine ⟨.bool r, ?_, by simp only [VR0], OwnC.of_plain rfl⟩
        simp only [execOp, ho, hx, hy, Sem.run_bind, run_eqGuard_agg w _ _ _ _ _ _ hgd, Result.andThen_ok, run_eql_struct, run r hr, Sem.run_pure]
      · obtain ⟨r, hr, rfl⟩ := opt_map h
        refine ⟨.bool (!r), ?_, by simp only [VR0], OwnC.of_plain rfl⟩
        simp only [execOp, ho, hx, hy, Sem.run_bind, run_eqGuard_agg w _ _ _ _ _ _ hgd, Result.andThen_ok, run_neq_struct, run r hr, Sem.run_pure]
      · cases h
    · cases h
theorem Step_un {op : UnOp} {t : TypeId} {x : Operand} {v : AV} (ho : o.op = .unOp op t x) (h : aUn op (aEval fr x) = some v) : Still P o fr s v := fun M G w a hS hf => by
    have hx := (hf.eval x).1
    unfold aUn at h
    split at h
    · rename_i k n ex
      rw [ex] at hx
      simp only [VR0] at hx
      cases h
      exact ⟨_, by simp [execOp, ho, hx, Op.unary, Op.intArith]; rfl, by simp only [VR0, Int.zero_sub], OwnC.of_plain rfl⟩
    · rename_i b ex
      rw [ex] at hx
      simp only [VR0] at hx
      cases h
      exact ⟨_, by simp [execOp, ho, hx, Op.unary]; rfl, by simp only [VR0], OwnC.of_plain rfl⟩
    · cases h
theorem byteOf_all {G : Gh} {w : World} : ∀ {cs : List AV} {vs : List Value} {l : List UInt8}, cs.mapM byteOfI = some l → VRs0 G w cs vs → ∃ ns : List Int, vs = ns.map (Value.int .u8) ∧ l = ns.map fun n => UInt8.ofNat n.toNat
  | [], vs, l, h, hv => by simp at h; simp only [VRs0] at hv; exact ⟨[], by simpa using hv, by simpa using h⟩
  | a :: as, vs, l, h, hv => by
    simp only [VRs0] at hv
    obtain ⟨v, vs1, rfl, h1, h2⟩ := hv
    simp only [List.mapM_cons] at h
    cases k1 : byteOfI a with
    | none => rw [k1] at h; cases h
    | some b =>
      rw [k1] at h
      cases k2 : as.mapM byteOfI with
      | none => rw [k2] at h; cases h
      | some l2 =>
        rw [k2] at h
        simp at h
        subst h
        obtain ⟨ns, e1, e2⟩ := byteOf_all k2 h2
        unfold byteOfI at k1
        split at k1
        · rename_i n
          cases k1
          simp only [VR0] at h1
          exact ⟨n :: ns, by simp [h1, e1], by simp [e2]⟩
        · cases k1
theorem run_bytes {P : Program} {w : World} {f : Value → ByteArray → Sem (ForInStep ByteArray)} (hf : ∀ n s, f (.int .u8 n) s = pure (.yield (s.push (UInt8.ofNat n.toNat)))) : ∀ (ns : List Int) (s : ByteArray), (forIn (ns.map (Value.int .u8)) s f).run P w = .ok ⟨s.data ++ (ns.map fun n => UInt8.ofNat n.toNat).toArray⟩ w
  | [], s => by simp
  | b :: l, s => by
    simp only [List.map_cons, List.forIn_cons, Sem.run_bind, hf, Sem.run_pure, Result.andThen_ok]
    rw [run_bytes hf l]
    congr 1
    apply ByteArray.ext
    simp [ByteArray.push]
theorem Step_conv {src dst : TypeId} {x : Operand} {v : AV} (ho : o.op = .convert src dst x) (h : aConv P src dst (aEval fr x) = some v) : Still P o fr s v := fun M G w a hS hf => by
    have hx := (hf.eval x).1
    unfold aConv at h
    split at h
    · rename_i b ex
      rw [ex] at hx
      simp only [VR0] at hx
      split at h
      · rename_i h1 h2
        cases h
        refine ⟨.string ⟨b.toArray⟩, ?_, by simp only [VR0], OwnC.of_plain rfl⟩
        simp only [execOp, ho, hx, convert, Sem.run_bind, run_underlying h1, run_underlying h2, Result.andThen_ok, Sem.run_pure]
      · cases h
    · rename_i cs n g ex
      rw [ex] at hx
      simp only [VR0] at hx
      split at h
      · rename_i e h1 h2
        split at h
        · rename_i h3
          split at h
          · rename_i hlen
            cases hm : cs.mapM byteOfI with
            | none => rw [hm] at h; cases h
            | some l =>
              rw [hm] at h
              cases h
              obtain ⟨A, cap, e1, e2, e3, e4⟩ := hx
              refine ⟨.string ⟨l.toArray⟩, ?_, by simp only [VR0], OwnC.of_plain rfl⟩
              simp only [execOp, ho, e1, convert, Sem.run_bind, run_underlying h1, run_underlying h2, run_underlying h3, Result.andThen_ok]
              rcases e4 with e4 | ⟨b, ob, vs, rfl, e5, e6, e7⟩
              · subst e4
                simp at hm
                subst hm
                have : n = 0 := by simpa using hlen.symm
                subst this
                cases A with
                | none => simp [Conv.bytesToString]; rfl
                | some ad => simp [Conv.bytesToString, loadCells, loadCellsFrom]; rfl
              · obtain ⟨ns, q1, q2⟩ := byteOf_all hm e7
                have hl : vs.length = n := by rw [e7.length, hlen]
                have hrun := run_loadCells_list (P := P) w ⟨b, ob, none⟩ vs (fun j v hj => by rw [Addr_add]; exact e6 j v hj)
                rw [hl] at hrun
                simp only [Conv.bytesToString, Sem.run_bind, hrun, Result.andThen_ok]
                rw [← Array.forIn_toList]
                rw [show (vs.toArray.toList) = ns.map (Value.int .u8) from q1]
                rw [run_bytes (fun n s => rfl) ns ByteArray.empty]
                simp only [Result.andThen_ok, Sem.run_pure]
                rw [q2]
                congr 3
                apply ByteArray.ext
                show #[] ++ _ = _
                simp
          · cases h
        · cases h
      · cases h
    · rename_i k n ex
      rw [ex] at hx
      simp only [VR0] at hx
      split at h
      · rename_i d k' h1 h2
        cases h
        refine ⟨.int k' (k'.wrap n), ?_, by simp only [VR0], OwnC.of_plain rfl⟩
        simp only [execOp, ho, hx, convert, Sem.run_bind, run_underlying h1, run_underlying h2, Result.andThen_ok, Conv.intToInt, Sem.run_pure]
      · cases h
    · cases h
end
end Go.Proofs.Ytgicljncknbgcaa.Abs
