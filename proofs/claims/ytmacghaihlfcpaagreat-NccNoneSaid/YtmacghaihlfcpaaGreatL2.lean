/- The next operation, told by a function; code, by a predicate that unfolds. -/
import Derived.Test.YtmacghaihlfcpaaGreatL1
import Derived.Laws.StructEq
import Derived.StillTail
namespace Go.Proofs.YtmacghaihlfcpaaGreat.Abs
open Go Go.ChangeShapes Go.WideShapes Go.ChangeAt Go.RowKit
set_option linter.unusedVariables false
set_option linter.unusedSimpArgs false

def iBits (op : BinOp) (k : IntKind) (x y : Int) : Int := k.wrap ((match op with
  | .and => BitVec.ofInt k.bits x &&& BitVec.ofInt k.bits y
  | .or => BitVec.ofInt k.bits x ||| BitVec.ofInt k.bits y
  | .xor => BitVec.ofInt k.bits x ^^^ BitVec.ofInt k.bits y
  | _ => BitVec.ofInt k.bits x &&& ~~~(BitVec.ofInt k.bits y)).toNat : Nat)
def iShl (k : IntKind) (x y : Int) : Int := k.wrap (x * 2 ^ (min y.toNat k.bits))
def iShr (k : IntKind) (x y : Int) : Int := x.fdiv (2 ^ (min y.toNat k.bits))
def iMax (x y : Int) : Int := if y > x then y else x
def iMin (x y : Int) : Int := if y < x then y else x
/-- two numbers of one kind -/
def aIntOp (op : BinOp) (k : IntKind) (a b : Int) : Option AV :=
  match op with
  | .add => some (.int k (k.wrap (a + b)))
  | .sub => some (.int k (k.wrap (a - b)))
  | .mul => some (.int k (k.wrap (a * b)))
  | .quo => if b = 0 then none else some (.int k (k.wrap (a.tdiv b)))
  | .rem => if b = 0 then none else some (.int k (a.tmod b))
  | .eql => some (.bool (a == b))
  | .neq => some (.bool (a != b))
  | .lss => some (.bool (decide (a < b)))
  | .leq => some (.bool (decide (a ≤ b)))
  | .gtr => some (.bool (decide (a > b)))
  | .geq => some (.bool (decide (a ≥ b)))
  | .and => some (.int k (iBits .and k a b))
  | .or => some (.int k (iBits .or k a b))
  | .xor => some (.int k (iBits .xor k a b))
  | _ => none
/-- shifts: the other number may be of any kind -/
def aShift (op : BinOp) (k : IntKind) (a b : Int) : Option AV :=
  match op with
  | .shl => if b < 0 then none else some (.int k (iShl k a b))
  | .shr => if b < 0 then none else some (.int k (iShr k a b))
  | _ => none
def aStrOp (op : BinOp) (a b : List UInt8) : Option AV :=
  match op with
  | .add => if a.length + b.length ≤ 9223372036854775807 then some (.str (a ++ b)) else none
  | .eql => some (.bool (a == b))
  | .neq => some (.bool (!(a == b)))
  | .lss => some (.bool (Op.bytesLess a b))
  | .leq => some (.bool (Op.bytesLess a b || a == b))
  | .gtr => some (.bool (!(Op.bytesLess a b || a == b)))
  | .geq => some (.bool (!(Op.bytesLess a b)))
  | _ => none
/-- of structs: the fields, one by one -/
def aEqF (P : Program) (f : TypeId → List AV → List AV → Option Bool) : List Field → List AV → List AV → Option Bool
  | [], _, _ => some true
  | g :: gs, cs, ds => if g.name ≠ "_" then
      match P.info? g.type with
      | some i => match f g.type ((cs.drop g.offset).take i.size) ((ds.drop g.offset).take i.size) with
        | some a => match aEqF P f gs cs ds with
          | some b => some (a && b)
          | none => none
        | none => none
      | none => none
    else aEqF P f gs cs ds
def aEq1 : AV → AV → Option Bool
  | .int k a, .int k' b => if k = k' then some (a == b) else none
  | .bool a, .bool b => some (a == b)
  | .str a, .str b => some (a == b)
  | _, _ => none
def aEqT (P : Program) : Nat → TypeId → List AV → List AV → Option Bool
  | 0, _, _, _ => none
  | d + 1, t, cs, ds => match P.underlying t with
    | some (.struct fs) => if P.stoodInHeld t = true then none else aEqF P (aEqT P d) fs.toList cs ds
    | some .bool => match cs, ds with
      | [.bool a], [.bool b] => aEq1 (.bool a) (.bool b)
      | _, _ => none
    | some (.int _) => match cs, ds with
      | [.int k a], [.int k' b] => aEq1 (.int k a) (.int k' b)
      | _, _ => none
    | some .string => match cs, ds with
      | [.str a], [.str b] => aEq1 (.str a) (.str b)
      | _, _ => none
    | _ => none
/-- two values -/
def aBin (P : Program) (t : TypeId) (op : BinOp) (x y : AV) : Option AV :=
  match x, y with
  | .int k a, .int k' b => match aShift op k a b with
    | some v => some v
    | none => if k = k' then aIntOp op k a b else none
  | .str a, .str b => aStrOp op a b
  | .bool a, .bool b => match P.underlying t, op with
    | some .bool, .eql => some (.bool (a == b))
    | some .bool, .neq => some (.bool (!(a == b)))
    | _, _ => none
  | .nilp, .nilp => match P.underlying t, op with
    | some (.pointer _), .eql => some (.bool true)
    | some (.pointer _), .neq => some (.bool false)
    | _, _ => none
  | .ref _ _, .nilp => match P.underlying t, op with
    | some (.pointer _), .eql => some (.bool false)
    | some (.pointer _), .neq => some (.bool true)
    | _, _ => none
  | .mapn, .mapn => match P.underlying t, op with
    | some (.map _ _), .eql => some (.bool true)
    | some (.map _ _), .neq => some (.bool false)
    | _, _ => none
  | .mapr _, .mapn => match P.underlying t, op with
    | some (.map _ _), .eql => some (.bool false)
    | some (.map _ _), .neq => some (.bool true)
    | _, _ => none
  | .agg cs, .agg ds => match P.underlying t with
    | some (.struct _) => if P.eqGuardType P.depth t = false then
        match op with
        | .eql => (aEqT P 20 t cs ds).map .bool
        | .neq => (aEqT P 20 t cs ds).map fun b => .bool (!b)
        | _ => none
      else none
    | _ => none
  | _, _ => none
def aUn (op : UnOp) (x : AV) : Option AV :=
  match op, x with
  | .neg, .int k n => some (.int k (k.wrap (0 - n)))
  | .not, .bool b => some (.bool (!b))
  | _, _ => none
def byteOfI : AV → Option UInt8
  | .int .u8 n => some (UInt8.ofNat n.toNat)
  | _ => none
def aConv (P : Program) (src dst : TypeId) (x : AV) : Option AV :=
  match x with
  | .str b => match P.underlying src, P.underlying dst with
    | some .string, some .string => some (.str b)
    | _, _ => none
  | .list cs n _ => match P.underlying src, P.underlying dst with
    | some (.slice e), some .string => match P.underlying e with
      | some (.int .u8) => if cs.length = n then (cs.mapM byteOfI).map .str else none
      | _ => none
    | _, _ => none
  | .int _ n => match P.underlying src, P.underlying dst with
    | some _, some (.int k) => some (.int k (k.wrap n))
    | _, _ => none
  | _ => none
def aIndexAddr (P : Program) (t : TypeId) (x y : AV) : Option AV :=
  match x, y with
  | .list cs n _, .int _ ix => match aElem P t with
    | some (_, size) => if 0 ≤ ix ∧ ix < n ∧ cs.isEmpty = false then some (.eptr cs (ix.toNat * size)) else none
    | none => none
  | .arr i n, .int _ ix => match aElem P t with
    | some (_, size) => if 0 ≤ ix ∧ ix < n then some (.ref i (ix.toNat * size)) else none
    | none => none
  | .ref i k, .int _ ix => match P.underlying t with
    | some (.array n e) => match P.info? e with
      | some inf => if 0 ≤ ix ∧ ix < n then some (.ref i (k + ix.toNat * inf.size)) else none
      | none => none
    | _ => none
  | _, _ => none
def aIndex (P : Program) (t : TypeId) (x y : AV) : Option AV :=
  match x, y with
  | .str l, .int _ ix => match P.underlying t with
    | some .string => if 0 ≤ ix then (l[ix.toNat]?).map fun b => .int .u8 (b.toNat : Int) else none
    | _ => none
  | .agg cs, .int _ ix => match P.underlying t with
    | some (.array n e) => match P.info? e with
      | some i => if 0 ≤ ix ∧ ix < n then (aLoad P e cs (ix.toNat * i.size)).map AV.plain else none
      | none => none
    | _ => none
  | _, _ => none
def aSlice (P : Program) (fr : List AV) (t : TypeId) (x : Operand) (lo hi : Option Operand) : Option AV :=
  match aEval fr x with
  | .list cs n g => match aElem P t, aBound fr 0 lo, aBound fr n hi with
    | some (_, size), some l, some h => if l ≤ h ∧ h ≤ n then some (.list ((cs.take (h * size)).drop (l * size)) (h - l) (if g = .full ∧ h = n then .full else .unk)) else none
    | _, _, _ => none
  | .str b => match P.underlying t, aBound fr 0 lo, aBound fr b.length hi with
    | some .string, some l, some h => if l ≤ h ∧ h ≤ b.length then some (.str ((b.take h).drop l)) else none
    | _, _, _ => none
  | _ => none
def aFieldAddr (P : Program) (t : TypeId) (x : AV) (f : Nat) : Option AV :=
  match x with
  | .ref i k => (aField P t f).map fun r => .ref i (k + r.1)
  | .eptr cs k => (aField P t f).map fun r => .eptr cs (k + r.1)
  | _ => none
def aLoadAt (P : Program) (s : List Ob) (t : TypeId) (x : AV) : Option AV :=
  match x with
  | .ref i k => match s[i]? with
    | some ob => if ob.live = true ∧ ob.t ≠ mapT then aLoad P t ob.cs k else none
    | none => none
  | .eptr cs k => (aLoad P t cs k).map AV.plain
  | _ => none
def aStoreAt (P : Program) (s : List Ob) (t : TypeId) (x y : AV) : Option (List Ob) :=
  match x with
  | .ref i k => match s[i]? with
    | some ob => if ob.live = true ∧ ob.t ≠ mapT then match aCells y with
        | some new => (aStore P t ob.cs k new).map fun cs' => s.set i { ob with cs := cs' }
        | none => none
      else none
    | none => none
  | _ => none
def aLen (P : Program) (t : TypeId) (x : AV) : Option AV :=
  match x with
  | .list _ n _ => match P.underlying t with
    | some (.slice _) => some (.int .i64 n)
    | _ => none
  | .arr _ n => match P.underlying t with
    | some (.slice _) => some (.int .i64 n)
    | _ => none
  | .str b => match P.underlying t with
    | some .string => some (.int .i64 b.length)
    | _ => none
  | _ => none
/-- append: the frame, what it tells, the store -/
def aAppend (P : Program) (d : Nat) (fr : List AV) (s : List Ob) (t : TypeId) (x y : AV) : Option (List AV × AV × List Ob) :=
  match y with
  | .list cs2 m _ =>
    match aElem P t with
    | none => none
    | some (e, size) =>
      match x with
      | .list cs n g =>
        if m = 0 ∧ cs2.isEmpty = true then some (fr, x, s)
        else if 0 < m ∧ cs2.length = m * size ∧ cs2.all AV.one = true ∧ fitsB P e size (n + m) = true then
          match g with
          | .full => if cs.length = n * size then some (fr, .list (cs ++ cs2) (n + m) (.own d e size), s) else none
          | .own t0 e' size' => if e' = e ∧ size' = size then some (clearMarks [t0] fr, .list (cs ++ cs2) (n + m) (.own d e size), clearStore [t0] s) else none
          | .unk => none
        else none
      | _ => none
  | _ => none
/-- an operation that turns nothing but, maybe, makes a block of no object -/
def aPureV (P : Program) (fr : List AV) (s : List Ob) (o : Oper) : Option AV :=
  match o.op with
  | .move x => some (aEval fr x)
  | .assign x => some (aEval fr x)
  | .pick c x y => match aEval fr c with
    | .bool b => some (if b then aEval fr x else aEval fr y)
    | _ => none
  | .build t parts => aBuild P t (aParts fr parts)
  | .buildSlice t n parts => aBuildSlice P t n (aParts fr parts)
  | .load t x => aLoadAt P s t (aEval fr x)
  | .nilCheck x => match aEval fr x with
    | .ref i k => some (.ref i k)
    | .eptr cs k => some (.eptr cs k)
    | _ => none
  | .binOp op t x y _ => aBin P t op (aEval fr x) (aEval fr y)
  | .unOp op _ x => aUn op (aEval fr x)
  | .convert src dst x => aConv P src dst (aEval fr x)
  | .makeFunc fn first captured => if first.size = 0 then some (.func fn (captured.toList.map fun x => (aEval fr x).plain)) else none
  | .slice t x lo hi none => aSlice P fr t x lo hi
  | .fieldAddr t x f => aFieldAddr P t (aEval fr x) f
  | .indexAddr t x y => aIndexAddr P t (aEval fr x) (aEval fr y)
  | .index t x y => aIndex P t (aEval fr x) (aEval fr y)
  | .extract x k => match aEval fr x with
    | .tuple vs => (vs[k]?).map AV.plain
    | _ => none
  | .call c => match c.callee with
    | .builtin .len => match c.args.toList, c.argTypes.toList with
      | [x], [t] => aLen P t (aEval fr x)
      | _, _ => none
    | .builtin .max => match c.args.toList with
      | [x, y] => match aEval fr x, aEval fr y with
        | .int k a, .int _ b => some (.int k (iMax a b))
        | _, _ => none
      | _ => none
    | .builtin .min => match c.args.toList with
      | [x, y] => match aEval fr x, aEval fr y with
        | .int k a, .int _ b => some (.int k (iMin a b))
        | _, _ => none
      | _ => none
    | _ => none
  | _ => none
/-- an operation: the frame, what it tells, the store -/
def aDet (P : Program) (tb : Nat) (fr : List AV) (s : List Ob) (o : Oper) : Option (List AV × AV × List Ob) :=
  match aPureV P fr s o with
  | some v => some (fr, v, s)
  | none =>
    match o.op with
    | .alloc t => if t = mapT then none else (zeroCells P t).map fun cs => (fr, .ref s.length 0, s ++ [⟨cs, t, true⟩])
    | .box t x => if t = mapT then none else (aCells (aEval fr x)).map fun cs => (fr, .ref s.length 0, s ++ [⟨cs, t, true⟩])
    | .store t x y => (aStoreAt P s t (aEval fr x) (aEval fr y)).map fun s' => (fr, .tuple [], s')
    | .call c => match c.callee with
      | .builtin .append => match c.args.toList, c.argTypes.toList with
        | [x, y], [t, t'] => if t = t' then aAppend P (tb + o.dst.getD 0) fr s t (aEval fr x) (aEval fr y) else none
        | _, _ => none
      | _ => none
    | _ => none

theorem opt_map {α β : Type} {x : Option α} {f : α → β} {r : β} (h : x.map f = some r) : ∃ v, x = some v ∧ f v = r := by
  cases x with
  | none => cases h
  | some v => exact ⟨v, rfl, by simpa using h⟩
/-- a value of a type, and its cells -/
def isOf (P : Program) (t : TypeId) (x : Value) (vs : List Value) : Prop := match P.underlying t with
  | some (.struct _) => x = .agg vs.toArray
  | some (.array _ _) => True
  | _ => vs = [x]
theorem isOf_part {P : Program} {w : World} {e : TypeId} {i : TypeInfo} {xs : List Value} {off : Nat} (hi : P.info? e = some i) (hs : (∃ fs, P.underlying e = some (.struct fs)) ∨ ∃ v, (xs.drop off).take i.size = [v] ∧ (P.underlying e = some .bool ∨ (∃ k, P.underlying e = some (.int k)) ∨ P.underlying e = some .string)) :
    ∃ x, (part e xs.toArray off).run P w = .ok x w ∧ isOf P e x ((xs.drop off).take i.size) := by
  have hsz : (Go.sizeOf e).run P w = .ok i.size w := by simp [Go.sizeOf, typeInfo, hi]
  rcases hs with ⟨fs, hu⟩ | ⟨v, hv, hu⟩
  · refine ⟨.agg ((xs.drop off).take i.size).toArray, ?_, by unfold isOf; rw [hu]⟩
    simp only [part, isAgg, Sem.run_bind, run_underlying hu, Result.andThen_ok, Sem.run_pure, if_true, hsz]
    congr 3
    apply Array.ext'
    rw [Array.toList_extract]
    simp [List.extract]
  · have hx : xs[off]? = some v := by
      have : ((xs.drop off).take i.size)[0]? = some v := by rw [hv]; rfl
      rw [List.getElem?_take] at this
      split at this
      · rw [List.getElem?_drop] at this; simpa using this
      · cases this
    have hno : (isAgg e).run P w = .ok false w := by
      rcases hu with hu | ⟨k, hu⟩ | hu <;> simp [isAgg, run_underlying hu]
    refine ⟨v, ?_, ?_⟩
    · simp [part, hno, hx]
    · unfold isOf
      rcases hu with hu | ⟨k, hu⟩ | hu <;> rw [hu] <;> exact hv
theorem aEqT_len {P : Program} {d : Nat} {t : TypeId} {cs ds : List AV} {r : Bool} (h : aEqT P d t cs ds = some r) : (∃ fs, P.underlying t = some (.struct fs)) ∨ ((∃ a b, cs = [a] ∧ ds = [b]) ∧ (P.underlying t = some .bool ∨ (∃ k, P.underlying t = some (.int k)) ∨ P.underlying t = some .string)) := by
  cases d with
  | zero => cases h
  | succ d =>
    unfold aEqT at h
    split at h
    · rename_i fs hu; exact .inl ⟨fs, hu⟩
    · rename_i hu
      split at h
      · exact .inr ⟨⟨_, _, rfl, rfl⟩, .inl hu⟩
      · cases h
    · rename_i k hu
      split at h
      · exact .inr ⟨⟨_, _, rfl, rfl⟩, .inr (.inl ⟨k, hu⟩)⟩
      · cases h
    · rename_i hu
      split at h
      · exact .inr ⟨⟨_, _, rfl, rfl⟩, .inr (.inr hu)⟩
      · cases h
    · cases h
theorem aEqF_run {P : Program} {G : Gh} {w : World} {D : Nat} {f : TypeId → List AV → List AV → Option Bool}
    (hlen : ∀ t cs ds r, f t cs ds = some r → (∃ fs, P.underlying t = some (.struct fs)) ∨ ((∃ a b, cs = [a] ∧ ds = [b]) ∧ (P.underlying t = some .bool ∨ (∃ k, P.underlying t = some (.int k)) ∨ P.underlying t = some .string)))
    (hf : ∀ t cs ds r, f t cs ds = some r → ∀ x y vs us, isOf P t x vs → isOf P t y us → VRs0 G w cs vs → VRs0 G w ds us → (Op.equalIn D t x y).run P w = .ok r w) :
    ∀ (gs : List Field) (cs ds : List AV) (vs us : List Value) (r : Bool), aEqF P f gs cs ds = some r → VRs0 G w cs vs → VRs0 G w ds us → (Op.eqFields D vs.toArray us.toArray gs).run P w = .ok r w
  | [], cs, ds, vs, us, r, h, h1, h2 => by simp only [aEqF, Option.some.injEq] at h; subst h; simp [Op.eqFields]
  | g :: gs, cs, ds, vs, us, r, h, h1, h2 => by
    simp only [aEqF] at h
    split at h
    · rename_i hn
      split at h
      · rename_i i hi
        split at h
        · rename_i a ha
          split at h
          · rename_i b hb
            cases h
            have ih := aEqF_run hlen hf gs cs ds vs us b hb h1 h2
            have hd1 := (h1.drop g.offset).take i.size
            have hd2 := (h2.drop g.offset).take i.size
            have one : ∀ {l : List AV} {m : List Value} {c : AV}, VRs0 G w l m → l = [c] → ∃ v, m = [v] := by
              intro l m c hl e
              subst e
              simp only [VRs0] at hl
              obtain ⟨v, vs', rfl, _, rfl⟩ := hl
              exact ⟨v, rfl⟩
            obtain ⟨x, p1, q1⟩ := isOf_part (w := w) (xs := vs) (off := g.offset) hi (by
              rcases hlen _ _ _ _ ha with h | ⟨⟨c1, c2, e1, e2⟩, hk⟩
              · exact .inl h
              · obtain ⟨v, hv⟩ := one hd1 e1
                exact .inr ⟨v, hv, hk⟩)
            obtain ⟨y, p2, q2⟩ := isOf_part (w := w) (xs := us) (off := g.offset) hi (by
              rcases hlen _ _ _ _ ha with h | ⟨⟨c1, c2, e1, e2⟩, hk⟩
              · exact .inl h
              · obtain ⟨v, hv⟩ := one hd2 e2
                exact .inr ⟨v, hv, hk⟩)
            have hr := hf _ _ _ _ ha x y _ _ q1 q2 hd1 hd2
            simp only [Op.eqFields, if_pos hn, Sem.run_bind, p1, p2, hr, Result.andThen_ok]
            cases a with
            | false => simp
            | true => simpa using ih
          · cases h
        · cases h
      · cases h
    · rename_i hn
      simp only [Op.eqFields, if_neg hn]
      exact aEqF_run hlen hf gs cs ds vs us r h h1 h2
theorem aEqT_run {P : Program} {G : Gh} {w : World} : ∀ (d : Nat) (t : TypeId) (cs ds : List AV) (r : Bool), aEqT P d t cs ds = some r → ∀ D, ∀ x y vs us, isOf P t x vs → isOf P t y us → VRs0 G w cs vs → VRs0 G w ds us → (Op.equalIn (d + D) t x y).run P w = .ok r w
  | 0, _, _, _, _, h => by cases h
  | d + 1, t, cs, ds, r, h => by
    intro D x y vs us hx hy h1 h2
    rw [show d + 1 + D = (d + D) + 1 by omega]
    have h0 := h
    unfold aEqT at h
    unfold isOf at hx hy
    have one : ∀ {m : List Value} {c : AV}, VRs0 G w [c] m → ∃ v, m = [v] ∧ VR0 G w c v := by
      intro m c hl
      simp only [VRs0] at hl
      obtain ⟨v, vs', rfl, hv, rfl⟩ := hl
      exact ⟨v, rfl, hv⟩
    split at h
    · rename_i fs hu
      simp only [hu] at hx hy
      subst hx
      subst hy
      split at h
      · cases h
      · rename_i hst
        have hfs : P.fieldsOf t = fs := by unfold Program.fieldsOf; rw [hu]
        rw [run_equalIn_struct w (d + D) t vs.toArray us.toArray (by rw [hfs, hu]) (by simpa using hst), hfs]
        exact aEqF_run (fun t cs ds r h => aEqT_len h) (fun t cs ds r h x y vs us => aEqT_run d t cs ds r h D x y vs us) fs.toList cs ds vs us r h h1 h2
    · rename_i hu
      simp only [hu] at hx hy
      split at h
      · obtain ⟨v, e1, hv⟩ := one h1
        obtain ⟨u, e2, hv2⟩ := one h2
        rw [hx] at e1
        rw [hy] at e2
        cases e1
        cases e2
        simp only [VR0] at hv hv2
        simp only [aEq1, Option.some.injEq] at h
        rw [hv, hv2, ← h]
        exact run_equalIn_bool w (d + D) t _ _ hu
      · cases h
    · rename_i k hu
      simp only [hu] at hx hy
      split at h
      · obtain ⟨v, e1, hv⟩ := one h1
        obtain ⟨u, e2, hv2⟩ := one h2
        rw [hx] at e1
        rw [hy] at e2
        cases e1
        cases e2
        simp only [VR0] at hv hv2
        simp only [aEq1] at h
        split at h
        · rename_i hk
          subst hk
          cases h
          rw [hv, hv2]
          exact run_equalIn_int w (d + D) t _ _ _ _ hu
        · cases h
      · cases h
    · rename_i hu
      simp only [hu] at hx hy
      split at h
      · obtain ⟨v, e1, hv⟩ := one h1
        obtain ⟨u, e2, hv2⟩ := one h2
        rw [hx] at e1
        rw [hy] at e2
        cases e1
        cases e2
        simp only [VR0] at hv hv2
        simp only [aEq1, Option.some.injEq] at h
        rw [hv, hv2, ← h, run_equalIn_string w (d + D) t _ _ hu, ByteArray.toList_mk, ByteArray.toList_mk]
      · cases h
    · cases h
theorem run_bytesEq (a b : List UInt8) : (ByteArray.mk a.toArray).toList = a := ByteArray.toList_mk a
section
variable {P : Program} {o : Oper} {fr : List AV} {s : List Ob}
theorem run_equal_bool {t : TypeId} (w : World) (a b : Bool) (hu : P.underlying t = some .bool) : (Op.equal t (.bool a) (.bool b)).run P w = .ok (a == b) w := by
  have h : ∀ d, (Op.equalIn (d + 1) t (.bool a) (.bool b)).run P w = .ok (a == b) w := fun d => by simp [Op.equalIn, run_underlying hu]
  exact h 9999
theorem run_equal_nil {t e : TypeId} (w : World) (a : Option Addr) (hu : P.underlying t = some (.pointer e)) : (Op.equal t (.pointer a) (.pointer none)).run P w = .ok a.isNone w := by
  have h : ∀ d, (Op.equalIn (d + 1) t (.pointer a) (.pointer none)).run P w = .ok a.isNone w := fun d => by cases a <;> simp [Op.equalIn, run_underlying hu]
  exact h 9999
theorem run_equal_nomap {t k e : TypeId} (w : World) (a : Option Nat) (hu : P.underlying t = some (.map k e)) : (Op.equal t (.map a) (.map none)).run P w = .ok a.isNone w := by
  have h : ∀ d, (Op.equalIn (d + 1) t (.map a) (.map none)).run P w = .ok a.isNone w := fun d => by cases a <;> simp [Op.equalIn, run_underlying hu]
  exact h 9999
theorem Step_bin {op : BinOp} {t ty : TypeId} {x y : Operand} {v : AV} (ho : o.op = .binOp op t x y ty) (h : aBin P t op (aEval fr x) (aEval fr y) = some v) : Still P o fr s v := fun M G w a hS hf => by
    have hx := (hf.eval x).1
    have hy := (hf.eval y).1
    unfold aBin at h
    split at h
    · rename_i k p k' q ex ey
      rw [ex] at hx
      rw [ey] at hy
      simp only [VR0] at hx hy
      split at h
      · rename_i u hsh
        cases h
        unfold aShift at hsh
        split at hsh
        · split at hsh
          · cases hsh
          · rename_i hn
            cases hsh
            exact ⟨_, by simp [execOp, ho, hx, hy, eqGuard_at_int, binOp, Op.shift, hn]; rfl, by simp only [VR0]; rfl, OwnC.of_plain rfl⟩
        · split at hsh
          · cases hsh
          · rename_i hn
            cases hsh
            exact ⟨_, by simp [execOp, ho, hx, hy, eqGuard_at_int, binOp, Op.shift, hn]; rfl, by simp only [VR0]; rfl, OwnC.of_plain rfl⟩
        · cases hsh
      split at h
      case isFalse => cases h
      rename_i hk
      subst hk
      unfold aIntOp at h
      split at h
      case h_4 =>
        split at h
        · cases h
        · rename_i hq
          cases h
          exact ⟨_, by simp [execOp, ho, hx, hy, eqGuard_at_int, binOp_quo, Op.intDiv, hq]; rfl, by simp only [VR0], OwnC.of_plain rfl⟩
      case h_5 =>
        split at h
        · cases h
        · rename_i hq
          cases h
          exact ⟨_, by simp [execOp, ho, hx, hy, eqGuard_at_int, binOp_rem, Op.intDiv, hq]; rfl, by simp only [VR0], OwnC.of_plain rfl⟩
      case h_12 => cases h; exact ⟨_, by simp [execOp, ho, hx, hy, eqGuard_at_int, binOp, Op.intBits]; rfl, by simp only [VR0]; rfl, OwnC.of_plain rfl⟩
      case h_13 => cases h; exact ⟨_, by simp [execOp, ho, hx, hy, eqGuard_at_int, binOp, Op.intBits]; rfl, by simp only [VR0]; rfl, OwnC.of_plain rfl⟩
      case h_14 => cases h; exact ⟨_, by simp [execOp, ho, hx, hy, eqGuard_at_int, binOp, Op.intBits]; rfl, by simp only [VR0]; rfl, OwnC.of_plain rfl⟩
      case h_15 => cases h
      all_goals
        cases h
        exact ⟨_, by simp [execOp, ho, hx, hy, eqGuard_at_int, binOp, Op.intArith, Op.intCmp]; rfl, by simp only [VR0], OwnC.of_plain rfl⟩
    · rename_i p q ex ey
      rw [ex] at hx
      rw [ey] at hy
      simp only [VR0] at hx hy
      unfold aStrOp at h
      split at h
      case h_1 =>
        split at h
        · rename_i hq
          cases h
          have hs : ¬ ((((ByteArray.mk p.toArray).size + (ByteArray.mk q.toArray).size : Nat) : Int) > IntKind.i64.max) := by
            have e1 : (ByteArray.mk p.toArray).size = p.length := by simp [ByteArray.size]
            have e2 : (ByteArray.mk q.toArray).size = q.length := by simp [ByteArray.size]
            rw [e1, e2]
            have e3 : IntKind.i64.max = 9223372036854775807 := by decide
            rw [e3]
            omega
          refine ⟨.string ((ByteArray.mk p.toArray) ++ (ByteArray.mk q.toArray)), ?_, ?_, OwnC.of_plain rfl⟩
          · simp only [execOp, ho, hx, hy, eqGuard_at_string, binOp, Op.stringOp, Sem.run_bind, Sem.run_pure, Result.andThen_ok, if_neg hs]
          · simp only [VR0, Value.string.injEq]
            apply ByteArray.ext
            simp [ByteArray.data_append]
        · cases h
      case h_8 => cases h
      all_goals
        cases h
        exact ⟨_, by simp only [execOp, ho, hx, hy, eqGuard_at_string, binOp, Op.stringOp, Sem.run_bind, Sem.run_pure, Result.andThen_ok, ByteArray.toList_mk]; rfl, by simp only [VR0], OwnC.of_plain rfl⟩
    · rename_i p q ex ey
      rw [ex] at hx
      rw [ey] at hy
      simp only [VR0] at hx hy
      split at h
      · rename_i hu
        cases h
        exact ⟨_, by simp [execOp, ho, hx, hy, eqGuard_at_bool, binOp, run_equal_bool _ _ _ hu]; rfl, by simp only [VR0], OwnC.of_plain rfl⟩
      · rename_i hu
        cases h
        exact ⟨_, by simp [execOp, ho, hx, hy, eqGuard_at_bool, binOp, run_equal_bool _ _ _ hu]; rfl, by simp only [VR0], OwnC.of_plain rfl⟩
      · cases h
    · rename_i ex ey
      rw [ex] at hx
      rw [ey] at hy
      simp only [VR0] at hx hy
      split at h
      · rename_i hu
        cases h
        exact ⟨_, by simp [execOp, ho, hx, hy, eqGuard_at_pointer, binOp, run_equal_nil _ _ hu]; rfl, by simp only [VR0], OwnC.of_plain rfl⟩
      · rename_i hu
        cases h
        exact ⟨_, by simp [execOp, ho, hx, hy, eqGuard_at_pointer, binOp, run_equal_nil _ _ hu]; rfl, by simp only [VR0], OwnC.of_plain rfl⟩
      · cases h
    · rename_i i k ex ey
      rw [ex] at hx
      rw [ey] at hy
      simp only [VR0] at hx hy
      split at h
      · rename_i hu
        cases h
        exact ⟨_, by simp [execOp, ho, hx.1, hy, eqGuard_at_pointer, binOp, run_equal_nil _ _ hu]; rfl, by simp only [VR0], OwnC.of_plain rfl⟩
      · rename_i hu
        cases h
        exact ⟨_, by simp [execOp, ho, hx.1, hy, eqGuard_at_pointer, binOp, run_equal_nil _ _ hu]; rfl, by simp only [VR0], OwnC.of_plain rfl⟩
      · cases h
    · rename_i ex ey
      rw [ex] at hx
      rw [ey] at hy
      simp only [VR0] at hx hy
      split at h
      · rename_i hu
        cases h
        exact ⟨_, by simp [execOp, ho, hx, hy, eqGuard_at_map, binOp, run_equal_nomap _ _ hu]; rfl, by simp only [VR0], OwnC.of_plain rfl⟩
      · rename_i hu
        cases h
        exact ⟨_, by simp [execOp, ho, hx, hy, eqGuard_at_map, binOp, run_equal_nomap _ _ hu]; rfl, by simp only [VR0], OwnC.of_plain rfl⟩
      · cases h
    · rename_i i ex ey
      rw [ex] at hx
      rw [ey] at hy
      simp only [VR0] at hx hy
      split at h
      · rename_i hu
        cases h
        exact ⟨_, by simp [execOp, ho, hx.1, hy, eqGuard_at_map, binOp, run_equal_nomap _ _ hu]; rfl, by simp only [VR0], OwnC.of_plain rfl⟩
      · rename_i hu
        cases h
        exact ⟨_, by simp [execOp, ho, hx.1, hy, eqGuard_at_map, binOp, run_equal_nomap _ _ hu]; rfl, by simp only [VR0], OwnC.of_plain rfl⟩
      · cases h
    · rename_i cs ds ex ey
      rw [ex] at hx
      rw [ey] at hy
      simp only [VR0] at hx hy
      obtain ⟨vs, hx, hvs⟩ := hx
      obtain ⟨us, hy, hus⟩ := hy
      split at h
      case h_2 => cases h
      rename_i fs hu
      split at h
      case isFalse => cases h
      rename_i hgd
      have run : ∀ r, aEqT P 20 t cs ds = some r → (Op.equalIn 10000 t (.agg vs.toArray) (.agg us.toArray)).run P w = .ok r w := by
        intro r hr
        exact aEqT_run (G := G) 20 t cs ds r hr 9980 _ _ vs us (by unfold isOf; rw [hu]) (by unfold isOf; rw [hu]) hvs hus
      split at h
      · obtain ⟨r, hr, rfl⟩ := opt_map h
        refine ⟨.bool r, ?_, by simp only [VR0], OwnC.of_plain rfl⟩
        simp only [execOp, ho, hx, hy, Sem.run_bind, run_eqGuard_agg w _ _ _ _ _ _ hgd, Result.andThen_ok, run_eql_struct, run r hr, Sem.run_pure]
      · obtain ⟨r, hr, rfl⟩ := opt_map h
        refine ⟨.bool (!r), ?_, by simp only [VR0], OwnC.of_plain rfl⟩
        simp only [execOp, ho, hx, hy, Sem.run_bind, run_eqGuard_agg w _ _ _ _ _ _ hgd, Result.andThen_ok, run_neq_struct, run r hr, Sem.run_pure]
      · cases h
    · cases h
theorem Step_un {op : UnOp} {t : TypeId} {x : Operand} {v : AV} (ho : o.op = .unOp op t x) (h : aUn op (aEval fr x) = some v) : Still P o fr s v := fun M G w a hS hf => by
    have hx := (hf.eval x).1
    unfold aUn at h
    split at h
    · rename_i k n ex
      rw [ex] at hx
      simp only [VR0] at hx
      cases h
      exact ⟨_, by simp [execOp, ho, hx, Op.unary, Op.intArith]; rfl, by simp only [VR0, Int.zero_sub], OwnC.of_plain rfl⟩
    · rename_i b ex
      rw [ex] at hx
      simp only [VR0] at hx
      cases h
      exact ⟨_, by simp [execOp, ho, hx, Op.unary]; rfl, by simp only [VR0], OwnC.of_plain rfl⟩
    · cases h
theorem byteOf_all {G : Gh} {w : World} : ∀ {cs : List AV} {vs : List Value} {l : List UInt8}, cs.mapM byteOfI = some l → VRs0 G w cs vs → ∃ ns : List Int, vs = ns.map (Value.int .u8) ∧ l = ns.map fun n => UInt8.ofNat n.toNat
  | [], vs, l, h, hv => by simp at h; simp only [VRs0] at hv; exact ⟨[], by simpa using hv, by simpa using h⟩
  | a :: as, vs, l, h, hv => by
    simp only [VRs0] at hv
    obtain ⟨v, vs1, rfl, h1, h2⟩ := hv
    simp only [List.mapM_cons] at h
    cases k1 : byteOfI a with
    | none => rw [k1] at h; cases h
    | some b =>
      rw [k1] at h
      cases k2 : as.mapM byteOfI with
      | none => rw [k2] at h; cases h
      | some l2 =>
        rw [k2] at h
        simp at h
        subst h
        obtain ⟨ns, e1, e2⟩ := byteOf_all k2 h2
        unfold byteOfI at k1
        split at k1
        · rename_i n
          cases k1
          simp only [VR0] at h1
          exact ⟨n :: ns, by simp [h1, e1], by simp [e2]⟩
        · cases k1
theorem run_bytes {P : Program} {w : World} {f : Value → ByteArray → Sem (ForInStep ByteArray)} (hf : ∀ n s, f (.int .u8 n) s = pure (.yield (s.push (UInt8.ofNat n.toNat)))) : ∀ (ns : List Int) (s : ByteArray), (forIn (ns.map (Value.int .u8)) s f).run P w = .ok ⟨s.data ++ (ns.map fun n => UInt8.ofNat n.toNat).toArray⟩ w
  | [], s => by simp
  | b :: l, s => by
    simp only [List.map_cons, List.forIn_cons, Sem.run_bind, hf, Sem.run_pure, Result.andThen_ok]
    rw [run_bytes hf l]
    congr 1
    apply ByteArray.ext
    simp [ByteArray.push]
theorem Step_conv {src dst : TypeId} {x : Operand} {v : AV} (ho : o.op = .convert src dst x) (h : aConv P src dst (aEval fr x) = some v) : Still P o fr s v := fun M G w a hS hf => by
    have hx := (hf.eval x).1
    unfold aConv at h
    split at h
    · rename_i b ex
      rw [ex] at hx
      simp only [VR0] at hx
      split at h
      · rename_i h1 h2
        cases h
        refine ⟨.string ⟨b.toArray⟩, ?_, by simp only [VR0], OwnC.of_plain rfl⟩
        simp only [execOp, ho, hx, convert, Sem.run_bind, run_underlying h1, run_underlying h2, Result.andThen_ok, Sem.run_pure]
      · cases h
    · rename_i cs n g ex
      rw [ex] at hx
      simp only [VR0] at hx
      split at h
      · rename_i e h1 h2
        split at h
        · rename_i h3
          split at h
          · rename_i hlen
            cases hm : cs.mapM byteOfI with
            | none => rw [hm] at h; cases h
            | some l =>
              rw [hm] at h
              cases h
              obtain ⟨A, cap, e1, e2, e3, e4⟩ := hx
              refine ⟨.string ⟨l.toArray⟩, ?_, by simp only [VR0], OwnC.of_plain rfl⟩
              simp only [execOp, ho, e1, convert, Sem.run_bind, run_underlying h1, run_underlying h2, run_underlying h3, Result.andThen_ok]
              rcases e4 with e4 | ⟨b, ob, vs, rfl, e5, e6, e7⟩
              · subst e4
                simp at hm
                subst hm
                have : n = 0 := by simpa using hlen.symm
                subst this
                cases A with
                | none => simp [Conv.bytesToString]; rfl
                | some ad => simp [Conv.bytesToString, loadCells, loadCellsFrom]; rfl
              · obtain ⟨ns, q1, q2⟩ := byteOf_all hm e7
                have hl : vs.length = n := by rw [e7.length, hlen]
                have hrun := run_loadCells_list (P := P) w ⟨b, ob, none⟩ vs (fun j v hj => by rw [Addr_add]; exact e6 j v hj)
                rw [hl] at hrun
                simp only [Conv.bytesToString, Sem.run_bind, hrun, Result.andThen_ok]
                rw [← Array.forIn_toList]
                rw [show (vs.toArray.toList) = ns.map (Value.int .u8) from q1]
                rw [run_bytes (fun n s => rfl) ns ByteArray.empty]
                simp only [Result.andThen_ok, Sem.run_pure]
                rw [q2]
                congr 3
                apply ByteArray.ext
                show #[] ++ _ = _
                simp
          · cases h
        · cases h
      · cases h
    · rename_i k n ex
      rw [ex] at hx
      simp only [VR0] at hx
      split at h
      · rename_i d k' h1 h2
        cases h
        refine ⟨.int k' (k'.wrap n), ?_, by simp only [VR0], OwnC.of_plain rfl⟩
        simp only [execOp, ho, hx, convert, Sem.run_bind, run_underlying h1, run_underlying h2, Result.andThen_ok, Conv.intToInt, Sem.run_pure]
      · cases h
    · cases h
end
end Go.Proofs.YtmacghaihlfcpaaGreat.Abs

namespace Go.Proofs.YtmacghaihlfcpaaGreat.Abs
open Go Go.ChangeShapes Go.WideShapes Go.ChangeAt Go.RowKit
set_option linter.unusedVariables false
set_option linter.unusedSimpArgs false

section
variable {P : Program} {o : Oper} {fr : List AV} {s : List Ob}
theorem Step_indexAddr_arr {t e : TypeId} {x y : Operand} {i n size : Nat} {kd : IntKind} {ix : Int} (ho : o.op = .indexAddr t x y) (he : aElem P t = some (e, size)) (hx : aEval fr x = .arr i n) (hy : aEval fr y = .int kd ix)
    (h0 : 0 ≤ ix) (h1 : ix < n) : Still P o fr s (.ref i (ix.toNat * size)) := fun M G w a hS hf => by
    have hv := (hf.eval x).1
    have hu := (hf.eval y).1
    rw [hx] at hv
    rw [hy] at hu
    simp only [VR0] at hv hu
    obtain ⟨⟨cap, e1, e2⟩, e3⟩ := hv
    obtain ⟨h2, i', h3, h4, h5⟩ := aElem_spec he
    refine ⟨.pointer (some ⟨G.mu i, ix.toNat * size, none⟩), ?_, by simp only [VR0]; exact ⟨trivial, e3⟩, OwnC.of_plain rfl⟩
    simp [execOp, ho, e1, hu, Instr.indexAt, asIntOf, run_underlying h2, h0, h1, run_sizeOf h3, h4, Addr_add]
theorem Step_indexAddr_ref {t e : TypeId} {x y : Operand} {i k n : Nat} {inf : TypeInfo} {kd : IntKind} {ix : Int} (ho : o.op = .indexAddr t x y) (hu : P.underlying t = some (.array n e)) (hi : P.info? e = some inf) (hx : aEval fr x = .ref i k) (hy : aEval fr y = .int kd ix)
    (h0 : 0 ≤ ix) (h1 : ix < n) : Still P o fr s (.ref i (k + ix.toNat * inf.size)) := fun M G w a hS hf => by
    have hv := (hf.eval x).1
    have hu' := (hf.eval y).1
    rw [hx] at hv
    rw [hy] at hu'
    simp only [VR0] at hv hu'
    obtain ⟨e1, e3⟩ := hv
    refine ⟨.pointer (some ⟨G.mu i, k + ix.toNat * inf.size, none⟩), ?_, by simp only [VR0]; exact ⟨trivial, e3⟩, OwnC.of_plain rfl⟩
    simp [execOp, ho, e1, hu', Instr.indexAt, asIntOf, Instr.sureAddr, asAddr, run_underlying hu, h0, h1, run_sizeOf hi, Addr_add]
theorem Step_index_agg {t e : TypeId} {x y : Operand} {cs : List AV} {n : Nat} {inf : TypeInfo} {kd : IntKind} {ix : Int} {av : AV} (ho : o.op = .index t x y) (hu : P.underlying t = some (.array n e)) (hi : P.info? e = some inf) (hx : aEval fr x = .agg cs) (hy : aEval fr y = .int kd ix)
    (h0 : 0 ≤ ix) (h1 : ix < n) (hl : aLoad P e cs (ix.toNat * inf.size) = some av) : Still P o fr s av.plain := fun M G w a hS hf => by
    have hv := (hf.eval x).1
    have hu' := (hf.eval y).1
    rw [hx] at hv
    rw [hy] at hu'
    simp only [VR0] at hv hu'
    obtain ⟨vs, e1, e2⟩ := hv
    have part : ∃ v, (part e vs.toArray (ix.toNat * inf.size)).run P w = .ok v w ∧ VR0 G w av v := by
      unfold aLoad at hl
      split at hl
      · rename_i m hm
        split at hl
        · rename_i hle
          cases hl
          have hlen : vs.length = cs.length := e2.length
          refine ⟨.agg ((vs.drop (ix.toNat * inf.size)).take m).toArray, ?_, ?_⟩
          · simp [Go.part, aggSize_some hm]
          · simp only [VR0]
            exact ⟨_, rfl, ((e2.drop _).take _).plain⟩
        · cases hl
      · rename_i hm
        obtain ⟨v, hv1, hv2⟩ := e2.get _ av hl
        refine ⟨v, ?_, hv2⟩
        simp [Go.part, aggSize_none hm, hv1]
      · cases hl
    obtain ⟨v, p1, p2⟩ := part
    refine ⟨v, ?_, p2.plain, OwnC.of_plain av.mark_plain⟩
    simp [execOp, ho, e1, hu', Instr.index, asIntOf, run_underlying hu, h0, h1, run_sizeOf hi, p1]
theorem Step_index_str {t : TypeId} {x y : Operand} {l : List UInt8} {kd : IntKind} {ix : Int} {b : UInt8} (ho : o.op = .index t x y) (hu : P.underlying t = some .string) (hx : aEval fr x = .str l) (hy : aEval fr y = .int kd ix)
    (h0 : 0 ≤ ix) (hb : l[ix.toNat]? = some b) : Still P o fr s (.int .u8 (b.toNat : Int)) := fun M G w a hS hf => by
    have hv := (hf.eval x).1
    have hu' := (hf.eval y).1
    rw [hx] at hv
    rw [hy] at hu'
    simp only [VR0] at hv hu'
    refine ⟨.int .u8 (b.toNat : Int), ?_, by simp only [VR0], OwnC.of_plain rfl⟩
    have hget : (ByteArray.mk l.toArray)[ix.toNat]? = some b := by
      have hlt : ix.toNat < l.length := lt_of_some hb
      rw [getElem?_pos _ _ (by simpa [ByteArray.size] using hlt)]
      rw [List.getElem?_eq_getElem hlt] at hb
      cases hb
      rfl
    simp only [execOp, ho, hv, hu', Instr.index, asIntOf, Sem.run_bind, Sem.run_pure, Result.andThen_ok, run_underlying hu]
    rw [if_pos h0, hget]
    rfl
theorem Step_len_str {c : Call} {x : Operand} {t : TypeId} {l : List UInt8} (ho : o.op = .call c) (hc : c.callee = .builtin .len) (ha : c.args = #[x]) (ht : c.argTypes[0]? = some t) (hu : P.underlying t = some .string) (hx : aEval fr x = .str l) : Still P o fr s (.int .i64 l.length) := fun M G w a hS hf => by
    have hv := (hf.eval x).1
    rw [hx] at hv
    simp only [VR0] at hv
    refine ⟨.int .i64 l.length, ?_, by simp only [VR0], OwnC.of_plain rfl⟩
    have hsz : (ByteArray.mk l.toArray).size = l.length := by simp [ByteArray.size]
    simp [execOp, ho, resolve, hc, ha, invoke, builtin, Builtin.len_, ht, run_underlying hu, hv, goInt, hsz]
theorem Step_len_arr {c : Call} {x : Operand} {t : TypeId} {e : TypeId} {i n : Nat} (ho : o.op = .call c) (hc : c.callee = .builtin .len) (ha : c.args = #[x]) (ht : c.argTypes[0]? = some t) (hu : P.underlying t = some (.slice e)) (hx : aEval fr x = .arr i n) : Still P o fr s (.int .i64 n) := fun M G w a hS hf => by
    have hv := (hf.eval x).1
    rw [hx] at hv
    simp only [VR0] at hv
    obtain ⟨⟨cap, e1, e2⟩, e3⟩ := hv
    refine ⟨.int .i64 n, ?_, by simp only [VR0], OwnC.of_plain rfl⟩
    simp [execOp, ho, resolve, hc, ha, invoke, builtin, Builtin.len_, ht, run_underlying hu, e1, goInt]
theorem Step_slice_str {t : TypeId} {x : Operand} {lo hi : Option Operand} {b : List UInt8} {l h : Nat} (ho : o.op = .slice t x lo hi none) (hu : P.underlying t = some .string) (hx : aEval fr x = .str b)
    (hlo : aBound fr 0 lo = some l) (hhi : aBound fr b.length hi = some h) (h1 : l ≤ h) (h2 : h ≤ b.length) : Still P o fr s (.str ((b.take h).drop l)) := fun M G w a hS hf => by
    have hv := (hf.eval x).1
    rw [hx] at hv
    simp only [VR0] at hv
    have bnd : ∀ (b : Option Operand) (d r : Nat), aBound fr d b = some r → (b = none ∧ r = d) ∨ ∃ x k n, b = some x ∧ a.eval x = .int k n ∧ 0 ≤ n ∧ r = n.toNat := by
      intro b d r hb
      cases b with
      | none => simp only [aBound, Option.some.injEq] at hb; exact .inl ⟨rfl, hb.symm⟩
      | some y =>
        simp only [aBound] at hb
        split at hb
        · rename_i k m hy
          split at hb
          · rename_i h0
            cases hb
            have := (hf.eval y).1
            rw [hy] at this
            simp only [VR0] at this
            exact .inr ⟨y, k, m, rfl, this, h0, rfl⟩
          · cases hb
        · cases hb
    have hsz : (ByteArray.mk b.toArray).size = b.length := by simp [ByteArray.size]
    have q1 : (Instr.sliceBounds false b.length b.length (lo.map a.eval) (hi.map a.eval) none).run P w = .ok (l, h, b.length) w := by
      rcases bnd lo 0 l hlo with ⟨rfl, rfl⟩ | ⟨xl, kl, nl, rfl, r1, r2, rfl⟩ <;> rcases bnd hi _ h hhi with ⟨rfl, rfl⟩ | ⟨xh, kh, nh, rfl, r3, r4, rfl⟩
      · simp [Instr.sliceBounds]
      · have : nh ≤ b.length := by omega
        simp [Instr.sliceBounds, Instr.sliceBound, r3, asIntOf, r4, this]
      · have : nl ≤ b.length := by omega
        simp [Instr.sliceBounds, Instr.sliceBound, r1, asIntOf, r2, this]
      · have : nh ≤ b.length := by omega
        have : nl ≤ max nh 0 := by omega
        simp [Instr.sliceBounds, Instr.sliceBound, r1, r3, asIntOf, r2, r4, *]
    refine ⟨.string ((ByteArray.mk b.toArray).extract l h), ?_, ?_, OwnC.of_plain rfl⟩
    · simp only [execOp, ho, Sem.run_bind, Instr.sliceAt, run_underlying hu, Result.andThen_ok, Option.map_none, hv, Instr.slice, Option.isSome_none, hsz, q1, Sem.run_pure, Sem.run_ite]
      rfl
    · simp only [VR0, Value.string.injEq]
      apply ByteArray.ext
      simp [ByteArray.data_extract, List.extract_eq_take_drop, List.drop_take]
theorem Step_append {c : Call} {x y : Operand} {t : TypeId} {fr' : List AV} {v : AV} {s' : List Ob} (d : Nat) (ho : o.op = .call c) (hc : c.callee = .builtin .append) (ha : c.args = #[x, y]) (ht : c.argTypes = #[t, t])
    (h : aAppend P d fr s t (aEval fr x) (aEval fr y) = some (fr', v, s')) : Step P o fr s fr' v s' := by
  unfold aAppend at h
  split at h
  case h_2 => cases h
  rename_i cs2 m g2 hy
  split at h
  · cases h
  rename_i e size he
  split at h
  case h_2 => cases h
  rename_i cs n g hx
  split at h
  · rename_i hc0
    obtain ⟨rfl, hnil⟩ := hc0
    have : cs2 = [] := by simpa using hnil
    subst this
    cases h
    exact Step_still (Step_append_none ho hc ha ht he hx hy)
  · split at h
    case isFalse => cases h
    rename_i hcond
    obtain ⟨h0, hl2, hone, hfit⟩ := hcond
    split at h
    · split at h
      · rename_i hl1
        cases h
        exact Step_append_full d ho hc ha ht he hx hy h0 hl1 hl2 hone hfit
      · cases h
    · split at h
      · rename_i hcc
        obtain ⟨rfl, rfl⟩ := hcc
        cases h
        exact Step_append_own d ho hc ha ht he hx hy h0 hl2 hone hfit
      · cases h
    · cases h
theorem map_some3 {α : Type} {x : Option α} {f : α → List AV × AV × List Ob} {r : List AV × AV × List Ob} (h : x.map f = some r) : ∃ v, x = some v ∧ f v = r := by
  cases x with
  | none => cases h
  | some v => exact ⟨v, rfl, by simpa using h⟩
theorem Step_max {c : Call} {x y : Operand} {k k2 : IntKind} {p q : Int} (ho : o.op = .call c) (hc : c.callee = .builtin .max) (ha : c.args = #[x, y]) (hx : aEval fr x = .int k p) (hy : aEval fr y = .int k2 q) : Still P o fr s (.int k (iMax p q)) := fun M G w a hS hf => by
    have h1 := (hf.eval x).1
    have h2 := (hf.eval y).1
    rw [hx] at h1
    rw [hy] at h2
    simp only [VR0] at h1 h2
    refine ⟨.int k (iMax p q), ?_, by simp only [VR0], OwnC.of_plain rfl⟩
    simp [execOp, ho, resolve, hc, ha, invoke, builtin, Builtin.max_, Builtin.max2, h1, h2, iMax]
theorem Step_min {c : Call} {x y : Operand} {k k2 : IntKind} {p q : Int} (ho : o.op = .call c) (hc : c.callee = .builtin .min) (ha : c.args = #[x, y]) (hx : aEval fr x = .int k p) (hy : aEval fr y = .int k2 q) : Still P o fr s (.int k (iMin p q)) := fun M G w a hS hf => by
    have h1 := (hf.eval x).1
    have h2 := (hf.eval y).1
    rw [hx] at h1
    rw [hy] at h2
    simp only [VR0] at h1 h2
    refine ⟨.int k (iMin p q), ?_, by simp only [VR0], OwnC.of_plain rfl⟩
    simp [execOp, ho, resolve, hc, ha, invoke, builtin, Builtin.min_, Builtin.min2, h1, h2, iMin]
theorem Pure_det {v : AV} (h : aPureV P fr s o = some v) : Still P o fr s v ∨ Foreign P o fr s v := by
  unfold aPureV at h
  split at h
  · rename_i x ho; cases h; exact .inl (Step_move ho)
  · rename_i x ho; cases h; exact .inl (Step_assign ho)
  · rename_i c x y ho
    split at h
    · rename_i b hb; cases h; exact .inl (Step_pick ho hb)
    · cases h
  · rename_i t parts ho
    exact .inl (Step_build ho h)
  · rename_i t n parts ho
    exact .inr (Step_buildSlice ho h)
  · rename_i t x ho
    unfold aLoadAt at h
    split at h
    · rename_i i k hx
      split at h
      · rename_i ob hi
        split at h
        · rename_i hl; exact .inl (Step_load_ref ho hx hi hl.1 hl.2 h)
        · cases h
      · cases h
    · rename_i cs k hx
      cases h3 : aLoad P t cs k with
      | none => rw [h3] at h; cases h
      | some u' =>
        rw [h3] at h
        simp at h
        subst h
        exact .inl (Step_load_eptr ho hx h3)
    · cases h
  · rename_i x ho
    split at h
    · rename_i i k hx; cases h; rw [← hx]; exact .inl (Step_nilCheck ho (by rw [hx]; trivial))
    · rename_i cs k hx; cases h; rw [← hx]; exact .inl (Step_nilCheck ho (by rw [hx]; trivial))
    · cases h
  · rename_i op t x y ty ho
    exact .inl (Step_bin ho h)
  · rename_i op t x ho
    exact .inl (Step_un ho h)
  · rename_i src dst x ho
    exact .inl (Step_conv ho h)
  · rename_i fn first captured ho
    split at h
    · rename_i h0
      cases h
      have : first = #[] := Array.eq_empty_of_size_eq_zero h0
      subst this
      exact .inl (Step_makeFunc ho)
    · cases h
  · rename_i t x lo hi ho
    unfold aSlice at h
    split at h
    · rename_i cs n g hx
      split at h
      · rename_i e size l hh he hlo hhi
        split at h
        · rename_i hc; cases h; exact .inl (Step_slice ho he hx hlo hhi hc.1 hc.2)
        · cases h
      · cases h
    · rename_i b hx
      split at h
      · rename_i l hh he hlo hhi
        split at h
        · rename_i hc; cases h; exact .inl (Step_slice_str ho he hx hlo hhi hc.1 hc.2)
        · cases h
      · cases h
    · cases h
  · rename_i t x f ho
    unfold aFieldAddr at h
    split at h
    · rename_i i k hx
      cases h3 : aField P t f with
      | none => rw [h3] at h; cases h
      | some r => rw [h3] at h; simp at h; subst h; exact .inl (Step_fieldAddr_ref ho hx h3)
    · rename_i cs k hx
      cases h3 : aField P t f with
      | none => rw [h3] at h; cases h
      | some r => rw [h3] at h; simp at h; subst h; exact .inl (Step_fieldAddr_eptr ho hx h3)
    · cases h
  · rename_i t x y ho
    unfold aIndexAddr at h
    split at h
    · rename_i cs n g kd ix hx hy
      split at h
      · rename_i e size he
        split at h
        · rename_i hc; cases h; exact .inl (Step_indexAddr ho he hx hy hc.1 hc.2.1 (by intro h0; rw [h0] at hc; simp at hc))
        · cases h
      · cases h
    · rename_i i n kd ix hx hy
      split at h
      · rename_i e size he
        split at h
        · rename_i hc; cases h; exact .inl (Step_indexAddr_arr ho he hx hy hc.1 hc.2)
        · cases h
      · cases h
    · rename_i i k kd ix hx hy
      split at h
      · rename_i n e hu
        split at h
        · rename_i inf hi
          split at h
          · rename_i hc; cases h; exact .inl (Step_indexAddr_ref ho hu hi hx hy hc.1 hc.2)
          · cases h
        · cases h
      · cases h
    · cases h
  · rename_i t x y ho
    unfold aIndex at h
    split at h
    · rename_i l kd ix hx hy
      split at h
      · rename_i hu
        split at h
        · rename_i h0
          cases h3 : l[ix.toNat]? with
          | none => rw [h3] at h; cases h
          | some b => rw [h3] at h; simp at h; subst h; exact .inl (Step_index_str ho hu hx hy h0 h3)
        · cases h
      · cases h
    · rename_i cs kd ix hx hy
      split at h
      · rename_i n e hu
        split at h
        · rename_i inf hi
          split at h
          · rename_i hc
            cases hl : aLoad P e cs (ix.toNat * inf.size) with
            | none => rw [hl] at h; cases h
            | some av => rw [hl] at h; simp at h; subst h; exact .inl (Step_index_agg ho hu hi hx hy hc.1 hc.2 hl)
          · cases h
        · cases h
      · cases h
    · cases h
  · rename_i x k ho
    split at h
    · rename_i vs hx
      cases h3 : vs[k]? with
      | none => rw [h3] at h; cases h
      | some u => rw [h3] at h; simp at h; subst h; exact .inl (Step_extract ho hx h3)
    · cases h
  · rename_i c ho
    split at h
    · rename_i hc
      split at h
      · rename_i x t ha ht
        have ha' : c.args = #[x] := by apply Array.ext'; simpa using ha
        have ht' : c.argTypes[0]? = some t := by rw [← Array.getElem?_toList, ht]; rfl
        unfold aLen at h
        split at h
        · rename_i cs n g hx
          split at h
          · rename_i e hu; cases h; exact .inl (Step_len ho hc ha' ht' hu hx)
          · cases h
        · rename_i i n hx
          split at h
          · rename_i e hu; cases h; exact .inl (Step_len_arr ho hc ha' ht' hu hx)
          · cases h
        · rename_i b hx
          split at h
          · rename_i hu; cases h; exact .inl (Step_len_str ho hc ha' ht' hu hx)
          · cases h
        · cases h
      · cases h
    · rename_i hc
      split at h
      · rename_i x y ha
        have ha' : c.args = #[x, y] := by apply Array.ext'; simpa using ha
        split at h
        · rename_i k p k2 q hx hy; cases h; exact .inl (Step_max ho hc ha' hx hy)
        · cases h
      · cases h
    · rename_i hc
      split at h
      · rename_i x y ha
        have ha' : c.args = #[x, y] := by apply Array.ext'; simpa using ha
        split at h
        · rename_i k p k2 q hx hy; cases h; exact .inl (Step_min ho hc ha' hx hy)
        · cases h
      · cases h
    · cases h
  · cases h
theorem Step_pure {v : AV} (h : aPureV P fr s o = some v) : Step P o fr s fr v s := (Pure_det h).elim Step_still Step_foreign
theorem Step_det {tb : Nat} {fr' : List AV} {v : AV} {s' : List Ob} (h : aDet P tb fr s o = some (fr', v, s')) : Step P o fr s fr' v s' := by
  unfold aDet at h
  split at h
  · rename_i u hu; cases h; exact Step_pure hu
  split at h
  · rename_i t ho
    split at h
    · cases h
    rename_i hnm
    obtain ⟨cs, h1, h2⟩ := map_some3 h
    cases h2
    exact Step_alloc hnm ho h1
  · rename_i t x ho
    split at h
    · cases h
    rename_i hnm
    obtain ⟨cs, h1, h2⟩ := map_some3 h
    cases h2
    exact Step_box hnm ho h1
  · rename_i t x y ho
    obtain ⟨u, h1, h2⟩ := map_some3 h
    cases h2
    unfold aStoreAt at h1
    split at h1
    · rename_i i k hx
      split at h1
      · rename_i ob hi
        split at h1
        · rename_i hl
          split at h1
          · rename_i new hnew
            cases h3 : aStore P t ob.cs k new with
            | none => rw [h3] at h1; cases h1
            | some cs' =>
              rw [h3] at h1
              simp at h1
              subst h1
              exact Step_store ho hx hi hl.1 hl.2 hnew h3
          · cases h1
        · cases h1
      · cases h1
    · cases h1
  · rename_i c ho
    split at h
    · rename_i hc
      split at h
      · rename_i x y t t' ha ht
        split at h
        · rename_i htt
          subst htt
          have ha' : c.args = #[x, y] := by apply Array.ext'; simpa using ha
          have ht' : c.argTypes = #[t, t] := by apply Array.ext'; simpa using ht
          exact Step_append _ ho hc ha' ht' h
        · cases h
      · cases h
    · cases h
  · cases h
end

end Go.Proofs.YtmacghaihlfcpaaGreat.Abs

namespace Go.Proofs.YtmacghaihlfcpaaGreat.Abs
open Go Go.ChangeShapes Go.WideShapes Go.ChangeAt Go.RowKit
set_option linter.unusedVariables false
set_option linter.unusedSimpArgs false

def readsOf (A : Array Oper) (o : Oper) : List Nat := o.looksAt A
/-- what an operation of the head does, in whatever order: of the frame it knows what it reads alone -/
def HStep (P : Program) (A : Array Oper) (o : Oper) (fr : List AV) (s : List Ob) (ts : List Nat) (v : AV) (s' : List Ob) : Prop :=
  ∀ M G w a, Fresh P M G w → Sim M G s w → FR M G w (aForget (readsOf A o) fr) a → ∀ (K : Act → World → Prop) (Q : Exit → Act → World → Prop),
    (∀ cv G' w' M', (∀ b, M' b → w.heap.size ≤ b ∨ (M b ∧ G.tg b ∈ ts)) → Ext M' G w G' w' → Sim M G' s' w' → VR M G' w' v cv → K (a.put o.dst cv) w') → o.wp P a w K Q

theorem aEval_forget {A : Array Oper} {o : Oper} {fr : List AV} {x : Operand} (hx : x ∈ o.op.operands) : aEval (aForget (readsOf A o) fr) x = aEval fr x := by
  cases x with
  | tmp t =>
    have hm : t ∈ readsOf A o := by
      unfold readsOf Oper.looksAt
      exact List.mem_append_left _ (List.mem_filterMap.2 ⟨.tmp t, by simpa using hx, rfl⟩)
    simp only [aEval]
    unfold aForget
    rw [List.getD_eq_getElem?_getD, List.getElem?_map, List.getD_eq_getElem?_getD]
    by_cases h : t < fr.length
    · rw [List.getElem?_range h]
      simp [hm]
    · rw [List.getElem?_eq_none (by simpa using h), List.getElem?_eq_none (Nat.le_of_not_lt h)]
      rfl
  | _ => rfl
theorem aPureV_congr {P : Program} {fr fr' : List AV} {s : List Ob} {o : Oper} (h : ∀ x ∈ o.op.operands, aEval fr' x = aEval fr x) : aPureV P fr' s o = aPureV P fr s o := by
  obtain ⟨dst, op, type, pos, after, guard⟩ := o
  have parts : ∀ ps : Array (Nat × Operand), (∀ x ∈ ps.toList.map (·.2), aEval fr' x = aEval fr x) → aParts fr' ps = aParts fr ps := by
    intro ps hp
    unfold aParts
    refine List.map_congr_left fun p hm => ?_
    rw [hp p.2 (List.mem_map.2 ⟨p, hm, rfl⟩)]
  cases op <;> simp only [Op.operands] at h <;> simp only [aPureV]
  case build t ps => rw [parts ps fun x hx => h x (by simpa using hx)]
  case buildSlice t n ps => rw [parts ps fun x hx => h x (by simpa using hx)]
  case makeFunc fn first captured =>
    rw [List.map_congr_left (l := captured.toList) (f := fun x => (aEval fr' x).plain) (g := fun x => (aEval fr x).plain) fun x hx => by
      show (aEval fr' x).plain = (aEval fr x).plain
      rw [h x (Array.mem_append.2 (.inr (by simpa using hx)))]]
  case call c =>
    cases hc : c.callee <;> try rfl
    rename_i b
    have hargs : ∀ x ∈ c.args.toList, aEval fr' x = aEval fr x := fun x hx => h x (by unfold Call.operands; exact Array.mem_append.2 (.inr (by simpa using hx)))
    cases b <;> try rfl
    case len =>
      cases ha : c.args.toList with
      | nil => rfl
      | cons x l =>
        cases l with
        | nil =>
          have e := hargs x (by rw [ha]; simp)
          cases c.argTypes.toList with
          | nil => rfl
          | cons t l =>
            cases l with
            | nil => show aLen P t (aEval fr' x) = aLen P t (aEval fr x); rw [e]
            | cons _ _ => rfl
        | cons y l => rfl
    all_goals
      cases ha : c.args.toList with
      | nil => rfl
      | cons x l =>
        cases l with
        | nil => rfl
        | cons y l =>
          cases l with
          | nil =>
            have e := hargs x (by rw [ha]; simp)
            have e2 := hargs y (by rw [ha]; simp)
            simp only [e, e2]
          | cons _ _ => rfl
  case slice t x lo hi mx =>
    cases mx <;> simp only
    have hb : ∀ (d : Nat) (b : Option Operand), (∀ y ∈ b, aEval fr' y = aEval fr y) → aBound fr' d b = aBound fr d b := by
      intro d b hb
      cases b with
      | none => rfl
      | some y => simp only [aBound]; rw [hb y rfl]
    unfold aSlice
    have hx := h x (by simp)
    rw [hx]
    have h1 : ∀ d, aBound fr' d lo = aBound fr d lo := fun d => hb d lo fun y hy => h y (by cases lo <;> simp_all)
    have h2 : ∀ d, aBound fr' d hi = aBound fr d hi := fun d => hb d hi fun y hy => h y (by cases hi <;> simp_all)
    simp only [h1, h2]
  all_goals (first | rfl | (simp_all; done))
theorem HStep_pure {P : Program} {A : Array Oper} {o : Oper} {fr : List AV} {s : List Ob} {ts : List Nat} {v : AV} (h : aPureV P fr s o = some v) : HStep P A o fr s ts v s := by
  have h' : aPureV P (aForget (readsOf A o) fr) s o = some v := by rw [aPureV_congr fun x hx => aEval_forget hx]; exact h
  intro M G w a hF hS hf K Q hK
  rcases Pure_det h' with hs | hs
  · obtain ⟨cv, h1, h2⟩ := hs M G w a hS hf
    unfold Oper.wp
    rw [h1, Oper.upon_value]
    exact hK cv G w (fun _ => False) (fun _ h => h.elim) (Ext.refl _ _ _) hS h2
  · obtain ⟨cv, ob, h1, h2⟩ := hs M G w a hS hf
    have hg := grown_alloc w ob
    have hm := More.addForeign G w
    unfold Oper.wp
    rw [h1, Oper.upon_value]
    exact hK cv _ _ (fun _ => False) (fun _ h => h.elim) (Ext.grow hg hm) (hS.grow hg hm rfl) h2
theorem HStep_call {P : Program} {A : Array Oper} {o : Oper} {fr : List AV} {s s' : List Ob} {ts : List Nat} {r : AV} {c : Call} {x : Operand} {f : FuncId} {fcs : List AV} (ho : o.op = .call c) (hc : c.callee = .value x) (hx : aEval fr x = .func (.func f) fcs)
    (hbody : enters P f = true) (hts : ∀ t ∈ storeMarks s, t ∈ ts)
    (hok : Ok P f ((c.args.toList.map fun y => (aEval fr y).soft) ++ fcs) s r s') (hr : r.mark = none) : HStep P A o fr s ts r s' := by
  intro M G w a hF hS hf K Q hK
  have hxo : ∀ y ∈ o.op.operands, aEval (aForget (readsOf A o) fr) y = aEval fr y := fun y hy => aEval_forget hy
  have hx' : aEval (aForget (readsOf A o) fr) x = .func (.func f) fcs := by
    rw [hxo x (by simp [ho, Op.operands, Call.operands, hc])]
    exact hx
  have hargs' : (c.args.toList.map fun y => (aEval (aForget (readsOf A o) fr) y).soft) = c.args.toList.map fun y => (aEval fr y).soft :=
    List.map_congr_left fun y hy => by rw [hxo y (by simp [ho, Op.operands, Call.operands]; right; simpa using hy)]
  have hsub := fun b (hb : MofS M G s w b) => hS.own_M hb
  have hcall := Call_wp (a := a) ho hc hx' hbody (by rw [hargs']; exact hok) hS hF.2 hf
  refine hcall K Q ?_
  intro v G' w' h1 h2 h3
  refine hK v G' w' (MofS M G s w) (fun b hb => ?_) h3 (h2.monoM fun b hb => ?_) ⟨h1.1, OwnC.of_plain hr⟩
  · rcases hsub b hb with h | ⟨h, t, ht, hmem⟩
    · exact .inl h
    · exact .inr ⟨h, by rw [ht]; exact hts t hmem⟩
  · rcases hsub b hb with h | ⟨h, _⟩
    · exact hF.1 b h
    · exact h

/-! which operations are ahead of which -/
def ancB (A : Array Oper) : Nat → Nat → Nat → Bool
  | 0, _, _ => false
  | f + 1, j, i => match A[j]? with
    | none => false
    | some o => o.after.toList.any fun e => Region.binds .any e && (e.on == i || ancB A f e.on i)
def Closed (A : Array Oper) (listed : Array Bool) : Prop := ∀ (j : Nat) (o : Oper), A[j]? = some o → listed.getD j false = true → ∀ e ∈ o.after, Region.binds .any e = true → listed.getD e.on false = true
theorem anc_listed {A : Array Oper} {listed : Array Bool} (hc : Closed A listed) : ∀ (f j i : Nat) (o : Oper), A[j]? = some o → (∀ e ∈ o.after, Region.binds .any e = true → listed.getD e.on false = true) → ancB A f j i = true → listed.getD i false = true
  | 0, _, _, _, _, _, h => by simp [ancB] at h
  | f + 1, j, i, o, hj, hp, h => by
    simp only [ancB, hj, List.any_eq_true] at h
    obtain ⟨e, he, hb⟩ := h
    simp only [Bool.and_eq_true, Bool.or_eq_true, beq_iff_eq] at hb
    obtain ⟨hb1, hb2⟩ := hb
    have h1 := hp e (by simpa using he) hb1
    rcases hb2 with hb2 | hb2
    · rw [← hb2]; exact h1
    · cases ho : A[e.on]? with
      | none => cases f <;> simp [ancB, ho] at hb2
      | some o' => exact anc_listed hc f e.on i o' ho (hc e.on o' ho h1) hb2
/-- the form of such a region: n operations at its head, the others behind them, one by one -/
def drawOK (A : Array Oper) (n L : Nat) : Bool :=
  decide (n ≤ A.size) &&
  ((List.range A.size).all fun i => match A[i]? with | some o => (o.after.toList.all fun e => !Region.binds .any e || decide (e.on < i)) && !isSelect o.op | none => true) &&
  ((List.range n).all fun i => match (A[i]?).bind (·.dst) with
    | none => true
    | some d => decide (d < L) && (List.range n).all fun j => match A[j]? with
      | none => true
      | some o => (!(o.looksAt A).contains d || (if i = j then false else if i < j then ancB A A.size j i else ancB A A.size i j)) && (i == j || o.dst != some d)) &&
  ((List.range A.size).all fun t => decide (t < n) || (List.range n).all fun i => ancB A A.size t i) &&
  Region.seqB .any A (A.size - n) n ((List.range A.size).map fun i => decide (i < n)).toArray

/-- the operation i of the head at the stores that it may meet; e: the operation that turns the store -/
def HCond (P : Program) (A : Array Oper) (e : Option Nat) (s0 s1 : List Ob) (ts : List Nat) (fr : List AV) (i : Nat) (o : Oper) (v : AV) : Prop :=
  match e with
  | none => HStep P A o fr s0 ts v s0
  | some e => if e = i then HStep P A o fr s0 ts v s1 else (ancB A A.size i e = false → HStep P A o fr s0 ts v s0) ∧ (ancB A A.size e i = false → HStep P A o fr s1 ts v s1)
/-- the head, one by one in the text's order -/
def HD (P : Program) (A : Array Oper) (e : Option Nat) (s0 s1 : List Ob) (ts : List Nat) : List Oper → Nat → List AV → (List AV → Prop) → Prop
  | [], _, fr, K => K fr
  | o :: l, i, fr, K =>
    match aWanted A fr o with
    | some false => (e = some i → s1 = s0) ∧ HD P A e s0 s1 ts l (i + 1) (aPut fr o.dst (.tuple [])) K
    | none => False
    | some true => ∃ v, HCond P A e s0 s1 ts fr i o v ∧ (∀ t ∈ ts, v.mark ≠ some t) ∧
      HD P A e s0 s1 ts l (i + 1) (aPut fr o.dst v) K
def frAt (A : Array Oper) (fr : List AV) (val : Nat → AV) : Nat → List AV
  | 0 => fr
  | i + 1 => aPut (frAt A fr val i) ((A[i]?).bind (·.dst)) (val i)
theorem frAt_length (A : Array Oper) (fr : List AV) (val : Nat → AV) : ∀ i, (frAt A fr val i).length = fr.length
  | 0 => rfl
  | i + 1 => by
    simp only [frAt]
    cases (A[i]?).bind (·.dst) with
    | none => exact frAt_length A fr val i
    | some d => simp [aPut, frAt_length A fr val i]
/-- what is known of the head's operation i -/
def HFact (P : Program) (A : Array Oper) (e : Option Nat) (s0 s1 : List Ob) (ts : List Nat) (fr : List AV) (val : Nat → AV) (i : Nat) (o : Oper) : Prop :=
  (aWanted A (frAt A fr val i) o = some false ∧ val i = .tuple [] ∧ (e = some i → s1 = s0)) ∨
  (aWanted A (frAt A fr val i) o = some true ∧ (∀ t ∈ ts, (val i).mark ≠ some t) ∧ HCond P A e s0 s1 ts (frAt A fr val i) i o (val i))
theorem HD_facts {P : Program} {A : Array Oper} {e : Option Nat} {s0 s1 : List Ob} {ts : List Nat} {fr0 : List AV} {K : List AV → Prop} : ∀ (l : List Oper) (i : Nat) (val : Nat → AV),
    (∀ j, l[j]? = if j < l.length then A[i + j]? else none) → (∀ j < i, ∀ o, A[j]? = some o → HFact P A e s0 s1 ts fr0 val j o) → HD P A e s0 s1 ts l i (frAt A fr0 val i) K →
    ∃ val', (∀ j < i + l.length, ∀ o, A[j]? = some o → HFact P A e s0 s1 ts fr0 val' j o) ∧ K (frAt A fr0 val' (i + l.length))
  | [], i, val, hl, hj, h => ⟨val, by simpa using hj, h⟩
  | o :: l, i, val, hl, hj, h => by
    have hi : A[i]? = some o := by simpa using (hl 0).symm
    have hl' : ∀ j, l[j]? = if j < l.length then A[i + 1 + j]? else none := fun j => by
      have := hl (j + 1)
      simpa [Nat.add_assoc, Nat.add_comm 1 j] using this
    -- the values from here on
    have step : ∀ v, HFact P A e s0 s1 ts fr0 (fun k => if k = i then v else val k) i o → HD P A e s0 s1 ts l (i + 1) (aPut (frAt A fr0 val i) o.dst v) K →
        ∃ val', (∀ j < i + (o :: l).length, ∀ o', A[j]? = some o' → HFact P A e s0 s1 ts fr0 val' j o') ∧ K (frAt A fr0 val' (i + (o :: l).length)) := by
      intro v hv hd
      have hsame : ∀ k, k ≤ i → frAt A fr0 (fun k => if k = i then v else val k) k = frAt A fr0 val k := by
        intro k
        induction k with
        | zero => intro _; rfl
        | succ k ih =>
          intro hk
          simp only [frAt]
          rw [ih (by omega), if_neg (by omega)]
      have := HD_facts l (i + 1) (fun k => if k = i then v else val k) hl' (fun j hjlt o' ho' => by
        by_cases hji : j = i
        · subst hji
          rw [hi] at ho'
          cases ho'
          exact hv
        · have := hj j (by omega) o' ho'
          unfold HFact at this ⊢
          rw [hsame j (by omega)]
          simp only [if_neg hji]
          exact this) (by simp only [frAt]; rw [hsame i (Nat.le_refl _), hi]; simpa using hd)
      obtain ⟨val', h1, h2⟩ := this
      exact ⟨val', fun j hjlt => h1 j (by simp at hjlt; omega), by rw [show i + (o :: l).length = i + 1 + l.length by simp; omega]; exact h2⟩
    simp only [HD] at h
    split at h
    · rename_i hw
      refine step (.tuple []) (.inl ⟨?_, by simp, h.1⟩) h.2
      have hsame : ∀ k, k ≤ i → frAt A fr0 (fun k => if k = i then AV.tuple [] else val k) k = frAt A fr0 val k := by
        intro k
        induction k with
        | zero => intro _; rfl
        | succ k ih => intro hk; simp only [frAt]; rw [ih (by omega), if_neg (by omega)]
      rw [hsame i (Nat.le_refl _)]
      exact hw
    · exact h.elim
    · rename_i hw
      obtain ⟨v, h1, h2, h3⟩ := h
      have hsame : ∀ k, k ≤ i → frAt A fr0 (fun k => if k = i then v else val k) k = frAt A fr0 val k := by
        intro k
        induction k with
        | zero => intro _; rfl
        | succ k ih => intro hk; simp only [frAt]; rw [ih (by omega), if_neg (by omega)]
      refine step v (.inr ⟨?_, ?_, ?_⟩) h3
      · rw [hsame i (Nat.le_refl _)]; exact hw
      · simpa using h2
      · rw [hsame i (Nat.le_refl _)]
        simpa using h1

theorem drawOK_spec {A : Array Oper} {n L : Nat} (h : drawOK A n L = true) :
    n ≤ A.size ∧ (∀ (i : Nat) (o : Oper), A[i]? = some o → (∀ e ∈ o.after, Region.binds .any e = true → e.on < i) ∧ isSelect o.op = false) ∧
    (∀ (i d : Nat), i < n → (A[i]?).bind (·.dst) = some d → d < L ∧ ∀ (j : Nat) (o : Oper), j < n → A[j]? = some o → (d ∈ o.looksAt A → i ≠ j ∧ (i < j → ancB A A.size j i = true) ∧ (j < i → ancB A A.size i j = true)) ∧ (i ≠ j → o.dst ≠ some d)) ∧
    (∀ t, n ≤ t → t < A.size → ∀ i, i < n → ancB A A.size t i = true) ∧
    Region.seqB .any A (A.size - n) n ((List.range A.size).map fun i => decide (i < n)).toArray = true := by
  unfold drawOK at h
  simp only [Bool.and_eq_true, decide_eq_true_eq, List.all_eq_true, List.mem_range] at h
  obtain ⟨⟨⟨⟨h1, h2⟩, h3⟩, h4⟩, h5⟩ := h
  refine ⟨h1, ?_, ?_, ?_, h5⟩
  · intro i o hi
    have hlt : i < A.size := (Array.getElem?_eq_some_iff.1 hi).1
    have := h2 i hlt
    rw [hi] at this
    simp only [Bool.and_eq_true, List.all_eq_true, Bool.not_eq_true', Bool.or_eq_true, decide_eq_true_eq] at this
    refine ⟨fun e he hb => ?_, this.2⟩
    rcases this.1 e (by simpa using he) with h | h
    · rw [hb] at h; cases h
    · exact h
  · intro i d hi hd
    have := h3 i hi
    rw [hd] at this
    simp only [Bool.and_eq_true, decide_eq_true_eq, List.all_eq_true, List.mem_range] at this
    refine ⟨this.1, fun j o hj ho => ?_⟩
    have hh := this.2 j hj
    rw [ho] at hh
    simp only [Bool.and_eq_true, Bool.or_eq_true, Bool.not_eq_true', beq_iff_eq, bne_iff_ne, ne_eq] at hh
    refine ⟨fun hm => ?_, fun hne => ?_⟩
    · have hc : (o.looksAt A).contains d = true := by simpa using hm
      rcases hh.1 with h0 | h0
      · rw [hc] at h0; cases h0
      · split at h0
        · cases h0
        · rename_i hne
          split at h0
          · rename_i hlt; exact ⟨hne, fun _ => h0, fun hh => by omega⟩
          · rename_i hlt; exact ⟨hne, fun hh => by omega, fun _ => h0⟩
    · rcases hh.2 with h0 | h0
      · exact absurd h0 hne
      · exact h0
  · intro t ht hts i hi
    have := h4 t hts
    simp only [Bool.or_eq_true, decide_eq_true_eq, List.all_eq_true, List.mem_range] at this
    rcases this with h | h
    · omega
    · exact h i hi
theorem aPut_get {fr : List AV} {d : Option Nat} {v : AV} {t : Nat} : (aPut fr d v).getD t .undef = if d = some t ∧ t < fr.length then v else fr.getD t .undef := by
  cases d with
  | none => simp [aPut]
  | some d =>
    simp only [aPut, List.getD_eq_getElem?_getD, List.getElem?_set]
    by_cases h : d = t
    · subst h
      by_cases h2 : d < fr.length
      · simp [h2]
      · simp [h2, List.getElem?_eq_none (Nat.le_of_not_lt h2)]
    · have : ¬ (some d = some t ∧ t < fr.length) := fun hh => h (by simpa using hh.1)
      rw [if_neg h, if_neg this]
/-- a slot of the frame at the operation i -/
theorem frAt_get {A : Array Oper} {fr : List AV} {val : Nat → AV} {t : Nat} : ∀ i, (∀ j < i, (A[j]?).bind (·.dst) = some t → (∀ k < i, k ≠ j → (A[k]?).bind (·.dst) ≠ some t) → t < fr.length → (frAt A fr val i).getD t .undef = val j) ∧ ((∀ j < i, (A[j]?).bind (·.dst) ≠ some t) → (frAt A fr val i).getD t .undef = fr.getD t .undef)
  | 0 => ⟨fun j hj => by omega, fun _ => rfl⟩
  | i + 1 => by
    obtain ⟨h1, h2⟩ := frAt_get (A := A) (fr := fr) (val := val) (t := t) i
    refine ⟨fun j hj hd hu ht => ?_, fun hn => ?_⟩
    · simp only [frAt]
      rw [aPut_get, frAt_length]
      by_cases hji : j = i
      · subst hji
        rw [if_pos ⟨hd, ht⟩]
      · rw [if_neg (fun hh => hu i (by omega) (fun e => hji e.symm) hh.1)]
        exact h1 j (by omega) hd (fun k hk => hu k (by omega)) ht
    · simp only [frAt]
      rw [aPut_get, if_neg (fun hh => hn i (by omega) hh.1)]
      exact h2 fun j hj => hn j (by omega)
theorem put_get {a : Act} {d : Option Tmp} {v : Value} {t : Nat} : (a.put d v).tmps.getD t undef = if d = some t ∧ t < a.tmps.size then v else a.tmps.getD t undef := by
  cases d with
  | none => simp [Act.put]
  | some d =>
    simp only [Act.put, Array.getD_eq_getD_getElem?, Array.getElem?_setIfInBounds]
    by_cases h : d = t
    · subst h
      by_cases h2 : d < a.tmps.size
      · simp [h2]
      · simp [h2]
    · have : ¬ (some d = some t ∧ t < a.tmps.size) := fun hh => h (by simpa using hh.1)
      rw [if_neg h, if_neg this]
theorem put_size (a : Act) (d : Option Tmp) (v : Value) : (a.put d v).tmps.size = a.tmps.size := by cases d <;> simp [Act.put]
theorem put_defers (a : Act) (d : Option Tmp) (v : Value) : (a.put d v).defers = a.defers := by cases d <;> rfl

/-! a draw turns no block -/
mutual
theorem VR0.drawn {G : Gh} {w : World} {n : Nat} : ∀ {a : AV} {v : Value}, VR0 G w a v → VR0 G { w with drawn := n } a v
  | .undef, _, h => by simp only [VR0]
  | .int .., _, h => by simp only [VR0] at h ⊢; exact h
  | .bool .., _, h => by simp only [VR0] at h ⊢; exact h
  | .str .., _, h => by simp only [VR0] at h ⊢; exact h
  | .nilp, _, h => by simp only [VR0] at h ⊢; exact h
  | .ref .., _, h => by simp only [VR0] at h ⊢; exact h
  | .arr .., _, h => by simp only [VR0] at h ⊢; exact h
  | .eptr cs o, _, h => by
    simp only [VR0] at h ⊢
    obtain ⟨b, ob, vs, h1, h2, h3, h4⟩ := h
    exact ⟨b, ob, vs, h1, h2, h3, VRs0.drawn h4⟩
  | .list cs k g, _, h => by
    simp only [VR0] at h ⊢
    obtain ⟨A, cap, h1, h2, h3, h4⟩ := h
    refine ⟨A, cap, h1, h2, h3, h4.imp id ?_⟩
    rintro ⟨b, o, vs, h5, h6, h7, h8⟩
    exact ⟨b, o, vs, h5, h6, h7, VRs0.drawn h8⟩
  | .nilf, _, h => by simp only [VR0] at h ⊢; exact h
  | .mapn, _, h => by simp only [VR0] at h ⊢; exact h
  | .mapr .., _, h => by simp only [VR0] at h ⊢; exact h
  | .func fn cs, _, h => by
    simp only [VR0] at h ⊢
    obtain ⟨vs, h1, h2⟩ := h
    exact ⟨vs, h1, VRs0.drawn h2⟩
  | .agg cs, _, h => by
    simp only [VR0] at h ⊢
    obtain ⟨vs, h1, h2⟩ := h
    exact ⟨vs, h1, VRs0.drawn h2⟩
  | .tuple cs, _, h => by
    simp only [VR0] at h ⊢
    obtain ⟨vs, h1, h2⟩ := h
    exact ⟨vs, h1, VRs0.drawn h2⟩
theorem VRs0.drawn {G : Gh} {w : World} {n : Nat} : ∀ {as : List AV} {vs : List Value}, VRs0 G w as vs → VRs0 G { w with drawn := n } as vs
  | [], _, h => by simp only [VRs0] at h ⊢; exact h
  | a :: as, _, h => by
    simp only [VRs0] at h ⊢
    obtain ⟨v, vs', h1, h2, h3⟩ := h
    exact ⟨v, vs', h1, VR0.drawn h2, VRs0.drawn h3⟩
end
theorem OwnC.drawn {M : Nat → Prop} {G : Gh} {w : World} {n : Nat} {a : AV} {v : Value} (h : OwnC M G w a v) : OwnC M G { w with drawn := n } a v := by
  unfold OwnC at *
  split <;> first | exact h | trivial
theorem VR.drawn {M : Nat → Prop} {G : Gh} {w : World} {n : Nat} {a : AV} {v : Value} (h : VR M G w a v) : VR M G { w with drawn := n } a v := ⟨h.1.drawn, h.2.drawn⟩
theorem Sim.drawn {M : Nat → Prop} {G : Gh} {s : List Ob} {w : World} {n : Nat} (h : Sim M G s w) : Sim M G s { w with drawn := n } :=
  ⟨h.n, h.inj, h.own, h.live, h.lt, fun i o hi hl => by
    obtain ⟨vs, h1, h2, h3⟩ := h.at_ i o hi hl
    exact ⟨vs, h1, h2, fun k a v hk hv => (h3 k a v hk hv).drawn⟩⟩
theorem Ext.drawn {M : Nat → Prop} {G G' : Gh} {w w' : World} {n : Nat} (h : Ext M G w G' w') : Ext M G w G' { w' with drawn := n } :=
  ⟨h.size, h.os, h.tape, h.output, h.n, h.live, h.mu, h.newobj, h.own, h.phi, h.cell, h.row, h.keep⟩

/-- how the frame and the store stand when the listed operations of the head have been carried out -/
def curS (e : Option Nat) (s0 s1 : List Ob) (listed : Array Bool) : List Ob := match e with
  | some e => if listed.getD e false = true then s1 else s0
  | none => s0
structure JJ (M : Nat → Prop) (G0 : Gh) (w0 : World) (A : Array Oper) (n : Nat) (e : Option Nat) (s0 s1 : List Ob) (fr : List AV) (val : Nat → AV) (listed : Array Bool) (a : Act) (w : World) : Prop where
  g : ∃ G, Ext M G0 w0 G w ∧ Sim M G (curS e s0 s1 listed) w ∧
    (∀ i d, i < n → listed.getD i false = true → (A[i]?).bind (·.dst) = some d → VR M G w (val i) (a.tmps.getD d undef)) ∧
    (∀ t, (∀ i, i < n → listed.getD i false = true → (A[i]?).bind (·.dst) ≠ some t) → VR M G w (fr.getD t .undef) (a.tmps.getD t undef))
  defers : a.defers = []
  size : a.tmps.size = fr.length
theorem ready_closed {A : Array Oper} {listed : Array Bool} {i : Nat} (hc : Closed A listed) (hr : i ∈ Region.ready .any A listed) : Closed A (listed.setIfInBounds i true) := by
  obtain ⟨hun, o, ho, hall⟩ := mem_ready.1 hr
  intro j oj hj hl ed he hb
  by_cases hij : i = j
  · subst hij
    rw [ho] at hj
    cases hj
    exact getD_set_true (hall ed he hb)
  · rw [getD_set_ne false hij] at hl
    exact getD_set_true (hc j oj hj hl ed he hb)

theorem AL_draw {n0 : Nat} {P : Program} {A : Array Oper} {id n : Nat} {e : Option Nat} {s0 s1 : List Ob} {ts : List Nat} {fr : List AV} {Q : AQ} (hm : P.follows .mixedOrders = true) (hok : drawOK A n fr.length = true) (he : ∀ x, e = some x → x < n) (he' : e = none → s1 = s0)
    (hts : ∀ t (k : Nat), (fr.getD t .undef).mark = some k → k ∉ ts) (h : HD P A e s0 s1 ts (A.toList.take n) 0 fr (fun fr' => AL n0 P A (A.toList.drop n) fr' s1 Q)) : AW n0 P (.region id A true) fr s0 Q := by
  obtain ⟨c1, c2, c3, c4, c5⟩ := drawOK_spec hok
  obtain ⟨val, hfact, hfin⟩ := HD_facts (A.toList.take n) 0 (fun _ => .undef) (fun j => by
    rw [List.getElem?_take]
    simp only [List.length_take, Array.length_toList, Nat.zero_add]
    by_cases hj : j < n
    · rw [if_pos hj, if_pos (by omega)]; simp
    · rw [if_neg hj, if_neg (by omega)]) (fun j hj => by omega) h
  have hlen : (A.toList.take n).length = n := by simp; omega
  rw [hlen, Nat.zero_add] at hfact hfin
  intro M G0 w0 hM a w ⟨G, hE, hS, hF⟩
  refine wp_region_any hm ?_
  have hdst : ∀ i j d, i < n → j < n → (A[i]?).bind (·.dst) = some d → (A[j]?).bind (·.dst) = some d → i = j := by
    intro i j d hi hj h1 h2
    by_cases hne : i = j
    · exact hne
    · exfalso
      cases ho : A[j]? with
      | none => rw [ho] at h2; cases h2
      | some o =>
        rw [ho] at h2
        exact ((c3 i d hi h1).2 j o hj ho).2 hne (by simpa using h2)
  -- the invariant's way
  have key : ∀ (fuel : Nat) (listed : Array Bool) (a : Act) (w : World), listed.size = A.size → Closed A listed → (∀ t, n ≤ t → listed.getD t false = false) →
      fuel = ((List.range A.size).filter fun i => !listed.getD i false).length → JJ M G0 w0 A n e s0 s1 fr val listed a w → wpAny P .any A (QC M G0 w0 Q) fuel listed a w := by
    intro fuel
    induction fuel with
    | zero =>
      intro listed a w hsz hcl htail hfuel hJ
      have hnone : ∀ i, i < A.size → listed.getD i false = true := by
        intro i hi
        cases hh : listed.getD i false with
        | true => rfl
        | false =>
          have hmem : i ∈ (List.range A.size).filter fun i => !listed.getD i false := List.mem_filter.2 ⟨List.mem_range.2 hi, by simp [hh]⟩
          rw [List.eq_nil_of_length_eq_zero hfuel.symm] at hmem
          cases hmem
      have hns : A.size = n := by
        rcases Nat.lt_or_ge n A.size with h1 | h1
        · have := hnone n h1; rw [htail n (Nat.le_refl _)] at this; cases this
        · omega
      refine ⟨?_, ?_⟩
      · cases hr : Region.ready .any A listed with
        | nil => rfl
        | cons x xs =>
          exfalso
          have hx : x ∈ Region.ready .any A listed := by rw [hr]; simp
          obtain ⟨hun, o, ho, _⟩ := mem_ready.1 hx
          have hxs : x < A.size := (Array.getElem?_eq_some_iff.1 ho).1
          have := hnone x hxs
          rw [getD_both hun] at this
          cases this
      · have hd : A.toList.drop n = [] := by rw [List.drop_eq_nil_iff]; simp; omega
        obtain ⟨⟨G', g1, g2, g3, g4⟩, j1, j2⟩ := hJ
        rw [hd] at hfin
        have hs1 : curS e s0 s1 listed = s1 := by
          cases e with
          | none => exact (he' rfl).symm
          | some x => simp only [curS]; rw [if_pos (hnone x (by have := he x rfl; omega))]
        rw [hs1] at g2
        refine hfin M G0 w0 hM a w ⟨G', g1, g2, j1, by rw [j2, frAt_length], fun t => ?_⟩
        by_cases hex : ∃ i, i < n ∧ (A[i]?).bind (·.dst) = some t
        · obtain ⟨i, hi, hdi⟩ := hex
          rw [(frAt_get n).1 i hi hdi (fun k hk hne hh => hne (hdst k i t hk hi hh hdi)) (c3 i t hi hdi).1]
          exact g3 i t hi (hnone i (by omega)) hdi
        · have hno : ∀ i, i < n → (A[i]?).bind (·.dst) ≠ some t := fun i hi hh => hex ⟨i, hi, hh⟩
          rw [(frAt_get n).2 hno]
          exact g4 t fun i hi _ => hno i hi
    | succ fuel ih =>
      intro listed a w hsz hcl htail hfuel hJ
      by_cases hall : ∀ i, i < n → listed.getD i false = true
      ·
        have hl : listed = ((List.range A.size).map fun i => decide (i < n)).toArray := by
          apply Array.ext
          · simp [hsz]
          · intro i h1 h2
            simp only [List.getElem_toArray, List.getElem_map, List.getElem_range]
            by_cases hi : i < n
            · have := hall i hi
              simpa [h1, hi] using this
            · have := htail i (by omega)
              simpa [h1, hi] using this
        have hcount : fuel + 1 = A.size - n := by
          rw [hfuel]
          have : ((List.range A.size).filter fun i => !listed.getD i false) = (List.range' n (A.size - n)) := by
            have hsplit : List.range A.size = List.range' 0 n ++ List.range' n (A.size - n) := by
              rw [List.range_eq_range']
              have := List.range'_append_1 (s := 0) (m := n) (n := A.size - n)
              rw [Nat.zero_add] at this
              rw [this]
              congr 1
              omega
            rw [hsplit, List.filter_append]
            rw [List.filter_eq_nil_iff.2 (by
              intro i hi
              rw [List.mem_range'_1] at hi
              simp only [Bool.not_eq_true', Bool.not_eq_false]
              exact hall i (by omega))]
            rw [List.nil_append, List.filter_eq_self.2]
            intro i hi
            rw [List.mem_range'_1] at hi
            rw [htail i hi.1]
            rfl
          rw [this, List.length_range']
        obtain ⟨⟨G', g1, g2, g3, g4⟩, j1, j2⟩ := hJ
        have hs1 : curS e s0 s1 listed = s1 := by
          cases e with
          | none => exact (he' rfl).symm
          | some x => simp only [curS]; rw [if_pos (hall x (he x rfl))]
        rw [hs1] at g2
        have hlist := hfin M G0 w0 hM a w ⟨G', g1, g2, j1, by rw [j2, frAt_length], fun t => by
          by_cases hex : ∃ i, i < n ∧ (A[i]?).bind (·.dst) = some t
          · obtain ⟨i, hi, hdi⟩ := hex
            rw [(frAt_get n).1 i hi hdi (fun k hk hne hh => hne (hdst k i t hk hi hh hdi)) (c3 i t hi hdi).1]
            exact g3 i t hi (hall i hi) hdi
          · have hno : ∀ i, i < n → (A[i]?).bind (·.dst) ≠ some t := fun i hi hh => hex ⟨i, hi, hh⟩
            rw [(frAt_get n).2 hno]
            exact g4 t fun i hi _ => hno i hi⟩
        have hseq := wpAny_of_seq (P := P) (ops := A) (md := .any) (A.toList.drop n) n listed a w (fun j => by simp) (by rw [hl]; simpa using c5) hlist
        have hll : (A.toList.drop n).length = fuel + 1 := by simp; omega
        rw [hll] at hseq
        exact hseq
      ·
        refine ⟨fun hr => ?_, fun i hi => ?_⟩
        · exfalso
          -- the least that is not listed is ready
          have hex : ∃ i, i < n ∧ listed.getD i false = false := by
            refine Classical.byContradiction fun hno => hall fun i hi => ?_
            cases hh : listed.getD i false with
            | true => rfl
            | false => exact absurd ⟨i, hi, hh⟩ hno
          have hmin : ∀ m, (∃ i, i ≤ m ∧ i < n ∧ listed.getD i false = false) → False := by
            intro m
            induction m using Nat.strongRecOn with
            | _ m ihm =>
              rintro ⟨i, him, hin, hun⟩
              have hio : i < A.size := by omega
              have hready : i ∈ Region.ready .any A listed ∨ ∃ j, j < i ∧ listed.getD j false = false := by
                by_cases hp : ∀ e ∈ A[i].after, Region.binds .any e = true → listed.getD e.on false = true
                · exact .inl (mem_ready.2 ⟨getD_in (by omega) hun, A[i], Array.getElem?_eq_getElem hio, hp⟩)
                · refine .inr (Classical.byContradiction fun hno => hp fun ed hed hb => ?_)
                  have hlt := (c2 i A[i] (Array.getElem?_eq_getElem hio)).1 ed hed hb
                  cases hh : listed.getD ed.on false with
                  | true => rfl
                  | false => exact absurd ⟨ed.on, hlt, hh⟩ hno
              rcases hready with h1 | ⟨j, hj, hjun⟩
              · rw [hr] at h1; cases h1
              · exact ihm j (by omega) ⟨j, Nat.le_refl _, by omega, hjun⟩
          obtain ⟨i, hi, hun⟩ := hex
          exact hmin i ⟨i, Nat.le_refl _, hi, hun⟩
        · obtain ⟨hun, o, ho, hpre⟩ := mem_ready.1 hi
          have hio : i < A.size := (Array.getElem?_eq_some_iff.1 ho).1
          have hin : i < n := by
            rcases Nat.lt_or_ge i n with h1 | h1
            · exact h1
            · exfalso
              refine hall fun j hj => ?_
              exact anc_listed hcl A.size i j o ho hpre (c4 i h1 hio j hj)
          obtain ⟨⟨G', g1, g2, g3, g4⟩, j1, j2⟩ := hJ
          have hunf : listed.getD i false = false := getD_both hun
          -- the slots that it reads
          have hslot : ∀ t, t ∈ o.looksAt A → VR M G' w ((frAt A fr val i).getD t .undef) (a.tmps.getD t undef) := by
            intro t ht
            by_cases hex : ∃ j, j < n ∧ (A[j]?).bind (·.dst) = some t
            · obtain ⟨j, hj, hdj⟩ := hex
              obtain ⟨k1, k2⟩ := c3 j t hj hdj
              obtain ⟨hne, hb1, hb2⟩ := (k2 i o hin ho).1 ht
              rcases Nat.lt_or_gt_of_ne hne with hlt | hgt
              · have hlj : listed.getD j false = true := anc_listed hcl A.size i j o ho hpre (hb1 hlt)
                rw [(frAt_get i).1 j hlt hdj (fun k hk hkj hh => hkj (hdst k j t (by omega) hj hh hdj)) k1]
                exact g3 j t hj hlj hdj
              · have hlj : listed.getD j false = false := by
                  cases hh : listed.getD j false with
                  | false => rfl
                  | true =>
                    cases hoj : A[j]? with
                    | none => rw [hoj] at hdj; cases hdj
                    | some oj =>
                      have := anc_listed hcl A.size j i oj hoj (hcl j oj hoj hh) (hb2 hgt)
                      rw [hunf] at this
                      cases this
                rw [(frAt_get i).2 fun k hk hh => by have := hdst k j t (by omega) hj hh hdj; omega]
                refine g4 t fun k hk hlk hh => ?_
                have := hdst k j t hk hj hh hdj
                subst this
                rw [hlj] at hlk
                cases hlk
            · have hno : ∀ j, j < n → (A[j]?).bind (·.dst) ≠ some t := fun j hj hh => hex ⟨j, hj, hh⟩
              rw [(frAt_get i).2 fun k hk => hno k (by omega)]
              exact g4 t fun k hk _ => hno k hk
          have hmask : FR M G' w (aForget (readsOf A o) (frAt A fr val i)) a := by
            refine ⟨j1, by simp [aForget, frAt_length, j2], fun t => ?_⟩
            unfold aForget
            rw [List.getD_eq_getElem?_getD, List.getElem?_map]
            by_cases ht : t < (frAt A fr val i).length
            · rw [List.getElem?_range ht]
              simp only [Option.map_some, Option.getD_some]
              split
              · rename_i hc
                exact hslot t (by simpa [readsOf] using hc)
              · exact ⟨by simp only [VR0], OwnC.of_plain rfl⟩
            · rw [List.getElem?_eq_none (by simpa using ht)]
              exact ⟨by simp only [Option.map_none, Option.getD_none, VR0], OwnC.of_plain rfl⟩
          have hwant : ∀ b, aWanted A (frAt A fr val i) o = some b → Region.wanted o (yielded A a.tmps) = b := by
            intro b hb
            refine aWanted_spec (fr := aForget (readsOf A o) (frAt A fr val i)) ?_ hmask
            rw [← hb]
            unfold aWanted
            split
            · rfl
            · rename_i g want hg
              cases hd : (A[g]?).bind (·.dst) with
              | none => rfl
              | some d =>
                dsimp only
                have hmem : d ∈ readsOf A o := by
                  unfold readsOf Oper.looksAt
                  rw [hg]
                  exact List.mem_append_right _ (by simp [hd])
                have : (aForget (readsOf A o) (frAt A fr val i)).getD d .undef = (frAt A fr val i).getD d .undef := by
                  have := aEval_forget (A := A) (o := ⟨none, .move (.tmp d), 0, "", #[], none⟩) (fr := frAt A fr val i) (x := .tmp d) (by simp [Op.operands])
                  unfold aForget
                  rw [List.getD_eq_getElem?_getD, List.getElem?_map, List.getD_eq_getElem?_getD]
                  by_cases h : d < (frAt A fr val i).length
                  · rw [List.getElem?_range h]
                    simp [hmem]
                  · rw [List.getElem?_eq_none (by simpa using h), List.getElem?_eq_none (Nat.le_of_not_lt h)]
                    rfl
                rw [this]
          have hcount : fuel = ((List.range A.size).filter fun k => !(listed.setIfInBounds i true).getD k false).length := by
            have hc : ((List.range A.size).filter fun k => !(listed.setIfInBounds i true).getD k false) = ((List.range A.size).filter fun k => !listed.getD k false).filter fun k => k != i := by
              rw [List.filter_filter]
              apply List.filter_congr
              intro k hk
              by_cases hki : i = k
              · subst hki
                have : (listed.setIfInBounds i true).getD i false = true := by simp [show i < listed.size by omega]
                rw [this]
                simp
              · rw [getD_set_ne false hki]
                simp [Ne.symm hki]
            rw [hc]
            have hmem : i ∈ (List.range A.size).filter fun k => !listed.getD k false := List.mem_filter.2 ⟨List.mem_range.2 hio, by simp [hunf]⟩
            have hnd : ((List.range A.size).filter fun k => !listed.getD k false).Nodup := List.Pairwise.filter _ List.nodup_range
            have : (((List.range A.size).filter fun k => !listed.getD k false).filter fun k => k != i).length = ((List.range A.size).filter fun k => !listed.getD k false).length - 1 := by
              rw [← List.Nodup.erase_eq_filter hnd, List.length_erase_of_mem hmem]
            rw [this, ← hfuel]
            rfl
          have hlset : ∀ k, (listed.setIfInBounds i true).getD k false = true ↔ k = i ∨ listed.getD k false = true := by
            intro k
            by_cases hki : i = k
            · subst hki
              have : (listed.setIfInBounds i true).getD i false = true := by simp [show i < listed.size by omega]
              simp [this]
            · rw [getD_set_ne false hki]
              simp [Ne.symm hki]
          -- what follows when the operation has told v
          have next : ∀ (G2 : Gh) (w2 : World) (cv : Value) (M' : Nat → Prop), (∀ b, M' b → w.heap.size ≤ b ∨ (M b ∧ G'.tg b ∈ ts)) → Ext M' G' w G2 w2 →
              Sim M G2 (curS e s0 s1 (listed.setIfInBounds i true)) w2 → VR M G2 w2 (val i) cv →
              wpAny P .any A (QC M G0 w0 Q) fuel (listed.setIfInBounds i true) (a.put o.dst cv) w2 := by
            intro G2 w2 cv M' hM' hE2 hS2 hv2
            refine ih _ _ _ (by simp [hsz]) (ready_closed hcl hi) (fun t ht => by rw [getD_set_ne false (by omega)]; exact htail t ht) hcount ?_
            have hMM : ∀ b, b < w.heap.size → M' b → M b := fun b hb hb' => by
              rcases hM' b hb' with h | h
              · omega
              · exact h.1
            have hkeep : ∀ (x : AV) (u : Value), (∀ t ∈ ts, x.mark ≠ some t) → VR M G' w x u → VR M G2 w2 x u := by
              intro x u hx hu
              refine hu.keep hE2 ?_
              intro g t hmk hg hlt _ _ _ hM2
              rcases hM' g hM2 with h | ⟨_, h⟩
              · omega
              · rw [hg] at h
                exact hx t h hmk
            refine ⟨⟨G2, g1.trans hE2 (fun b hb h => hMM b (Nat.lt_of_lt_of_le hb g1.size) h), hS2, ?_, ?_⟩, by rw [put_defers]; exact j1, by rw [put_size]; exact j2⟩
            · intro k d hk hlk hdk
              rw [hlset] at hlk
              rw [put_get]
              by_cases hki : k = i
              · subst hki
                rw [ho] at hdk
                have hdk' : o.dst = some d := by simpa using hdk
                rw [if_pos ⟨hdk', by rw [j2]; exact (c3 k d hin (by rw [ho]; simpa using hdk')).1⟩]
                exact hv2
              · have hne : ¬ (o.dst = some d ∧ d < a.tmps.size) := fun hh => hki (hdst k i d hk hin hdk (by rw [ho]; simpa using hh.1))
                rw [if_neg hne]
                refine hkeep _ _ ?_ (g3 k d hk (hlk.resolve_left hki) hdk)
                cases hok2 : A[k]? with
                | none => rw [hok2] at hdk; cases hdk
                | some ok =>
                  rcases hfact k hk ok hok2 with ⟨_, hv, _⟩ | ⟨_, hv, _⟩
                  · intro t _; rw [hv]; simp [AV.mark]
                  · exact hv
            · intro t hno
              rw [put_get]
              have hne : ¬ (o.dst = some t ∧ t < a.tmps.size) := fun hh => hno i hin ((hlset i).2 (.inl rfl)) (by rw [ho]; simpa using hh.1)
              rw [if_neg hne]
              refine hkeep _ _ (fun k hk hmk => hts t k hmk hk) (g4 t fun k hk hlk => hno k hk ((hlset k).2 (.inr hlk)))
          have hfr := hM.1.ext g1
          unfold wpOp
          rw [ho]
          dsimp only
          rcases hfact i hin o ho with ⟨hw, hv, hv2⟩ | ⟨hw, hv, hcond⟩
          · rw [hwant _ hw]
            simp only [Bool.false_eq_true, if_false]
            refine next G' w undef (fun _ => False) (fun _ h => h.elim) (Ext.refl _ _ _) ?_ ?_
            · cases e with
              | none => exact g2
              | some x =>
                unfold curS at g2 ⊢
                dsimp only at g2 ⊢
                -- an operation that is left out turns nothing: it isn't e unless s1 = s0
                by_cases hxi : x = i
                · subst hxi
                  rw [if_neg (by rw [hunf]; simp)] at g2
                  rw [if_pos ((hlset x).2 (.inl rfl)), hv2 rfl]
                  exact g2
                · by_cases hlx : listed.getD x false = true
                  · rw [if_pos hlx] at g2
                    rw [if_pos ((hlset x).2 (.inr hlx))]
                    exact g2
                  · rw [if_neg hlx] at g2
                    rw [if_neg (fun hh => by rcases (hlset x).1 hh with h | h; exact hxi h; exact hlx h)]
                    exact g2
            · rw [hv]
              exact ⟨by simp only [VR0]; exact ⟨[], rfl, by simp only [VRs0]⟩, OwnC.of_plain rfl⟩
          · rw [hwant _ hw]
            simp only [if_true]
            refine .inl ?_
            unfold HCond at hcond
            cases e with
            | none =>
              unfold curS at g2 next
              dsimp only at g2 next hcond
              exact hcond M G' w a hfr g2 hmask _ _ fun cv G2 w2 M' k1 k2 k3 k4 => next G2 w2 cv M' k1 k2 k3 k4
            | some x =>
              unfold curS at g2 next
              dsimp only at g2 next hcond
              by_cases hxi : x = i
              · subst hxi
                rw [if_pos rfl] at hcond
                rw [if_neg (by rw [hunf]; simp)] at g2
                exact hcond M G' w a hfr g2 hmask _ _ fun cv G2 w2 M' k1 k2 k3 k4 => next G2 w2 cv M' k1 k2 (by rw [if_pos ((hlset x).2 (.inl rfl))]; exact k3) k4
              · rw [if_neg hxi] at hcond
                by_cases hlx : listed.getD x false = true
                · rw [if_pos hlx] at g2
                  refine hcond.2 ?_ M G' w a hfr g2 hmask _ _ fun cv G2 w2 M' k1 k2 k3 k4 => next G2 w2 cv M' k1 k2 (by rw [if_pos ((hlset x).2 (.inr hlx))]; exact k3) k4
                  cases hh : ancB A A.size x i with
                  | false => rfl
                  | true =>
                    have hxn : x < n := he x rfl
                    have := anc_listed hcl A.size x i A[x] (Array.getElem?_eq_getElem (by omega)) (hcl x A[x] (Array.getElem?_eq_getElem (by omega)) hlx) hh
                    rw [hunf] at this
                    cases this
                · rw [if_neg hlx] at g2
                  refine hcond.1 ?_ M G' w a hfr g2 hmask _ _ fun cv G2 w2 M' k1 k2 k3 k4 => next G2 w2 cv M' k1 k2 (by rw [if_neg (fun hh => by rcases (hlset x).1 hh with h | h; exact hxi h; exact hlx h)]; exact k3) k4
                  cases hh : ancB A A.size i x with
                  | false => rfl
                  | true => exact absurd (anc_listed hcl A.size i x o ho hpre hh) hlx
  refine key A.size (Array.replicate A.size false) a _ (by simp) (fun j o hj hl => by rw [getD_replicate_false] at hl; cases hl) (fun t _ => getD_replicate_false _ _) ?_ ?_
  · rw [List.filter_eq_self.2 (fun i _ => by rw [getD_replicate_false]; rfl)]
    simp
  · refine ⟨⟨G, hE.drawn, ?_, (fun i d _ hl => by rw [getD_replicate_false] at hl; cases hl), fun t _ => (hF.at_ t).drawn⟩, hF.defers, hF.size⟩
    have : curS e s0 s1 (Array.replicate A.size false) = s0 := by
      unfold curS
      cases e with
      | none => rfl
      | some x => dsimp only; rw [if_neg (by rw [getD_replicate_false]; simp)]
    rw [this]
    exact hS.drawn
end Go.Proofs.YtmacghaihlfcpaaGreat.Abs
