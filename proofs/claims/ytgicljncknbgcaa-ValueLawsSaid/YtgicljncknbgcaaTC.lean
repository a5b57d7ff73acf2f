/- Operations that turn nothing, on typed values: what they tell, and on what condition. -/
import Derived.Test.YtgicljncknbgcaaTB
namespace Go.Proofs.Ytgicljncknbgcaa.Abs
open Go Go.ChangeShapes Go.WideShapes Go.ChangeAt Go.RowKit
set_option linter.unusedVariables false
set_option linter.unusedSimpArgs false

def gdP (g : Bool) : Prop := g = true
def tplain : TV → TV
  | .tl t xs (.own _ _ _) => .tl t xs .unk
  | .ll cs n (.own _ _ _) => .ll cs n .unk
  | v => v
theorem dn_tplain (v : TV) : dn (tplain v) = (dn v).plain := by
  cases v <;> try rfl
  · rename_i t xs g; cases g <;> rfl
  · rename_i cs n g; cases g <;> rfl
theorem dns_tplain (l : List TV) : dns (l.map tplain) = (dns l).map AV.plain := by
  simp only [dns_map, List.map_map]
  apply List.map_congr_left
  intro a _
  exact dn_tplain a
theorem dns_take : ∀ (l : List TV) (n : Nat), dns (l.take n) = (dns l).take n
  | [], n => by simp [dns]
  | a :: l, 0 => rfl
  | a :: l, n + 1 => by simp only [List.take_succ_cons, dns, dns_take l n]
theorem dns_drop : ∀ (l : List TV) (n : Nat), dns (l.drop n) = (dns l).drop n
  | [], n => by simp [dns]
  | a :: l, 0 => rfl
  | a :: l, n + 1 => by simp only [List.drop_succ_cons, dns, dns_drop l n]
theorem dns_get (l : List TV) (i : Nat) : (dns l)[i]? = (l[i]?).map dn := by rw [dns_map]; simp

/-- whether it is a boolean -/
def asB : TV → Option Bool
  | .bool b => some b
  | .tt => some true
  | .ff => some false
  | _ => none
theorem asB_spec {v : TV} {b : Bool} (h : asB v = some b) : dn v = .bool b := by
  unfold asB at h; split at h <;> cases h <;> rfl
/-- the numbers of an int64 -/
def inI64 : Int → Bool
  | .ofNat n => Nat.ble n 9223372036854775807
  | .negSucc n => Nat.ble n 9223372036854775807
theorem inI64_iff (n : Int) : inI64 n = true ↔ -9223372036854775808 ≤ n ∧ n ≤ 9223372036854775807 := by
  cases n with
  | ofNat n => simp only [inI64, Nat.ble_eq]; simp only [Int.ofNat_eq_natCast]; omega
  | negSucc n => simp only [inI64, Nat.ble_eq]; omega
def fits (n m : Nat) : Bool := Nat.ble n m
theorem fits_iff (n m : Nat) : fits n m = true ↔ n ≤ m := by simp only [fits, Nat.ble_eq]
def catOK (a b : List UInt8) : Bool := Nat.ble (a.length + b.length) 9223372036854775807
theorem catOK_iff (a b : List UInt8) : catOK a b = true ↔ a.length + b.length ≤ 9223372036854775807 := by simp only [catOK, Nat.ble_eq]
def canMake (bytes : Nat) (n m : Int) : Bool := (n == m) && match n with
  | .ofNat k => Nat.ble (bytes * k) 281474976710656 && Nat.ble k 9223372036854775807
  | .negSucc _ => false
theorem canMake_iff (bytes : Nat) (n m : Int) : canMake bytes n m = true ↔ n = m ∧ 0 ≤ n ∧ (bytes : Int) * n ≤ 281474976710656 ∧ n ≤ 9223372036854775807 := by
  unfold canMake
  cases n with
  | ofNat k =>
    simp only [Bool.and_eq_true, beq_iff_eq, Nat.ble_eq, Int.ofNat_eq_natCast]
    rw [← Int.natCast_mul]
    omega
  | negSucc k => simp only [Bool.and_false, Bool.false_eq_true, false_iff]; omega
/-- a number of a kind: whether it is told as it is, and what is told -/
def tW (wr : Bool) (k : IntKind) (n : Int) : Bool × Int := match wr, k with
  | false, .i64 => (inI64 n, n)
  | _, k => (true, k.wrap n)
theorem tW_spec {wr : Bool} {k : IntKind} {n : Int} (h : (tW wr k n).1 = true) : (tW wr k n).2 = k.wrap n := by
  unfold tW at h ⊢
  split
  · have h2 := (inI64_iff n).1 h
    rw [IntKind.wrap_i64]
    omega
  · rfl
def tIntOp (wr : Bool) (op : BinOp) (k : IntKind) (a b : Int) : Option (Bool × TV) :=
  match op with
  | .add => some ((tW wr k (a + b)).1, .int k (tW wr k (a + b)).2)
  | .sub => some ((tW wr k (a - b)).1, .int k (tW wr k (a - b)).2)
  | .mul => some ((tW wr k (a * b)).1, .int k (tW wr k (a * b)).2)
  | .quo => some (decide (b ≠ 0) && (tW wr k (a.tdiv b)).1, .int k (tW wr k (a.tdiv b)).2)
  | .rem => some (decide (b ≠ 0), .int k (a.tmod b))
  | .eql => some (true, .bool (a == b))
  | .neq => some (true, .bool (a != b))
  | .lss => some (true, .bool (decide (a < b)))
  | .leq => some (true, .bool (decide (a ≤ b)))
  | .gtr => some (true, .bool (decide (a > b)))
  | .geq => some (true, .bool (decide (a ≥ b)))
  | .and => some (true, .int k (iBits .and k a b))
  | .or => some (true, .int k (iBits .or k a b))
  | .xor => some (true, .int k (iBits .xor k a b))
  | _ => none
def tShift (op : BinOp) (k : IntKind) (a b : Int) : Option (Bool × TV) :=
  match op with
  | .shl => some (!(decide (b < 0)), .int k (iShl k a b))
  | .shr => some (!(decide (b < 0)), .int k (iShr k a b))
  | _ => none
def tStrOp (op : BinOp) (a b : List UInt8) : Option (Bool × TV) :=
  match op with
  | .add => some (catOK a b, .str (a ++ b))
  | .eql => some (true, .bool (a == b))
  | .neq => some (true, .bool (!(a == b)))
  | .lss => some (true, .bool (Op.bytesLess a b))
  | .leq => some (true, .bool (Op.bytesLess a b || a == b))
  | .gtr => some (true, .bool (!(Op.bytesLess a b || a == b)))
  | .geq => some (true, .bool (!(Op.bytesLess a b)))
  | _ => none
def tBoolOp (P : Program) (t : TypeId) (op : BinOp) (a b : Bool) : Option (Bool × TV) :=
  match P.underlying t, op with
  | some .bool, .eql => some (true, .bool (a == b))
  | some .bool, .neq => some (true, .bool (!(a == b)))
  | _, _ => none
def tEqF (P : Program) (f : TypeId → List TV → List TV → Option Bool) : List Field → List TV → List TV → Option Bool
  | [], _, _ => some true
  | g :: gs, cs, ds => if g.name ≠ "_" then
      match P.info? g.type with
      | some i => match f g.type ((cs.drop g.offset).take i.size) ((ds.drop g.offset).take i.size) with
        | some a => match tEqF P f gs cs ds with
          | some b => some (a && b)
          | none => none
        | none => none
      | none => none
    else tEqF P f gs cs ds
def tEqT (P : Program) : Nat → TypeId → List TV → List TV → Option Bool
  | 0, _, _, _ => none
  | d + 1, t, cs, ds => match P.underlying t with
    | some (.struct fs) => if P.stoodInHeld t = true then none else tEqF P (tEqT P d) fs.toList cs ds
    | some .bool => match cs, ds with
      | [a], [b] => match asB a, asB b with
        | some a, some b => some (a == b)
        | _, _ => none
      | _, _ => none
    | some (.int _) => match cs, ds with
      | [.int k a], [.int k' b] => if k = k' then some (a == b) else none
      | _, _ => none
    | some .string => match cs, ds with
      | [.str a], [.str b] => some (a == b)
      | _, _ => none
    | _ => none
theorem dns_sub (cs : List TV) (o n : Nat) : dns ((cs.drop o).take n) = ((dns cs).drop o).take n := by simp [dns_map, List.map_take, List.map_drop]
theorem tEqF_spec {P : Program} {f : TypeId → List TV → List TV → Option Bool} {f' : TypeId → List AV → List AV → Option Bool} (hf : ∀ t cs ds r, f t cs ds = some r → f' t (dns cs) (dns ds) = some r) : ∀ (gs : List Field) (cs ds : List TV) (r : Bool), tEqF P f gs cs ds = some r → aEqF P f' gs (dns cs) (dns ds) = some r
  | [], cs, ds, r, h => h
  | g :: gs, cs, ds, r, h => by
    simp only [tEqF] at h
    simp only [aEqF]
    split at h
    · rename_i hn
      rw [if_pos hn]
      split at h
      · rename_i i hi
        simp only [hi]
        split at h
        · rename_i a ha
          have h1 := hf _ _ _ _ ha
          rw [dns_sub, dns_sub] at h1
          split at h
          · rename_i b hb
            have h2 := tEqF_spec hf gs cs ds b hb
            rw [h1, h2]
            exact h
          · cases h
        · cases h
      · cases h
    · rename_i hn
      rw [if_neg hn]
      exact tEqF_spec hf gs cs ds r h
theorem tEqT_spec {P : Program} : ∀ (d : Nat) (t : TypeId) (cs ds : List TV) (r : Bool), tEqT P d t cs ds = some r → aEqT P d t (dns cs) (dns ds) = some r
  | 0, _, _, _, _, h => by cases h
  | d + 1, t, cs, ds, r, h => by
    unfold tEqT at h
    unfold aEqT
    split at h
    · rename_i fs hu
      simp only [hu]
      split at h
      · cases h
      · rename_i hs
        rw [if_neg hs]
        exact tEqF_spec (fun t cs ds r h => tEqT_spec d t cs ds r h) _ _ _ _ h
    · rename_i hu
      simp only [hu]
      split at h
      · split at h
        · rename_i ha hb
          simp only [dns, asB_spec ha, asB_spec hb, aEq1]
          exact h
        · cases h
      · cases h
    · rename_i k hu
      simp only [hu]
      split at h
      · simp only [dns, dn, aEq1]; exact h
      · cases h
    · rename_i hu
      simp only [hu]
      split at h
      · simp only [dns, dn, aEq1]; exact h
      · cases h
    · cases h
def tBin (P : Program) (wr : Bool) (t : TypeId) (op : BinOp) (x y : TV) : Option (Bool × TV) :=
  match x, y with
  | .int k a, .int k' b => match tShift op k a b with
    | some r => some r
    | none => if k = k' then tIntOp wr op k a b else none
  | .str a, .str b => tStrOp op a b
  | .nilp, .nilp => match P.underlying t, op with
    | some (.pointer _), .eql => some (true, .tt)
    | some (.pointer _), .neq => some (true, .ff)
    | _, _ => none
  | .ref _ _, .nilp => match P.underlying t, op with
    | some (.pointer _), .eql => some (true, .ff)
    | some (.pointer _), .neq => some (true, .tt)
    | _, _ => none
  | .agg cs, .agg ds => match P.underlying t with
    | some (.struct _) => if P.eqGuardType P.depth t = false then
        match op with
        | .eql => match tEqT P 20 t cs ds with
          | some b => some (true, .bool b)
          | none => none
        | .neq => match tEqT P 20 t cs ds with
          | some b => some (true, .bool (!b))
          | none => none
        | _ => none
      else none
    | _ => none
  | x, y => match asB x, asB y with
    | some a, some b => tBoolOp P t op a b
    | _, _ => none
theorem tBin_spec {P : Program} {wr : Bool} {t : TypeId} {op : BinOp} {x y v : TV} {g : Bool} (h : tBin P wr t op x y = some (g, v)) (hg : gdP g) : aBin P t op (dn x) (dn y) = some (dn v) := by
  unfold tBin at h
  split at h
  · split at h
    · rename_i r hsh
      cases h
      unfold tShift at hsh
      split at hsh <;> cases hsh <;> simp only [gdP, Bool.not_eq_true', decide_eq_false_iff_not] at hg <;> simp [dn, aBin, aShift, hg]
    rename_i hsh
    have hsh' : ∀ k' a' b', aShift op k' a' b' = none := by
      intro k' a' b'
      cases op <;> first
        | rfl
        | cases hsh
    split at h
    · rename_i hk
      subst hk
      simp only [dn, aBin, hsh', if_true]
      unfold tIntOp at h
      split at h <;> cases h <;> simp only [aIntOp, dn] <;> simp only [gdP, decide_eq_true_eq, Bool.and_eq_true] at hg <;> first
        | (rw [tW_spec hg]; done)
        | (rw [tW_spec hg.2]; simp [hg.1]; done)
        | simp [hg]
    · cases h
  · simp only [dn, aBin]
    unfold tStrOp at h
    split at h <;> cases h <;> simp only [aStrOp, dn] <;> simp only [gdP, catOK_iff] at hg <;> simp [hg]
  · simp only [dn, aBin]
    split at h <;> cases h <;> simp [*, dn]
  · simp only [dn, aBin]
    split at h <;> cases h <;> simp [*, dn]
  · simp only [dn, aBin]
    split at h
    · rename_i fs hu
      simp only [hu]
      split at h
      · rename_i hgd
        rw [if_pos hgd]
        split at h
        · split at h
          · rename_i b hb; cases h; rw [tEqT_spec _ _ _ _ _ hb]; rfl
          · cases h
        · split at h
          · rename_i b hb; cases h; rw [tEqT_spec _ _ _ _ _ hb]; rfl
          · cases h
        · cases h
      · cases h
    · cases h
  · split at h
    · rename_i a b ha hb
      rw [asB_spec ha, asB_spec hb]
      simp only [aBin]
      unfold tBoolOp at h
      split at h <;> cases h <;> simp [*, dn]
    · cases h
def tUn (wr : Bool) (op : UnOp) (x : TV) : Option (Bool × TV) :=
  match op, x with
  | .neg, .int k n => some ((tW wr k (0 - n)).1, .int k (tW wr k (0 - n)).2)
  | .not, .tt => some (true, .ff)
  | .not, .ff => some (true, .tt)
  | .not, .bool b => some (true, .bool (!b))
  | _, _ => none
theorem tUn_spec {wr : Bool} {op : UnOp} {x v : TV} {g : Bool} (h : tUn wr op x = some (g, v)) (hg : gdP g) : aUn op (dn x) = some (dn v) := by
  unfold tUn at h
  split at h <;> cases h <;> first
    | rfl
    | (simp only [dn, aUn]; rw [tW_spec hg])
def ofBytes (ns : List Int) : List UInt8 := ns.map fun n => UInt8.ofNat n.toNat
theorem bytes_of : ∀ (xs : List (El (.int .u8))), (xs.flatMap (cellsOf (.int .u8))).mapM byteOfI = some (ofBytes xs)
  | [] => rfl
  | x :: xs => by
    have ih := bytes_of xs
    show (AV.int .u8 x :: xs.flatMap (cellsOf (.int .u8))).mapM byteOfI = _
    rw [List.mapM_cons, ih]
    rfl
def tConv (P : Program) (wr : Bool) (src dst : TypeId) (x : TV) : Option (Bool × TV) :=
  match x with
  | .str b => match P.underlying src, P.underlying dst with
    | some .string, some .string => some (true, .str b)
    | _, _ => none
  | .tl (.int .u8) xs _ => match P.underlying src, P.underlying dst with
    | some (.slice e), some .string => match P.underlying e with
      | some (.int .u8) => some (true, .str (ofBytes xs))
      | _ => none
    | _, _ => none
  | .int _ n => match P.underlying src, P.underlying dst with
    | some _, some (.int k) => some ((tW wr k n).1, .int k (tW wr k n).2)
    | _, _ => none
  | _ => none
theorem tConv_spec {P : Program} {wr : Bool} {src dst : TypeId} {x v : TV} {g : Bool} (h : tConv P wr src dst x = some (g, v)) (hg : gdP g) : aConv P src dst (dn x) = some (dn v) := by
  unfold tConv at h
  split at h
  · split at h
    · cases h; simp only [dn, aConv, *]
    · cases h
  · rename_i xs gt
    split at h
    · rename_i e h1 h2
      split at h
      · rename_i h3
        cases h
        simp only [dn, aConv, h1, h2, h3]
        have hl : (xs.flatMap (cellsOf (.int .u8))).length = xs.length := by
          have := flat_len (t := .int .u8) xs
          rw [this]
          exact Nat.mul_one _
        refine (if_pos hl).trans ?_
        rw [bytes_of xs]
        rfl
      · cases h
    · cases h
  · split at h
    · cases h; simp only [dn, aConv, *]; rw [tW_spec hg]
    · cases h
  · cases h

/-! memory -/
def tLoad (P : Program) (t : TypeId) (cs : List TV) (o : Nat) : Option TV :=
  match aggSize P t with
  | some (some n) => if o + n ≤ cs.length then some (.agg (((cs.drop o).take n).map tplain)) else none
  | some none => cs[o]?
  | none => none
theorem tLoad_spec {P : Program} {t : TypeId} {cs : List TV} {o : Nat} {v : TV} (h : tLoad P t cs o = some v) : aLoad P t (dns cs) o = some (dn v) := by
  unfold tLoad at h
  unfold aLoad
  split at h
  · rename_i n hn
    simp only [hn]
    split at h
    · rename_i hl
      cases h
      rw [dns_length, if_pos hl]
      simp only [dn, dns_tplain, dns_take, dns_drop]
    · cases h
  · rename_i hn
    simp only [hn]
    rw [dns_get, h]
    rfl
  · cases h
/-- element i of a row of typed values -/
theorem flat_split {t : Ty} (xs : List (El t)) (i : Nat) (h : i < xs.length) : ∃ a c, xs.flatMap (cellsOf t) = a ++ c ∧ a.length = i * t.size ∧ c.take t.size = cellsOf t (xs.getD i (dflt t)) ∧ t.size ≤ c.length := by
  refine ⟨(xs.take i).flatMap (cellsOf t), (xs.drop i).flatMap (cellsOf t), ?_, ?_, ?_, ?_⟩
  · rw [← List.flatMap_append, List.take_append_drop]
  · rw [flat_len, List.length_take, Nat.min_eq_left (Nat.le_of_lt h)]
  · rw [List.drop_eq_getElem_cons h, List.flatMap_cons, List.take_append_of_le_length (by rw [cellsOf_len]; exact Nat.le_refl _), List.take_of_length_le (by rw [cellsOf_len]; exact Nat.le_refl _)]
    simp [h]
  · rw [flat_len, List.length_drop]
    have : 1 ≤ xs.length - i := by omega
    have := Nat.mul_le_mul_right t.size this
    omega
theorem aLoad_piece {P : Program} {t : TypeId} {a c : List AV} {n o : Nat} {v : AV} (hn : n ≤ c.length) (h : aLoad P t (c.take n) o = some v) : aLoad P t (a ++ c) (a.length + o) = some v := by
  unfold aLoad at h ⊢
  split at h
  · rename_i m hm
    split at h
    · rename_i hl
      cases h
      rw [List.length_take] at hl
      rw [List.length_append, if_pos (by omega)]
      congr 2
      rw [List.drop_append, List.drop_of_length_le (by omega), List.nil_append, Nat.add_sub_cancel_left, List.drop_take, List.take_take, Nat.min_eq_left (by omega)]
    · cases h
  · rename_i hm
    rw [List.getElem?_append_right (by omega), Nat.add_sub_cancel_left]
    rw [List.getElem?_take] at h
    split at h
    · exact h
    · cases h
  · cases h
def tLoadAt (P : Program) (s : List TOb) (t : TypeId) (x : TV) : Option (Bool × TV) :=
  match x with
  | .ref i k => match s[i]? with
    | some (.cells cs _ l) => if l = true then (tLoad P t cs k).map fun v => (true, v) else none
    | _ => none
  | .ep cs k => (tLoad P t cs k).map fun v => (true, tplain v)
  | .ap i ix sz o => match s[i]? with
    | some (.tarr ty xs _ l) => if l = true ∧ sz = ty.size then (tLoad P t (tcells ty (xs.getD ix.toNat (dflt ty))) o).map fun v => (decide (0 ≤ ix ∧ ix < xs.length), v) else none
    | _ => none
  | _ => none
theorem tLoadAt_spec {P : Program} {s : List TOb} {t : TypeId} {x v : TV} {g : Bool} (h : tLoadAt P s t x = some (g, v)) (hg : gdP g) : aLoadAt P (dnS s) t (dn x) = some (dn v) := by
  unfold tLoadAt at h
  split at h
  · rename_i i k
    split at h
    · rename_i cs t' l hs
      split at h
      · rename_i hl
        obtain ⟨u, h1, h2⟩ := map_some_eq h
        cases h2
        simp only [dn, aLoadAt, dnS_get, hs, Option.map_some, dnO, hl, if_true]
        exact tLoad_spec h1
      · cases h
    · cases h
  · rename_i cs k
    obtain ⟨u, h1, h2⟩ := map_some_eq h
    cases h2
    simp only [dn, aLoadAt]
    rw [tLoad_spec h1]
    simp [dn_tplain]
  · rename_i i ix sz o
    split at h
    · rename_i ty xs t' l hs
      split at h
      · rename_i hc
        obtain ⟨hl, hsz⟩ := hc
        obtain ⟨u, h1, h2⟩ := map_some_eq h
        cases h2
        simp only [gdP, decide_eq_true_eq] at hg
        simp only [dn, aLoadAt, dnS_get, hs, Option.map_some, dnO, hl, if_true]
        obtain ⟨a, c, e1, e2, e3, e4⟩ := flat_split xs ix.toNat (by omega)
        have h3 := tLoad_spec h1
        rw [dns_tcells, ← e3] at h3
        rw [e1, hsz, ← e2]
        exact aLoad_piece e4 h3
      · cases h
    · cases h
  · cases h
def tNil (x : TV) : Option (Bool × TV) := match x with
  | .ref _ _ | .ep _ _ | .ap _ _ _ _ => some (true, x)
  | _ => none
def tFieldAddr (P : Program) (t : TypeId) (x : TV) (f : Nat) : Option (Bool × TV) :=
  match x with
  | .ref i k => (aField P t f).map fun r => (true, .ref i (k + r.1))
  | .ep cs k => (aField P t f).map fun r => (true, .ep cs (k + r.1))
  | .ap i ix sz k => (aField P t f).map fun r => (true, .ap i ix sz (k + r.1))
  | _ => none
theorem tFieldAddr_spec {P : Program} {t : TypeId} {x v : TV} {f : Nat} {g : Bool} (h : tFieldAddr P t x f = some (g, v)) : aFieldAddr P t (dn x) f = some (dn v) := by
  unfold tFieldAddr at h
  split at h
  · obtain ⟨r, h1, h2⟩ := map_some_eq h; cases h2; simp [dn, aFieldAddr, h1]
  · obtain ⟨r, h1, h2⟩ := map_some_eq h; cases h2; simp [dn, aFieldAddr, h1]
  · obtain ⟨r, h1, h2⟩ := map_some_eq h; cases h2; simp [dn, aFieldAddr, h1, Nat.add_assoc]
  · cases h
def tIndexAddr (P : Program) (t : TypeId) (x y : TV) : Option (Bool × TV) :=
  match x, y with
  | .tl ty xs g, .int _ ix => match aElem P t with
    | some (_, size) => if size = ty.size then some (decide (0 ≤ ix ∧ ix < xs.length), .ep (tcells ty (xs.getD ix.toNat (dflt ty))) 0) else none
    | none => none
  | .ll cs n g, .int _ ix => match aElem P t with
    | some (_, size) => if 0 ≤ ix ∧ ix < n ∧ cs.isEmpty = false then some (true, .ep cs (ix.toNat * size)) else none
    | none => none
  | .arr i n, .int _ ix => match aElem P t with
    | some (_, size) => some (decide (0 ≤ ix ∧ ix < n), .ap i ix size 0)
    | none => none
  | _, _ => none
theorem tIndexAddr_spec {P : Program} {t : TypeId} {x y v : TV} {g : Bool} (h : tIndexAddr P t x y = some (g, v)) (hg : gdP g) : ∃ a, aIndexAddr P t (dn x) (dn y) = some a ∧ Wk a (dn v) := by
  unfold tIndexAddr at h
  split at h
  · rename_i ty xs gt kd ix
    split at h
    · rename_i e size he
      split at h
      · rename_i hsz
        cases h
        simp only [gdP, decide_eq_true_eq] at hg
        have hlt : ix.toNat < xs.length := by omega
        obtain ⟨a, c, e1, e2, e3, e4⟩ := flat_split xs ix.toNat hlt
        obtain ⟨_, i', _, _, hpos⟩ := aElem_spec he
        refine ⟨.eptr (xs.flatMap (cellsOf ty)) (ix.toNat * size), ?_, ?_⟩
        · simp only [dn, aIndexAddr, he]
          have hl : 0 < (xs.flatMap (cellsOf ty)).length := by
            rw [flat_len]; exact Nat.mul_pos (by omega) (by omega)
          have hne : (xs.flatMap (cellsOf ty)).isEmpty = false := by
            cases hq : xs.flatMap (cellsOf ty) with
            | nil => rw [hq] at hl; simp at hl
            | cons => rfl
          rw [if_pos ⟨hg.1, hg.2, hne⟩]
        · simp only [dn]
          rw [hsz, ← e2, dns_tcells, ← e3]
          have := Wk.eptr (cs := xs.flatMap (cellsOf ty)) (a := a) (c := c) (n := ty.size) (o := 0) (by rw [List.append_assoc, List.take_append_drop]; exact e1) e4
          simpa using this
      · cases h
    · cases h
  · rename_i cs n gt kd ix
    split at h
    · rename_i e size he
      split at h
      · rename_i hc
        cases h
        refine ⟨_, ?_, .refl _⟩
        simp only [dn, aIndexAddr, he]
        have hne : (dns cs).isEmpty = false := by
          cases cs with
          | nil => simp at hc
          | cons => rfl
        rw [if_pos ⟨hc.1, hc.2.1, hne⟩]
      · cases h
    · cases h
  · rename_i i n kd ix
    split at h
    · rename_i e size he
      cases h
      simp only [gdP, decide_eq_true_eq] at hg
      refine ⟨_, ?_, .refl _⟩
      simp only [dn, aIndexAddr, he]
      rw [if_pos hg]
      rfl
    · cases h
  · cases h
def tIndex (P : Program) (t : TypeId) (x y : TV) : Option (Bool × TV) :=
  match x, y with
  | .str l, .int _ ix => match P.underlying t with
    | some .string => some (decide (0 ≤ ix ∧ ix < l.length), .int .u8 ((l.getD ix.toNat 0).toNat : Int))
    | _ => none
  | _, _ => none
theorem tIndex_spec {P : Program} {t : TypeId} {x y v : TV} {g : Bool} (h : tIndex P t x y = some (g, v)) (hg : gdP g) : aIndex P t (dn x) (dn y) = some (dn v) := by
  unfold tIndex at h
  split at h
  · rename_i l kd ix
    split at h
    · rename_i hu
      cases h
      simp only [gdP, decide_eq_true_eq] at hg
      have hlt : ix.toNat < l.length := by omega
      simp only [dn, aIndex, hu]
      rw [if_pos hg.1]
      simp [hlt]
    · cases h
  · cases h
def asI : TV → Option Int
  | .int _ n => some n
  | _ => none
/-- the bounds of a part -/
def tBounds (n : Nat) (lo hi : Option TV) : Option Bool :=
  match lo, hi with
  | none, none => some true
  | some a, none => (asI a).map fun (a : Int) => decide (0 ≤ a ∧ a ≤ (n : Int))
  | none, some b => (asI b).map fun (b : Int) => decide (0 ≤ b ∧ b ≤ (n : Int))
  | some a, some b => match asI a, asI b with
    | some a, some b => some (decide (0 ≤ a ∧ a ≤ b ∧ b ≤ (n : Int)))
    | _, _ => none
def tPart {α : Type} (xs : List α) (lo hi : Option TV) : List α :=
  let ys := match hi with
    | some b => match asI b with
      | some b => xs.take b.toNat
      | none => xs
    | none => xs
  match lo with
  | some a => match asI a with
    | some a => ys.drop a.toNat
    | none => ys
  | none => ys
def tSlice (P : Program) (t : TypeId) (x : TV) (lo hi : Option TV) : Option (Bool × TV) :=
  match x with
  | .tl ty xs g => match aElem P t with
    | some (_, size) => if size = ty.size then (tBounds xs.length lo hi).map fun p => (p, .tl ty (tPart xs lo hi) .unk) else none
    | none => none
  | .str b => match P.underlying t with
    | some .string => (tBounds b.length lo hi).map fun p => (p, .str (tPart b lo hi))
    | _ => none
  | _ => none
theorem tBounds_spec {α : Type} {fr : List TV} {lo hi : Option Operand} (xs : List α) {g : Bool} (h : tBounds xs.length (lo.map (tEval fr)) (hi.map (tEval fr)) = some g) (hg : gdP g) :
    ∃ l h', aBound (dns fr) 0 lo = some l ∧ aBound (dns fr) xs.length hi = some h' ∧ l ≤ h' ∧ h' ≤ xs.length ∧ tPart xs (lo.map (tEval fr)) (hi.map (tEval fr)) = (xs.take h').drop l := by
  have key : ∀ (x : Operand) (n : Int) (d : Nat), asI (tEval fr x) = some n → 0 ≤ n → aBound (dns fr) d (some x) = some n.toNat := by
    intro x n d hx h0
    unfold asI at hx
    split at hx
    · rename_i k m hm
      cases hx
      simp only [aBound, ← dn_tEval, hm, dn]
      rw [if_pos h0]
    · cases hx
  cases lo with
  | none =>
    cases hi with
    | none =>
      refine ⟨0, xs.length, rfl, rfl, by omega, by omega, ?_⟩
      simp [tPart]
    | some y =>
      simp only [Option.map_none, Option.map_some, tBounds] at h
      obtain ⟨b, h1, rfl⟩ := map_some_eq h
      simp only [gdP, decide_eq_true_eq] at hg
      refine ⟨0, b.toNat, rfl, key y b _ h1 hg.1, by omega, by omega, ?_⟩
      simp [tPart, h1]
  | some x =>
    cases hi with
    | none =>
      simp only [Option.map_none, Option.map_some, tBounds] at h
      obtain ⟨a, h1, rfl⟩ := map_some_eq h
      simp only [gdP, decide_eq_true_eq] at hg
      refine ⟨a.toNat, xs.length, key x a _ h1 hg.1, rfl, by omega, by omega, ?_⟩
      simp [tPart, h1]
    | some y =>
      simp only [Option.map_some, tBounds] at h
      split at h
      · rename_i a b h1 h2
        cases h
        simp only [gdP, decide_eq_true_eq] at hg
        refine ⟨a.toNat, b.toNat, key x a _ h1 hg.1, key y b _ h2 (by omega), by omega, by omega, ?_⟩
        simp [tPart, h1, h2]
      · cases h
theorem flat_take {t : Ty} (xs : List (El t)) (h : Nat) : (xs.flatMap (cellsOf t)).take (h * t.size) = (xs.take h).flatMap (cellsOf t) := by
  induction xs generalizing h with
  | nil => simp
  | cons x xs ih =>
    cases h with
    | zero => simp
    | succ h =>
      rw [List.flatMap_cons, List.take_succ_cons, List.flatMap_cons, Nat.succ_mul, Nat.add_comm (h * t.size)]
      rw [List.take_append, List.take_of_length_le (by rw [cellsOf_len]; omega), cellsOf_len, Nat.add_sub_cancel_left, ih]
theorem flat_drop {t : Ty} (xs : List (El t)) (h : Nat) : (xs.flatMap (cellsOf t)).drop (h * t.size) = (xs.drop h).flatMap (cellsOf t) := by
  induction xs generalizing h with
  | nil => simp
  | cons x xs ih =>
    cases h with
    | zero => simp
    | succ h =>
      rw [List.flatMap_cons, List.drop_succ_cons, Nat.succ_mul, Nat.add_comm (h * t.size)]
      rw [List.drop_append, List.drop_of_length_le (by rw [cellsOf_len]; omega), cellsOf_len, Nat.add_sub_cancel_left, ih, List.nil_append]
theorem tSlice_spec {P : Program} {fr : List TV} {t : TypeId} {x : Operand} {lo hi : Option Operand} {v : TV} {g : Bool} (h : tSlice P t (tEval fr x) (lo.map (tEval fr)) (hi.map (tEval fr)) = some (g, v)) (hg : gdP g) : ∃ a, aSlice P (dns fr) t x lo hi = some a ∧ WkM a (dn v) := by
  unfold tSlice at h
  split at h
  · rename_i ty xs gt hx
    split at h
    · rename_i e size he
      split at h
      · rename_i hsz
        obtain ⟨p, h1, h2⟩ := map_some_eq h
        cases h2
        obtain ⟨l, h', k1, k2, k3, k4, k5⟩ := tBounds_spec xs h1 hg
        unfold aSlice
        rw [← dn_tEval, hx]
        simp only [dn, he, k1, k2]
        rw [if_pos ⟨k3, k4⟩]
        refine ⟨_, rfl, .of ?_ rfl⟩
        subst hsz
        rw [flat_take, flat_drop, k5]
        have e : h' - l = ((xs.take h').drop l).length := by simp; omega
        rw [e]
        exact .unk (.refl _)
      · cases h
    · cases h
  · rename_i b hx
    split at h
    · rename_i hu
      obtain ⟨p, h1, h2⟩ := map_some_eq h
      cases h2
      obtain ⟨l, h', k1, k2, k3, k4, k5⟩ := tBounds_spec b h1 hg
      unfold aSlice
      rw [← dn_tEval, hx]
      simp only [dn, hu, k1, k2]
      rw [if_pos ⟨k3, k4⟩]
      exact ⟨_, rfl, by rw [k5]; exact .refl _⟩
    · cases h
  · cases h
def tLen (P : Program) (t : TypeId) (x : TV) : Option (Bool × TV) :=
  match x with
  | .tl _ xs _ => match P.underlying t with
    | some (.slice _) => some (true, .int .i64 xs.length)
    | _ => none
  | .ll _ n _ => match P.underlying t with
    | some (.slice _) => some (true, .int .i64 n)
    | _ => none
  | .arr _ n => match P.underlying t with
    | some (.slice _) => some (true, .int .i64 n)
    | _ => none
  | .str b => match P.underlying t with
    | some .string => some (true, .int .i64 b.length)
    | _ => none
  | _ => none
theorem tLen_spec {P : Program} {t : TypeId} {x v : TV} {g : Bool} (h : tLen P t x = some (g, v)) : aLen P t (dn x) = some (dn v) := by
  unfold tLen at h
  split at h <;> first | (split at h <;> cases h <;> simp only [dn, aLen, *]) | cases h

/-! structs and slices that are put together -/
def tpCells : TV → Option (List TV)
  | .agg cs => some (cs.map tplain)
  | .undef | .tup _ => none
  | .ap _ _ _ _ => none
  | a => some [tplain a]
theorem plain_plain (a : AV) : a.plain.plain = a.plain := by
  cases a <;> try rfl
  rename_i cs n g
  cases g <;> rfl
theorem tpCells_spec {v : TV} {cs : List TV} (h : tpCells v = some cs) : (aCells (dn v)).map (fun l => l.map AV.plain) = some (dns cs) := by
  unfold tpCells at h
  split at h
  · cases h
    simp only [dn, aCells, Option.map_some, dns_tplain, List.map_map]
    congr 1
    apply List.map_congr_left
    intro a _
    exact plain_plain a
  · cases h
  · cases h
  · cases h
  · rename_i h1 h2 h3 h4
    cases h
    cases v <;> first
      | exact absurd rfl (h1 _)
      | exact absurd rfl h2
      | exact absurd rfl (h3 _)
      | exact absurd rfl (h4 _ _ _ _)
      | (simp only [dns, dn_tplain]; rfl)
def tsplice (cs : List TV) (k : Nat) (new : List TV) : List TV := cs.take k ++ new ++ cs.drop (k + new.length)
theorem dns_tsplice (cs : List TV) (k : Nat) (new : List TV) : dns (tsplice cs k new) = splice (dns cs) k (dns new) := by
  simp only [tsplice, splice, dns_app, dns_take, dns_drop, dns_length]
def tFill (place : Nat → Option (Nat × Nat)) (cells : List TV) : List (Nat × TV) → Option (List TV)
  | [] => some cells
  | (i, v) :: rest =>
    match place i with
    | none => none
    | some (off, size) => match tpCells v with
      | none => none
      | some vs => if vs.length ≠ size ∨ cells.length < off + vs.length then none else tFill place (tsplice cells off vs) rest
theorem tFill_spec (place : Nat → Option (Nat × Nat)) : ∀ (parts : List (Nat × TV)) (cells cs : List TV), tFill place cells parts = some cs →
    ∃ ps, partsOf (parts.map fun p => (p.1, dn p.2)) = some ps ∧ aFill place (dns cells) ps = some (dns cs)
  | [], cells, cs, h => by simp only [tFill, Option.some.injEq] at h; subst h; exact ⟨[], by simp [partsOf], rfl⟩
  | (i, v) :: rest, cells, cs, h => by
    simp only [tFill] at h
    split at h
    · cases h
    · rename_i off size hp
      split at h
      · cases h
      · rename_i vs hv
        split at h
        · cases h
        · rename_i hc
          obtain ⟨ps, h1, h2⟩ := tFill_spec place rest _ cs h
          have h3 := tpCells_spec hv
          cases h4 : aCells (dn v) with
          | none => rw [h4] at h3; cases h3
          | some l =>
            rw [h4] at h3
            simp only [Option.map_some, Option.some.injEq] at h3
            refine ⟨(i, dns vs) :: ps, ?_, ?_⟩
            · unfold partsOf at h1 ⊢
              simp only [List.map_cons, List.mapM_cons]
              rw [h4, h1]
              simp [h3]
            · simp only [aFill, hp]
              rw [dns_length, dns_length, if_neg hc, ← dns_tsplice]
              exact h2
def tParts (fr : List TV) (parts : Array (Nat × Operand)) : List (Nat × TV) := parts.toList.map fun p => (p.1, tEval fr p.2)
theorem tParts_spec (fr : List TV) (parts : Array (Nat × Operand)) : (tParts fr parts).map (fun p => (p.1, dn p.2)) = aParts (dns fr) parts := by
  simp only [tParts, aParts, List.map_map]
  apply List.map_congr_left
  intro p _
  simp [dn_tEval]
theorem dns_tAbsS (l : List Value) : dns (l.map tAbsS) = l.map absS := by
  rw [dns_map, List.map_map]
  apply List.map_congr_left
  intro a _
  exact dn_tAbsS a
def tBuild (P : Program) (t : TypeId) (parts : List (Nat × TV)) : Option (Bool × TV) :=
  match P.underlying t, zeroOf P t with
  | some (.struct fs), some z =>
    match aPlaces P fs with
    | some pl => (tFill (pl[·]?) (z.cells.toList.map tAbsS) parts).map fun cs => (true, .agg cs)
    | none => none
  | _, _ => none
theorem tBuild_spec {P : Program} {t : TypeId} {fr : List TV} {parts : Array (Nat × Operand)} {v : TV} {g : Bool} (h : tBuild P t (tParts fr parts) = some (g, v)) : aBuild P t (aParts (dns fr) parts) = some (dn v) := by
  unfold tBuild at h
  unfold aBuild
  split at h
  · rename_i fs z h1 h2
    simp only [h1, h2]
    split at h
    · rename_i pl h3
      obtain ⟨cs, h4, h5⟩ := map_some_eq h
      cases h5
      obtain ⟨ps, h6, h7⟩ := tFill_spec _ _ _ _ h4
      rw [tParts_spec] at h6
      rw [dns_tAbsS] at h7
      simp only [h3, h6]
      rw [h7]
      rfl
    · cases h
  · cases h
end Go.Proofs.Ytgicljncknbgcaa.Abs
