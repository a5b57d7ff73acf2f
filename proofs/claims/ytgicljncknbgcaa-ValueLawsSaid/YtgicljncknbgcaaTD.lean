/- One operation on typed values. -/
import Derived.Test.YtgicljncknbgcaaTC
namespace Go.Proofs.Ytgicljncknbgcaa.Abs
open Go Go.ChangeShapes Go.WideShapes Go.ChangeAt Go.RowKit
set_option linter.unusedVariables false
set_option linter.unusedSimpArgs false

def tyOf (P : Program) : Nat → TypeId → Option Ty
  | 0, _ => none
  | n + 1, t => match P.underlying t with
    | some (.int k) => some (.int k)
    | some .bool => some .bool
    | some .string => some .str
    | some (.slice e) => (tyOf P n e).map .list
    | some (.struct fs) => (fs.toList.mapM fun f => tyOf P n f.type).map .st
    | some (.array m e) => (tyOf P n e).map fun y => .st (List.replicate m y)
    | _ => none
def typed (P : Program) (e : TypeId) (cs : List TV) (len : Nat) : TV :=
  match tyOf P 10 e with
  | some ty => match decN (dec ty) len cs with
    | some xs => .tl ty xs .full
    | none => .ll cs len .full
  | none => .ll cs len .full
theorem typed_wk (P : Program) (e : TypeId) (cs : List TV) (len : Nat) : WkM (.list (dns cs) len .full) (dn (typed P e cs len)) := by
  unfold typed
  split
  · rename_i ty _
    split
    · rename_i xs h
      obtain ⟨h1, h2⟩ := decN_spec (dec ty) (fun cs x r h => dec_spec ty cs x r h) _ _ _ h
      refine .of ?_ rfl
      simp only [dn]
      rw [h2]
      exact .list h1 fun _ => rfl
    · exact .refl _
  · exact .refl _
def tBuildSlice (P : Program) (t : TypeId) (len : Nat) (parts : List (Nat × TV)) : Option (Bool × TV) :=
  match aElem P t with
  | some (e, size) =>
    match zeroOf P e with
    | some z =>
      if len * size ≤ 16777216 ∧ 0 < z.cells.size then
        (tFill (fun i => some (i * size, size)) ((zerosArr z (len * size)).toList.map tAbsS) parts).map fun cs => (true, typed P e cs len)
      else none
    | none => none
  | none => none
theorem tBuildSlice_spec {P : Program} {t : TypeId} {len : Nat} {fr : List TV} {parts : Array (Nat × Operand)} {v : TV} {g : Bool} (h : tBuildSlice P t len (tParts fr parts) = some (g, v)) : ∃ a, aBuildSlice P t len (aParts (dns fr) parts) = some a ∧ WkM a (dn v) := by
  unfold tBuildSlice at h
  unfold aBuildSlice
  split at h
  · rename_i e size h1
    split at h
    · rename_i z h2
      split at h
      · rename_i hc
        obtain ⟨cs, h4, h5⟩ := map_some_eq h
        cases h5
        obtain ⟨ps, h6, h7⟩ := tFill_spec _ _ _ _ h4
        rw [tParts_spec] at h6
        rw [dns_tAbsS] at h7
        simp only [h1, h2, h6]
        rw [if_pos hc, h7]
        exact ⟨_, rfl, typed_wk P e cs len⟩
      · cases h
    · cases h
  · cases h
def tPure (P : Program) (wr : Bool) (fr : List TV) (s : List TOb) (op : Op) : Option (Bool × TV) :=
  match op with
  | .move x => some (true, tEval fr x)
  | .assign x => some (true, tEval fr x)
  | .pick c x y => match tEval fr c with
    | .tt => some (true, tEval fr x)
    | .ff => some (true, tEval fr y)
    | _ => none
  | .build t parts => tBuild P t (tParts fr parts)
  | .buildSlice t n parts => tBuildSlice P t n (tParts fr parts)
  | .load t x => tLoadAt P s t (tEval fr x)
  | .nilCheck x => tNil (tEval fr x)
  | .binOp op t x y _ => tBin P wr t op (tEval fr x) (tEval fr y)
  | .unOp op _ x => tUn wr op (tEval fr x)
  | .convert src dst x => tConv P wr src dst (tEval fr x)
  | .makeFunc fn first captured => if first.size = 0 then some (true, .func fn (captured.toList.map fun x => tplain (tEval fr x))) else none
  | .slice t x lo hi none => tSlice P t (tEval fr x) (lo.map (tEval fr)) (hi.map (tEval fr))
  | .fieldAddr t x f => tFieldAddr P t (tEval fr x) f
  | .indexAddr t x y => tIndexAddr P t (tEval fr x) (tEval fr y)
  | .index t x y => tIndex P t (tEval fr x) (tEval fr y)
  | .extract x k => match tEval fr x with
    | .tup vs => (vs[k]?).map fun v => (true, tplain v)
    | _ => none
  | .call c => match c.callee with
    | .builtin .len => match c.args.toList, c.argTypes.toList with
      | [x], [t] => tLen P t (tEval fr x)
      | _, _ => none
    | .builtin .max => match c.args.toList with
      | [x, y] => match tEval fr x, tEval fr y with
        | .int k a, .int _ b => some (true, .int k (iMax a b))
        | _, _ => none
      | _ => none
    | .builtin .min => match c.args.toList with
      | [x, y] => match tEval fr x, tEval fr y with
        | .int k a, .int _ b => some (true, .int k (iMin a b))
        | _, _ => none
      | _ => none
    | _ => none
  | _ => none
theorem tPure_spec {P : Program} {wr : Bool} {fr : List TV} {s : List TOb} {o : Oper} {g : Bool} {v : TV} (h : tPure P wr fr s o.op = some (g, v)) (hg : gdP g) : ∃ a, aPureV P (dns fr) (dnS s) o = some a ∧ WkM a (dn v) := by
  obtain ⟨dst, op, type, pos, after, guard⟩ := o
  cases op <;> simp only [tPure] at h <;> try (cases h; done)
  case move x => cases h; exact ⟨_, rfl, by simp only [dn_tEval]; exact .refl _⟩
  case assign x => cases h; exact ⟨_, rfl, by simp only [dn_tEval]; exact .refl _⟩
  case pick c x y =>
    split at h
    · rename_i hc; cases h; simp only [aPureV, ← dn_tEval, hc, dn]; exact ⟨_, rfl, .refl _⟩
    · rename_i hc; cases h; simp only [aPureV, ← dn_tEval, hc, dn]; exact ⟨_, rfl, .refl _⟩
    · cases h
  case build t parts => simp only [aPureV]; exact ⟨_, tBuild_spec h, .refl _⟩
  case buildSlice t n parts => simp only [aPureV]; exact tBuildSlice_spec h
  case load t x => simp only [aPureV, ← dn_tEval]; exact ⟨_, tLoadAt_spec h hg, .refl _⟩
  case nilCheck x =>
    simp only [aPureV, ← dn_tEval]
    unfold tNil at h
    split at h <;> cases h <;> simp only [*, dn] <;> exact ⟨_, rfl, .refl _⟩
  case binOp op t x y ty => simp only [aPureV, ← dn_tEval]; exact ⟨_, tBin_spec h hg, .refl _⟩
  case unOp op t x => simp only [aPureV, ← dn_tEval]; exact ⟨_, tUn_spec h hg, .refl _⟩
  case convert src dst x => simp only [aPureV, ← dn_tEval]; exact ⟨_, tConv_spec h hg, .refl _⟩
  case makeFunc fn first captured =>
    split at h
    · rename_i h0
      cases h
      simp only [aPureV]
      rw [if_pos h0]
      refine ⟨_, rfl, ?_⟩
      simp only [dn, dns_map, List.map_map]
      have : (captured.toList.map fun x => (aEval (dns fr) x).plain) = captured.toList.map (dn ∘ fun x => tplain (tEval fr x)) := by
        apply List.map_congr_left
        intro x _
        simp [dn_tplain, dn_tEval]
      rw [dns_map] at this
      rw [this]
      exact .refl _
    · cases h
  case slice t x lo hi mx =>
    cases mx with
    | none => simp only [aPureV]; exact tSlice_spec h hg
    | some m => simp at h
  case fieldAddr t x f => simp only [aPureV, ← dn_tEval]; exact ⟨_, tFieldAddr_spec h, .refl _⟩
  case indexAddr t x y =>
    simp only [aPureV, ← dn_tEval]
    obtain ⟨a, h1, h2⟩ := tIndexAddr_spec h hg
    refine ⟨a, h1, .of h2 ?_⟩
    unfold tIndexAddr at h
    split at h
    · split at h
      · split at h
        · cases h; rfl
        · cases h
      · cases h
    · split at h
      · split at h
        · cases h; rfl
        · cases h
      · cases h
    · split at h
      · cases h; rfl
      · cases h
    · cases h
  case index t x y => simp only [aPureV, ← dn_tEval]; exact ⟨_, tIndex_spec h hg, .refl _⟩
  case extract x k =>
    split at h
    · rename_i vs hx
      obtain ⟨u, h1, h2⟩ := map_some_eq h
      cases h2
      simp only [aPureV, ← dn_tEval, hx, dn]
      rw [dns_get, h1]
      exact ⟨_, rfl, by rw [dn_tplain]; exact .refl _⟩
    · cases h
  case call c =>
    split at h
    · rename_i hc
      split at h
      · rename_i x t ha ht
        simp only [aPureV, hc, ha, ht, ← dn_tEval]
        exact ⟨_, tLen_spec h, .refl _⟩
      · cases h
    · rename_i hc
      split at h
      · rename_i x y ha
        split at h
        · rename_i hx hy
          cases h
          simp only [aPureV, hc, ha, ← dn_tEval, hx, hy, dn]
          exact ⟨_, rfl, .refl _⟩
        · cases h
      · cases h
    · rename_i hc
      split at h
      · rename_i x y ha
        split at h
        · rename_i hx hy
          cases h
          simp only [aPureV, hc, ha, ← dn_tEval, hx, hy, dn]
          exact ⟨_, rfl, .refl _⟩
        · cases h
      · cases h
    · cases h
end Go.Proofs.Ytgicljncknbgcaa.Abs
