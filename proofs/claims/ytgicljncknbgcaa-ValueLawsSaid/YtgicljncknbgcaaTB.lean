/- Typed values out of cells; constants; frames and stores. -/
import Derived.Test.YtgicljncknbgcaaTA
namespace Go.Proofs.Ytgicljncknbgcaa.Abs
open Go Go.ChangeShapes Go.WideShapes Go.ChangeAt Go.RowKit
set_option linter.unusedVariables false
set_option linter.unusedSimpArgs false

def decN {α : Type} (f : List TV → Option (α × List TV)) : Nat → List TV → Option (List α)
  | 0, [] => some []
  | 0, _ :: _ => none
  | n + 1, cs => match f cs with
    | some (x, r) => (decN f n r).map (x :: ·)
    | none => none
def hd {α : Type} (f : TV → Option α) : List TV → Option (α × List TV)
  | [] => none
  | c :: r => match f c with
    | some x => some (x, r)
    | none => none
def dInt (k : IntKind) : TV → Option Int
  | .int k' n => if k = k' then some n else none
  | _ => none
def dBool : TV → Option Bool
  | .bool b => some b
  | .tt => some true
  | .ff => some false
  | _ => none
def dStr : TV → Option (List UInt8)
  | .str s => some s
  | _ => none
def dLst (e : Ty) (f : List TV → Option (El e × List TV)) : TV → Option (List (El e))
  | .tl e' xs _ => castTo e xs
  | .ll cs n _ => decN f n cs
  | _ => none
mutual
def dec : (t : Ty) → List TV → Option (El t × List TV)
  | .int k => hd (dInt k)
  | .bool => hd dBool
  | .str => hd dStr
  | .list e => hd (dLst e (dec e))
  | .st fs => decs fs
def decs : (ts : List Ty) → List TV → Option (Els ts × List TV)
  | [] => fun cs => some ((), cs)
  | t :: ts => fun cs => match dec t cs with
    | some (x, r) => match decs ts r with
      | some (y, r2) => some ((x, y), r2)
      | none => none
    | none => none
end
theorem hd_some {α : Type} {f : TV → Option α} {cs : List TV} {x : α} {r : List TV} (h : hd f cs = some (x, r)) : ∃ c, cs = c :: r ∧ f c = some x := by
  cases cs with
  | nil => simp [hd] at h
  | cons c cs =>
    simp only [hd] at h
    split at h
    · rename_i y hy; cases h; exact ⟨c, rfl, hy⟩
    · cases h
theorem castTo_some {a b : Ty} {x : List (El a)} {y : List (El b)} (h : castTo b x = some y) : ∃ e : a = b, y = e ▸ x := by
  unfold castTo at h
  split at h
  · rename_i e _; cases h; exact ⟨e, rfl⟩
  · cases h
theorem map_some_eq {α β : Type} {x : Option α} {f : α → β} {y : β} (h : x.map f = some y) : ∃ a, x = some a ∧ f a = y := by
  cases x with
  | none => cases h
  | some a => exact ⟨a, rfl, by simpa using h⟩
theorem decN_spec {t : Ty} (f : List TV → Option (El t × List TV)) (hf : ∀ cs x r, f cs = some (x, r) → Wks (dns cs) (cellsOf t x ++ dns r)) : ∀ (n : Nat) (cs : List TV) (xs : List (El t)), decN f n cs = some xs → Wks (dns cs) (xs.flatMap (cellsOf t)) ∧ xs.length = n
  | 0, [], xs, h => by simp only [decN, Option.some.injEq] at h; subst h; exact ⟨.nil, rfl⟩
  | 0, _ :: _, xs, h => by simp [decN] at h
  | n + 1, cs, xs, h => by
    simp only [decN] at h
    split at h
    · rename_i x r hx
      obtain ⟨ys, h1, rfl⟩ := map_some_eq h
      obtain ⟨h2, h3⟩ := decN_spec f hf n r ys h1
      refine ⟨(hf _ _ _ hx).trans ?_, by simp [h3]⟩
      rw [List.flatMap_cons]
      exact .app (.refl _) h2
    · cases h
mutual
theorem dec_spec : ∀ (t : Ty) (cs : List TV) (x : El t) (r : List TV), dec t cs = some (x, r) → Wks (dns cs) (cellsOf t x ++ dns r)
  | .int k, cs, x, r, h => by
    simp only [dec] at h
    obtain ⟨c, rfl, h2⟩ := hd_some h
    clear h
    have h := h2
    clear h2
    unfold dInt at h
    split at h
    · split at h
      · rename_i hk; subst hk; cases h; exact .refl _
      · cases h
    · cases h
  | .bool, cs, x, r, h => by
    simp only [dec] at h
    obtain ⟨c, rfl, h2⟩ := hd_some h
    clear h
    have h := h2
    clear h2
    unfold dBool at h
    split at h <;> cases h <;> exact .refl _
  | .str, cs, x, r, h => by
    simp only [dec] at h
    obtain ⟨c, rfl, h2⟩ := hd_some h
    clear h
    have h := h2
    clear h2
    unfold dStr at h
    split at h <;> cases h <;> exact .refl _
  | .list e, cs, x, r, h => by
    simp only [dec] at h
    obtain ⟨c, rfl, h2⟩ := hd_some h
    clear h
    have h := h2
    clear h2
    unfold dLst at h
    split at h
    · obtain ⟨e1, h3⟩ := castTo_some h
      subst e1
      subst h3
      exact .cons (.unk (.refl _)) (.refl _)
    · rename_i cs' n g
      obtain ⟨h3, h4⟩ := decN_spec (dec e) (fun cs x r h => dec_spec e cs x r h) n cs' _ h
      refine .cons ?_ (.refl _)
      show Wk (.list (dns cs') n g) (.list _ _ .unk)
      rw [h4]
      exact .unk h3
    · cases h
  | .st fs, cs, x, r, h => by
    simp only [dec] at h
    exact decs_spec fs cs x r h
theorem decs_spec : ∀ (ts : List Ty) (cs : List TV) (x : Els ts) (r : List TV), decs ts cs = some (x, r) → Wks (dns cs) (cellsOfs ts x ++ dns r)
  | [], cs, x, r, h => by simp only [decs] at h; cases h; exact .refl _
  | t :: ts, cs, x, r, h => by
    simp only [decs] at h
    split at h
    · rename_i y r1 h1
      split at h
      · rename_i z r2' h2
        cases h
        have a1 := dec_spec t cs y r1 h1
        have a2 := decs_spec ts r1 z _ h2
        simp only [cellsOfs]
        rw [List.append_assoc]
        exact a1.trans (.app (.refl _) a2)
      · cases h
    · cases h
end
/-- a value as one of a code -/
def notAgg : TV → Bool
  | .agg _ => false
  | _ => true
def decV : (t : Ty) → TV → Option (El t)
  | .st fs => fun v => match v with
    | .agg cs => match decs fs cs with
      | some (x, []) => some x
      | _ => none
    | _ => none
  | .int k => dInt k
  | .bool => dBool
  | .str => dStr
  | .list e => dLst e (dec e)
def tval : (t : Ty) → El t → TV
  | .int k, n => .int k n
  | .bool, b => .bool b
  | .str, s => .str s
  | .list e, xs => .tl e xs .unk
  | .st fs, x => .agg (tcellss fs x)
def aval (t : Ty) (x : El t) : AV := dn (tval t x)
theorem decV_spec {t : Ty} {v : TV} {x : El t} (h : decV t v = some x) : Wk (dn v) (aval t x) := by
  cases t with
  | st fs =>
    simp only [decV] at h
    split at h
    · rename_i cs
      split at h
      · rename_i y hy
        cases h
        have := decs_spec fs cs x [] hy
        simp only [dns, List.append_nil] at this
        have e : aval (.st fs) x = .agg (cellsOfs fs x) := congrArg AV.agg (dns_tcellss fs x)
        rw [e]
        exact .agg this
      · cases h
    · cases h
  | int k =>
    have h2 : dec (.int k) [v] = some (x, []) := by simp only [dec, hd]; rw [show dInt k v = some x from h]
    have := dec_spec _ _ _ _ h2
    simp only [dns, List.append_nil, cellsOf] at this
    cases this with | cons h1 _ => exact h1
  | bool =>
    have h2 : dec .bool [v] = some (x, []) := by simp only [dec, hd]; rw [show dBool v = some x from h]
    have := dec_spec _ _ _ _ h2
    simp only [dns, List.append_nil, cellsOf] at this
    cases this with | cons h1 _ => exact h1
  | str =>
    have h2 : dec .str [v] = some (x, []) := by simp only [dec, hd]; rw [show dStr v = some x from h]
    have := dec_spec _ _ _ _ h2
    simp only [dns, List.append_nil, cellsOf] at this
    cases this with | cons h1 _ => exact h1
  | list e =>
    have h2 : dec (.list e) [v] = some (x, []) := by simp only [dec, hd]; rw [show dLst e (dec e) v = some x from h]
    have := dec_spec _ _ _ _ h2
    simp only [dns, List.append_nil, cellsOf] at this
    cases this with | cons h1 _ => exact h1
theorem aval_mark (t : Ty) (x : El t) : (aval t x).mark = none := by cases t <;> rfl
theorem aval_soft (t : Ty) (x : El t) : (aval t x).soft = aval t x := by cases t <;> rfl

/-! constants -/
def tAbsS : Value → TV
  | .int k n => .int k n
  | .bool b => if b = true then .tt else .ff
  | .string s => .str s.data.toList
  | .pointer a => if a = none then .nilp else .undef
  | .slice a n c => if a = none ∧ n = 0 ∧ c = 0 then .ll [] 0 .full else .undef
  | .nilFunc => .nilf
  | .func fn a b => if a.size = 0 ∧ b.size = 0 then .func fn [] else .undef
  | .tuple a => if a.size = 0 then .tup [] else .undef
  | _ => .undef
def tAbs : Value → TV
  | .agg cs => .agg (cs.toList.map tAbsS)
  | v => tAbsS v
theorem dn_tAbsS (v : Value) : dn (tAbsS v) = absS v := by
  cases v <;> simp only [tAbsS, absS] <;> (try split) <;> (try simp_all [dn, dns])
theorem dn_tAbs (v : Value) : dn (tAbs v) = absV v := by
  cases v <;> simp only [tAbs, absV] <;> first | exact dn_tAbsS _ | skip
  simp only [dn, dns_map, List.map_map]
  congr 1
  apply List.map_congr_left
  intro a _
  exact dn_tAbsS a
def tEval (fr : List TV) : Operand → TV
  | .tmp t => fr.getD t .undef
  | .const v => tAbs v
  | .func f => .func (.func f) []
  | .global _ => .undef
theorem dns_getD : ∀ (fr : List TV) (t : Nat), (dns fr).getD t .undef = dn (fr.getD t .undef)
  | [], t => by simp [dns, dn]
  | a :: as, 0 => by simp [dns]
  | a :: as, t + 1 => by simpa [dns] using dns_getD as t
theorem dn_tEval (fr : List TV) (x : Operand) : dn (tEval fr x) = aEval (dns fr) x := by
  cases x with
  | tmp t => simp only [tEval, aEval]; rw [dns_getD]
  | const v => exact dn_tAbs v
  | func f => rfl
  | global g => rfl
theorem dns_set : ∀ (fr : List TV) (d : Nat) (v : TV), dns (fr.set d v) = (dns fr).set d (dn v)
  | [], d, v => rfl
  | a :: as, 0, v => rfl
  | a :: as, d + 1, v => by simp only [List.set_cons_succ, dns, dns_set as d v]
theorem dns_length : ∀ fr : List TV, (dns fr).length = fr.length
  | [] => rfl
  | a :: as => by simp [dns, dns_length as]
def tPut (fr : List TV) (d : Option Nat) (v : TV) : List TV := match d with
  | some d => fr.set d v
  | none => fr
theorem dns_tPut (fr : List TV) (d : Option Nat) (v : TV) : dns (tPut fr d v) = aPut (dns fr) d (dn v) := by
  cases d with
  | none => rfl
  | some d => exact dns_set fr d v

inductive TOb where
  | cells (cs : List TV) (t : TypeId) (live : Bool)
  | tarr (ty : Ty) (xs : List (El ty)) (t : TypeId) (live : Bool)
def dnO : TOb → Ob
  | .cells cs t l => ⟨dns cs, t, l⟩
  | .tarr ty xs t l => ⟨xs.flatMap (cellsOf ty), t, l⟩
def dnS (s : List TOb) : List Ob := s.map dnO
theorem dnS_get (s : List TOb) (i : Nat) : (dnS s)[i]? = (s[i]?).map dnO := by simp [dnS]
theorem dnS_length (s : List TOb) : (dnS s).length = s.length := by simp [dnS]
end Go.Proofs.Ytgicljncknbgcaa.Abs
