/- Entries that are laid, and written behind. -/
import Derived.Test.YtmacghaihlfcpaaGreatSW
namespace Go.Proofs.YtmacghaihlfcpaaGreat.Abs
noncomputable section
open Go Go.ChangeShapes Go.WideShapes Go.ChangeAt Go.RowKit
set_option linter.unusedVariables false
set_option linter.unusedSimpArgs false

/-- an entry more: what it has as yet, and its stamp -/
def aEntry (P : Program) (s : List Ob) (t : TypeId) (x key : AV) : Option (AV × List Ob) :=
  match P.underlying t with
  | some (.map kt et) => match x, zeroOf P et with
    | .mapr i, some z => match s[i]? with
      | some ob => if ob.live = true ∧ ob.t = mapT then match ob.cs with
          | .int .i64 c :: l => if keyed P kt = true ∧ keyOk P kt key = true ∧ 0 ≤ c then
              match aFindK P kt key 0 l with
              | some none => some (.tuple [absV z, .int .i64 c], s.set i { ob with cs := .int .i64 (c + 1) :: (l ++ [key.plain, absV z, .int .i64 c]) })
              | _ => none
            else none
          | _ => none
        else none
      | none => none
    | _, _ => none
  | _ => none
/-- the entry of this stamp -/
def findB (b : Int) : Nat → List AV → Option Nat
  | j, _ :: _ :: bb :: l => match bb with
    | .int .i64 n => if (n.toNat : Int) = b then some j else findB b (j + 1) l
    | _ => none
  | _, _ => none
theorem findB_run {G : Gh} {w : World} {b : Int} : ∀ (l : List AV) (vs : List Value) (i j : Nat), findB b i l = some j → VRs0 G w l vs → i ≤ j ∧ (entriesOf vs).findIdx? (fun e => (e.born : Int) == b) = some (j - i)
  | [], _, _, _, h, _ => by simp [findB] at h
  | [_], _, _, _, h, _ => by simp [findB] at h
  | [_, _], _, _, _, h, _ => by simp [findB] at h
  | k :: v :: bb :: l, vs, i, j, h, hv => by
    simp only [findB] at h
    split at h
    · rename_i n
      simp only [VRs0] at hv
      obtain ⟨u1, t1, rfl, h1, u2, t2, rfl, h2, u3, t3, rfl, h3, h4⟩ := hv
      simp only [VR0] at h3
      subst h3
      simp only [entriesOf, List.findIdx?_cons]
      split at h
      · rename_i hb
        cases h
        refine ⟨Nat.le_refl _, ?_⟩
        simp [hb]
      · rename_i hb
        obtain ⟨q1, q2⟩ := findB_run l t3 (i + 1) j h h4
        refine ⟨by omega, ?_⟩
        rw [if_neg (by simpa using hb), q2]
        simp only [Option.map_some, Option.some.injEq]
        omega
    · cases h
def aEStore (s : List Ob) (x st v : AV) : Option (List Ob) :=
  match x, st with
  | .mapr i, .int .i64 b => match s[i]? with
    | some ob => if ob.live = true ∧ ob.t = mapT then match ob.cs with
        | .int .i64 c :: l => match findB b 0 l with
          | some j => match keyAt j l with
            | some k0 => some (s.set i { ob with cs := .int .i64 c :: putAt j l k0.plain v.plain })
            | none => none
          | none => none
        | _ => none
      else none
    | none => none
  | _, _ => none
theorem modify_key {es : List MapEntry} {j : Nat} {k v : Value} (h : (es[j]?).map (·.key) = some k) : (es.modify j fun e => { e with key := k, val := v }) = es.modify j fun e => { e with val := v } := by
  apply List.ext_getElem?
  intro i
  rw [List.getElem?_modify, List.getElem?_modify]
  by_cases hij : j = i
  · subst hij
    cases he : es[j]? with
    | none => rfl
    | some e =>
      rw [he] at h
      simp only [Option.map_some, Option.some.injEq] at h
      subst h
      rfl
  · cases he : es[i]? with
    | none => rfl
    | some e => simp [hij]
section
variable {P : Program} {o : Oper} {fr : List AV} {s : List Ob}
theorem Step_entry {t : TypeId} {x y : Operand} {v : AV} {s' : List Ob} (ho : o.op = .mapEntry t x y) (h : aEntry P s t (aEval fr x) (aEval fr y) = some (v, s')) : Step P o fr s fr v s' := by
  intro M G w a hF hS hf K Q hK
  have hx := (hf.eval x).1
  have hy := (hf.eval y).1
  unfold aEntry at h
  split at h
  case h_2 => cases h
  rename_i kt et hu
  split at h
  case h_2 => cases h
  rename_i i z ex hz
  rw [ex] at hx
  simp only [VR0] at hx
  split at h
  case h_2 => cases h
  rename_i ob hi
  split at h
  case isFalse => cases h
  rename_i hob
  obtain ⟨hl, ht⟩ := hob
  split at h
  case h_2 => cases h
  rename_i c l hcs
  split at h
  case isFalse => cases h
  rename_i hc
  obtain ⟨hd, hok, h0⟩ := hc
  split at h
  case h_2 => cases h
  rename_i hfk
  simp only [Option.some.injEq, Prod.mk.injEq] at h
  obtain ⟨rfl, rfl⟩ := h
  obtain ⟨vs, h1, h2, hcell⟩ := hS.map hi hl ht hcs
  have hvl := h2.length
  obtain ⟨r', g1, g2⟩ := findKey_run hd hfk hy h2
  cases r' with
  | some p => exact g2.elim
  | none =>
    have obj : ∀ (n : Int) (l' : List AV) (vs' : List Value), Ob.obj { ob with cs := l' } (.int .i64 n :: vs') = .map (entriesOf vs').toArray n.toNat := fun n l' vs' => by unfold Ob.obj; rw [if_pos ht]; rfl
    have hlen3 : vs.length % 3 = 0 := by rw [hvl]; exact findK_len l 0 hfk
    have hrun : (Instr.mapEntry t (a.eval x) (a.eval y)).run P w = .ok (.tuple #[z, .int .i64 c]) { w with heap := w.heap.setIfInBounds (G.mu i) (Ob.obj { ob with cs := .int .i64 (c + 1) :: (l ++ [(aEval fr y).plain, absV z, .int .i64 c]) } (.int .i64 (c + 1) :: (vs ++ [a.eval y, z, .int .i64 c]))) } := by
      rw [obj, entriesOf_app _ _ hlen3]
      simp only [Instr.mapEntry, Sem.run_bind, run_underlying hu, Result.andThen_ok, hx.1, Go.MapKept.run_getObj_map h1, keyOk_run hok hy]
      rw [g1, Result.andThen_ok]
      dsimp only
      simp only [Sem.run_bind, run_zeroOf hz, Result.andThen_ok]
      rw [Go.MapKept.run_setObj_map _ h1]
      have e1 : (c + 1).toNat = c.toNat + 1 := by omega
      have e2 : ((c.toNat : Nat) : Int) = c := by omega
      simp only [Result.andThen_ok, Sem.run_pure, goInt, entriesOf, e1, e2, List.push_toArray]
    obtain ⟨hE, hS'⟩ := hS.setOb (ob' := { ob with cs := .int .i64 (c + 1) :: (l ++ [(aEval fr y).plain, absV z, .int .i64 c]) }) (vs := .int .i64 (c + 1) :: (vs ++ [a.eval y, z, .int .i64 c])) hi hl (by simp [hvl]) (by
      intro k b u hb hu2
      cases k with
      | zero => simp at hb hu2; subst hb hu2; exact ⟨by simp only [VR0], OwnC.of_plain rfl⟩
      | succ k =>
        simp only [List.getElem?_cons_succ] at hb hu2
        rcases Nat.lt_or_ge k l.length with hk | hk
        · rw [List.getElem?_append_left hk] at hb
          rw [List.getElem?_append_left (by omega)] at hu2
          exact hcell k b u hb hu2
        · rw [List.getElem?_append_right hk] at hb
          rw [List.getElem?_append_right (by omega)] at hu2
          rw [hvl] at hu2
          match hq : k - l.length with
          | 0 => rw [hq] at hb hu2; simp at hb hu2; subst hb hu2; exact VR.plain hy
          | 1 => rw [hq] at hb hu2; simp at hb hu2; subst hb hu2; exact ⟨absV_VR0 G w z, OwnC.of_plain (absV_mark z)⟩
          | 2 => rw [hq] at hb hu2; simp at hb hu2; subst hb hu2; exact ⟨by simp only [VR0], OwnC.of_plain rfl⟩
          | n + 3 => rw [hq] at hb; simp at hb)
    unfold Oper.wp
    rw [show (execOp a.eval o).run P w = .ok (.value (.tuple #[z, .int .i64 c])) _ by simp only [execOp, ho, Sem.run_bind, hrun, Result.andThen_ok]; rfl, Oper.upon_value]
    refine hK _ G _ (hE.mono fun _ _ => False.elim) hS' (hf.grow hE) ⟨?_, OwnC.of_plain rfl⟩
    simp only [VR0]
    exact ⟨[z, .int .i64 c], rfl, by simp only [VRs0, VR0]; exact ⟨z, _, rfl, absV_VR0 G _ z, _, _, rfl, rfl, rfl⟩⟩
theorem Step_estore {t : TypeId} {x y z : Operand} {s' : List Ob} (ho : o.op = .entryStore t x y z) (h : aEStore s (aEval fr x) (aEval fr y) (aEval fr z) = some s') : Step P o fr s fr (.tuple []) s' := by
  intro M G w a hF hS hf K Q hK
  have hx := (hf.eval x).1
  have hy := (hf.eval y).1
  have hz := (hf.eval z).1
  unfold aEStore at h
  split at h
  case h_2 => cases h
  rename_i i b ex ey
  rw [ex] at hx
  rw [ey] at hy
  simp only [VR0] at hx hy
  split at h
  case h_2 => cases h
  rename_i ob hi
  split at h
  case isFalse => cases h
  rename_i hob
  obtain ⟨hl, ht⟩ := hob
  split at h
  case h_2 => cases h
  rename_i c l hcs
  split at h
  case h_2 => cases h
  rename_i j hj
  split at h
  case h_2 => cases h
  rename_i k0 hk0
  cases h
  obtain ⟨vs, h1, h2, hcell⟩ := hS.map hi hl ht hcs
  have hvl := h2.length
  obtain ⟨c1, q1, q2⟩ := keyAt_VR j l vs k0 hk0 h2
  have q3 := keyAt_ents j vs c1 q1
  obtain ⟨_, q4⟩ := findB_run l vs 0 j hj h2
  have obj : ∀ (n : Int) (l' : List AV) (vs' : List Value), Ob.obj { ob with cs := l' } (.int .i64 n :: vs') = .map (entriesOf vs').toArray n.toNat := fun n l' vs' => by unfold Ob.obj; rw [if_pos ht]; rfl
  obtain ⟨p1, p2⟩ := putAt_VR (R := VR M G w) (k := k0.plain) (v := (aEval fr z).plain) (k' := c1) (v' := a.eval z) (VR.plain q2) (VR.plain hz) j l vs hvl hcell
  obtain ⟨hE, hS'⟩ := hS.setOb (ob' := { ob with cs := .int .i64 c :: putAt j l k0.plain (aEval fr z).plain }) (vs := .int .i64 c :: putAt j vs c1 (a.eval z)) hi hl (by simp [p1]) (by
    intro k b u hb hu2
    cases k with
    | zero => simp at hb hu2; subst hb hu2; exact ⟨by simp only [VR0], OwnC.of_plain rfl⟩
    | succ k => exact p2 k b u (by simpa using hb) (by simpa using hu2))
  have hrun : (Instr.entryStore t (a.eval x) (a.eval y) (a.eval z)).run P w = .ok () { w with heap := w.heap.setIfInBounds (G.mu i) (Ob.obj { ob with cs := .int .i64 c :: putAt j l k0.plain (aEval fr z).plain } (.int .i64 c :: putAt j vs c1 (a.eval z))) } := by
    rw [obj, entriesOf_put, modify_key q3]
    have q5 : (entriesOf vs).toArray.findIdx? (fun e => (e.born : Int) == b) = some j := by simpa using q4
    simp only [Instr.entryStore, Sem.run_bind, Result.andThen_ok, hx.1, hy, Go.MapKept.run_getObj_map h1, asInt, asIntOf, Sem.run_map, Sem.run_pure, q5]
    rw [Go.MapKept.run_setObj_map _ h1]
    congr 3
    congr 1
    apply Array.ext'
    simp
  unfold Oper.wp
  rw [show (execOp a.eval o).run P w = .ok .skip _ by simp only [execOp, ho, Sem.run_bind, hrun, Result.andThen_ok]; rfl, Oper.upon_skip]
  exact hK undef G _ (hE.mono fun _ _ => False.elim) hS' (hf.grow hE) (VR.undefT _ _ _)
end
/-! on typed values -/
def tEntry (P : Program) (s : List TOb) (t : TypeId) (x key : TV) : Option (TV × List TOb) :=
  match P.underlying t with
  | some (.map kt et) => match x, zeroOf P et with
    | .mapr i, some z => match s[i]? with
      | some (.cells (.int .i64 c :: l) ot lv) => if (lv = true ∧ ot = mapT) ∧ keyed P kt = true ∧ keyOk P kt (dn key) = true ∧ 0 ≤ c then
          match tFindK P kt key 0 l with
          | some none => some (.tup [tAbs z, .int .i64 c], s.set i (.cells (.int .i64 (c + 1) :: (l ++ [tplain key, tAbs z, .int .i64 c])) ot lv))
          | _ => none
        else none
      | _ => none
    | _, _ => none
  | _ => none
theorem tEntry_spec {P : Program} {s s' : List TOb} {t : TypeId} {x key v : TV} (h : tEntry P s t x key = some (v, s')) : aEntry P (dnS s) t (dn x) (dn key) = some (dn v, dnS s') := by
  unfold tEntry at h
  unfold aEntry
  split at h
  case h_2 => cases h
  rename_i kt et hu
  split at h
  case h_2 => cases h
  rename_i i z hz
  simp only [dn, hz]
  split at h
  case h_2 => cases h
  rename_i c l ot lv hs
  split at h
  case isFalse => cases h
  rename_i hc
  obtain ⟨h1, h2⟩ := hc
  simp only [dn, dnS_get, hs, Option.map_some, dnO, dns]
  rw [if_pos h1, if_pos h2]
  split at h
  case h_2 => cases h
  rename_i hf
  simp only [Option.some.injEq, Prod.mk.injEq] at h
  obtain ⟨rfl, rfl⟩ := h
  rw [tFindK_spec l 0 _ hf, dnS_set]
  simp only [Option.map_none, dnO, dns, dn, dns_app, dn_tplain, dn_tAbs]
def tFindB (b : Int) : Nat → List TV → Option Nat
  | j, _ :: _ :: bb :: l => match bb with
    | .int .i64 n => if (n.toNat : Int) = b then some j else tFindB b (j + 1) l
    | _ => none
  | _, _ => none
theorem tFindB_spec {b : Int} : ∀ (l : List TV) (i j : Nat), tFindB b i l = some j → findB b i (dns l) = some j
  | [], _, _, h => by simp [tFindB] at h
  | [_], _, _, h => by simp [tFindB] at h
  | [_, _], _, _, h => by simp [tFindB] at h
  | k :: v :: bb :: l, i, j, h => by
    simp only [tFindB] at h
    split at h
    · rename_i n
      simp only [dns, dn, findB]
      split at h
      · rename_i hb; rw [if_pos hb]; exact h
      · rename_i hb; rw [if_neg hb]; exact tFindB_spec l (i + 1) j h
    · cases h
def tEStore (s : List TOb) (x st v : TV) : Option (List TOb) :=
  match x, st with
  | .mapr i, .int .i64 b => match s[i]? with
    | some (.cells (.int .i64 c :: l) ot lv) => if lv = true ∧ ot = mapT then match tFindB b 0 l with
        | some j => match keyAt j l with
          | some k0 => some (s.set i (.cells (.int .i64 c :: putAt j l (tplain k0) (tplain v)) ot lv))
          | none => none
        | none => none
      else none
    | _ => none
  | _, _ => none
theorem tEStore_spec {s s' : List TOb} {x st v : TV} (h : tEStore s x st v = some s') : aEStore (dnS s) (dn x) (dn st) (dn v) = some (dnS s') := by
  unfold tEStore at h
  unfold aEStore
  split at h
  case h_2 => cases h
  rename_i i b
  simp only [dn]
  split at h
  case h_2 => cases h
  rename_i c l ot lv hs
  split at h
  case isFalse => cases h
  rename_i hc
  split at h
  case h_2 => cases h
  rename_i j hj
  split at h
  case h_2 => cases h
  rename_i k0 hk
  cases h
  simp only [dnS_get, hs, Option.map_some, dnO, dns, dn]
  rw [if_pos hc, tFindB_spec l 0 j hj]
  simp only [dns_keyAt, hk, Option.map_some]
  rw [dnS_set]
  simp only [dnO, dns, dn, dns_putAt, dn_tplain]
end
end Go.Proofs.YtmacghaihlfcpaaGreat.Abs
