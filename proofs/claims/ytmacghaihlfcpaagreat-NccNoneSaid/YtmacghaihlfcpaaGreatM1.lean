/- Maps: objects whose block holds entries. -/
import Derived.Test.YtmacghaihlfcpaaGreatL2
import Derived.MapKept
import Derived.Carry
namespace Go.Proofs.YtmacghaihlfcpaaGreat.Abs
noncomputable section
open Go Go.ChangeShapes Go.WideShapes Go.ChangeAt Go.RowKit
set_option linter.unusedVariables false
set_option linter.unusedSimpArgs false

/-- two keys of a type: are they the same? -/
def aKeyEq (P : Program) (kt : TypeId) (x y : AV) : Option Bool :=
  match x, y with
  | .int k a, .int k' b => match P.underlying kt with
    | some (.int _) => if k = k' then some (a == b) else none
    | _ => none
  | .agg cs, .agg ds => match P.underlying kt with
    | some (.struct _) => aEqT P 20 kt cs ds
    | _ => none
  | _, _ => none
/-- where a key lies, and what it has -/
def aFindK (P : Program) (kt : TypeId) (key : AV) : Nat → List AV → Option (Option (Nat × AV))
  | _, [] => some none
  | j, k :: v :: b :: l => match aKeyEq P kt key k with
    | some true => some (some (j, v))
    | some false => aFindK P kt key (j + 1) l
    | none => none
  | _, _ => none
theorem keyEq_run {P : Program} {G : Gh} {w : World} {kt : TypeId} {x y : AV} {r : Bool} {cx cy : Value} (h : aKeyEq P kt x y = some r) (hx : VR0 G w x cx) (hy : VR0 G w y cy) : (Op.equal kt cx cy).run P w = .ok r w := by
  unfold aKeyEq at h
  split at h
  · split at h
    · rename_i q hu
      split at h
      · rename_i hk
        subst hk
        cases h
        simp only [VR0] at hx hy
        rw [hx, hy]
        exact run_equalIn_int w 9999 kt _ _ _ _ hu
      · cases h
    · cases h
  · split at h
    · rename_i fs hu
      simp only [VR0] at hx hy
      obtain ⟨vs, rfl, hvs⟩ := hx
      obtain ⟨us, rfl, hus⟩ := hy
      exact aEqT_run (G := G) 20 kt _ _ r h 9980 _ _ vs us (by unfold isOf; rw [hu]) (by unfold isOf; rw [hu]) hvs hus
    · cases h
  · cases h
def FindR (G : Gh) (w : World) : Option (Nat × AV) → Option (Nat × Value) → Prop
  | none, none => True
  | some (i, v), some (j, cv) => i = j ∧ VR0 G w v cv
  | _, _ => False
theorem findAsking_run {P : Program} {G : Gh} {w : World} {kt : TypeId} {key : AV} {ck : Value} (hk : VR0 G w key ck) : ∀ (l : List AV) (vs : List Value) (j : Nat) (r : Option (Nat × AV)), aFindK P kt key j l = some r → VRs0 G w l vs →
    ∃ r', (Instr.findAsking kt ck (entriesOf vs) j).run P w = .ok r' w ∧ FindR G w r r'
  | [], vs, j, r, h, hv => by
    simp only [VRs0] at hv
    subst hv
    simp only [aFindK, Option.some.injEq] at h
    subst h
    exact ⟨none, rfl, trivial⟩
  | [_], _, _, _, h, _ => by simp [aFindK] at h
  | [_, _], _, _, _, h, _ => by simp [aFindK] at h
  | k :: v :: b :: l, vs, j, r, h, hv => by
    simp only [VRs0] at hv
    obtain ⟨k', vs1, rfl, h1, v', vs2, rfl, h2, b', vs3, rfl, h3, h4⟩ := hv
    simp only [aFindK] at h
    simp only [entriesOf, Instr.findAsking]
    split at h
    · rename_i he
      cases h
      refine ⟨some (j, v'), ?_, rfl, h2⟩
      simp only [Sem.run_bind, keyEq_run he hk h1, Result.andThen_ok]
      rfl
    · rename_i he
      obtain ⟨r', g1, g2⟩ := findAsking_run hk l vs3 (j + 1) r h h4
      refine ⟨r', ?_, g2⟩
      simp only [Sem.run_bind, keyEq_run he hk h1, Result.andThen_ok]
      exact g1
    · cases h
theorem findNow_int {P : Program} {G : Gh} {w : World} {kt : TypeId} {q : IntKind} (hq : P.underlying kt = some (.int q)) {key : AV} {ck : Value} (hk : VR0 G w key ck) : ∀ (l : List AV) (vs : List Value) (j : Nat) (r : Option (Nat × AV)), aFindK P kt key j l = some r → VRs0 G w l vs →
    ∃ r', Instr.findNow (.int q) ck (entriesOf vs) j = some r' ∧ FindR G w r r'
  | [], vs, j, r, h, hv => by
    simp only [VRs0] at hv
    subst hv
    simp only [aFindK, Option.some.injEq] at h
    subst h
    exact ⟨none, rfl, trivial⟩
  | [_], _, _, _, h, _ => by simp [aFindK] at h
  | [_, _], _, _, _, h, _ => by simp [aFindK] at h
  | k :: v :: b :: l, vs, j, r, h, hv => by
    simp only [VRs0] at hv
    obtain ⟨k', vs1, rfl, h1, v', vs2, rfl, h2, b', vs3, rfl, h3, h4⟩ := hv
    simp only [aFindK] at h
    simp only [entriesOf, Instr.findNow]
    have same : ∀ r, aKeyEq P kt key k = some r → Instr.sameNow (.int q) ck k' = some r := fun r he => by
      unfold aKeyEq at he
      split at he
      · rw [hq] at he
        dsimp only at he
        split at he
        · rename_i hkk
          cases he
          simp only [VR0] at hk h1
          rw [hk, h1]
          simp only [Instr.sameNow, if_pos hkk]
        · cases he
      · rw [hq] at he; cases he
      · cases he
    split at h
    · rename_i he
      cases h
      exact ⟨some (j, v'), by rw [same _ he], rfl, h2⟩
    · rename_i he
      obtain ⟨r', g1, g2⟩ := findNow_int hq hk l vs3 (j + 1) r h h4
      exact ⟨r', by rw [same _ he]; exact g1, g2⟩
    · cases h
def keyed (P : Program) (kt : TypeId) : Bool := match P.underlying kt with
  | some (.int _) => true
  | some (.struct _) => true
  | _ => false
theorem findKey_run {P : Program} {G : Gh} {w : World} {kt : TypeId} {key : AV} {ck : Value} {l : List AV} {vs : List Value} {r : Option (Nat × AV)} (hd : keyed P kt = true) (h : aFindK P kt key 0 l = some r) (hk : VR0 G w key ck) (hv : VRs0 G w l vs) :
    ∃ r', (Instr.findKey kt ck (entriesOf vs)).run P w = .ok r' w ∧ FindR G w r r' := by
  unfold keyed at hd
  split at hd
  · rename_i q hu
    obtain ⟨r', h1, h2⟩ := findNow_int hu hk l vs 0 r h hv
    refine ⟨r', ?_, h2⟩
    simp only [Instr.findKey, Sem.run_bind, run_underlying hu, Result.andThen_ok, h1]
    rfl
  · rename_i fs hu
    obtain ⟨r', h1, h2⟩ := findAsking_run hk l vs 0 r h hv
    refine ⟨r', ?_, h2⟩
    simp only [Instr.findKey, Sem.run_bind, run_underlying hu, Result.andThen_ok]
    cases hes : entriesOf vs with
    | nil =>
      rw [hes] at h1
      simp only [Instr.findNow]
      exact h1
    | cons e es =>
      rw [hes] at h1
      have : Instr.sameNow (.struct fs) ck e.key = none := by unfold Instr.sameNow; split <;> first | rfl | simp_all
      simp only [Instr.findNow, this]
      exact h1
  · cases hd
/-- the key is one that may be asked -/
def keyOk (P : Program) (kt : TypeId) (key : AV) : Bool := match conc key with
  | some kc => match pureRun P (Instr.checkKey true 10000 kt kc), pureRun P (Instr.checkKey false 10000 kt kc) with
    | some _, some _ => true
    | _, _ => false
  | none => false
theorem keyOk_run {P : Program} {G : Gh} {w : World} {kt : TypeId} {key : AV} {ck : Value} (h : keyOk P kt key = true) (hk : VR0 G w key ck) (e : Bool) : (Instr.checkKey e 10000 kt ck).run P w = .ok () w := by
  unfold keyOk at h
  split at h
  · rename_i kc hc
    have := conc_eq hc hk
    subst this
    split at h
    · rename_i h1 h2
      cases e
      · exact pureRun_run h2 w
      · exact pureRun_run h1 w
    · cases h
  · cases h
/-- a map's entries -/
def aEnts (s : List Ob) : AV → Option (List AV)
  | .mapn => some []
  | .mapr i => match s[i]? with
    | some ob => if ob.live = true ∧ ob.t = mapT then match ob.cs with
        | .int .i64 _ :: l => some l
        | _ => none
      else none
    | none => none
  | _ => none
def aLookup (P : Program) (s : List Ob) (t : TypeId) (x key : AV) (ok : Bool) : Option AV :=
  match P.underlying t with
  | some (.map kt et) => match zeroOf P et, aEnts s x with
    | some z, some l => if keyed P kt = true ∧ keyOk P kt key = true then
        match aFindK P kt key 0 l with
        | some (some (_, v)) => some (if ok = true then .tuple [v.plain, .bool true] else v.plain)
        | some none => some (if ok = true then .tuple [absV z, .bool false] else absV z)
        | none => none
      else none
    | _, _ => none
  | _ => none
theorem Sim.map {M : Nat → Prop} {G : Gh} {s : List Ob} {w : World} (h : Sim M G s w) {i : Nat} {ob : Ob} {c : Int} {l : List AV} (hi : s[i]? = some ob) (hl : ob.live = true) (ht : ob.t = mapT) (hc : ob.cs = .int .i64 c :: l) :
    ∃ vs, w.heap[G.mu i]? = some (.map (entriesOf vs).toArray c.toNat) ∧ VRs0 G w l vs ∧ ∀ (k : Nat) (a : AV) (v : Value), l[k]? = some a → vs[k]? = some v → VR M G w a v := by
  obtain ⟨vs, h1, h2, h3⟩ := h.at_ i ob hi hl
  have hv : VRs0 G w ob.cs vs := VRs0.mk h2 fun k a v ha hv => (h3 k a v ha hv).1
  rw [hc] at hv h3
  simp only [VRs0] at hv
  obtain ⟨v, vs', rfl, h4, h5⟩ := hv
  simp only [VR0] at h4
  subst h4
  refine ⟨vs', ?_, h5, fun k a v ha hv => h3 (k + 1) a v (by simpa using ha) (by simpa using hv)⟩
  rw [h1]
  unfold Ob.obj
  rw [if_pos ht]
  rfl
section
variable {P : Program} {o : Oper} {fr : List AV} {s : List Ob}
theorem Step_lookup {t : TypeId} {x y : Operand} {ok : Bool} {v : AV} (ho : o.op = .lookup t x y ok) (h : aLookup P s t (aEval fr x) (aEval fr y) ok = some v) : Still P o fr s v := fun M G w a hS hf => by
  have hx := (hf.eval x).1
  have hy := (hf.eval y).1
  unfold aLookup at h
  split at h
  case h_2 => cases h
  rename_i kt et hu
  split at h
  case h_2 => cases h
  rename_i z l hz hl
  split at h
  case isFalse => cases h
  rename_i hc
  obtain ⟨hd, hok⟩ := hc
  obtain ⟨vs, e2, e3⟩ : ∃ vs, VRs0 G w l vs ∧ (a.eval x = .map none ∧ vs = [] ∨ ∃ b c, a.eval x = .map (some b) ∧ w.heap[b]? = some (.map (entriesOf vs).toArray c)) := by
    unfold aEnts at hl
    split at hl
    · rename_i ex
      cases hl
      rw [ex] at hx
      simp only [VR0] at hx
      exact ⟨[], by simp only [VRs0], .inl ⟨hx, rfl⟩⟩
    · rename_i i ex
      rw [ex] at hx
      simp only [VR0] at hx
      split at hl
      case h_2 => cases hl
      rename_i ob hi
      split at hl
      case isFalse => cases hl
      rename_i hob
      split at hl
      case h_2 => cases hl
      rename_i c l' hcs
      cases hl
      obtain ⟨vs, h1, h2, _⟩ := hS.map hi hob.1 hob.2 hcs
      exact ⟨vs, h2, .inr ⟨_, _, hx.1, h1⟩⟩
    · cases hl
  have fin : ∀ (r' : Option (Nat × Value)) (v : Value) (b : Bool), (Instr.findKey kt (a.eval y) (entriesOf vs)).run P w = .ok r' w → (r' = none ∧ v = z ∧ b = false ∨ b = true ∧ ∃ j, r' = some (j, v)) →
      (execOp a.eval o).run P w = .ok (.value (if ok = true then .tuple #[v, .bool b] else v)) w := fun r' v b h1 h2 => by
    have hck := fun e => keyOk_run (w := w) hok hy e
    rcases e3 with ⟨e3, rfl⟩ | ⟨bl, c, e3, e4⟩
    · simp only [execOp, ho, Instr.lookup, Sem.run_bind, run_underlying hu, Result.andThen_ok, e3, Sem.run_pure, hck]
      have h1' : (Instr.findKey kt (a.eval y) (#[] : Array MapEntry).toList).run P w = .ok r' w := h1
      rw [h1', Result.andThen_ok]
      rcases h2 with ⟨rfl, rfl, rfl⟩ | ⟨rfl, j, rfl⟩
      · simp only [Sem.run_bind, run_zeroOf hz, Result.andThen_ok, Sem.run_pure]
      · simp only [Sem.run_bind, Result.andThen_ok, Sem.run_pure]
    · simp only [execOp, ho, Instr.lookup, Sem.run_bind, run_underlying hu, Result.andThen_ok, e3, Sem.run_pure, hck, Go.MapKept.run_getObj_map e4]
      rw [h1, Result.andThen_ok]
      rcases h2 with ⟨rfl, rfl, rfl⟩ | ⟨rfl, j, rfl⟩
      · simp only [Sem.run_bind, run_zeroOf hz, Result.andThen_ok, Sem.run_pure]
      · simp only [Sem.run_bind, Result.andThen_ok, Sem.run_pure]
  have run : ∀ (r : Option (Nat × AV)), aFindK P kt (aEval fr y) 0 l = some r → ∃ r', (Instr.findKey kt (a.eval y) (entriesOf vs)).run P w = .ok r' w ∧ FindR G w r r' := fun r hr => findKey_run hd hr hy e2
  split at h
  · rename_i j v' hfk
    cases h
    obtain ⟨r', h1, h2⟩ := run _ hfk
    cases r' with
    | none => exact h2.elim
    | some p =>
      obtain ⟨j', cv⟩ := p
      refine ⟨_, fin _ cv true h1 (.inr ⟨rfl, _, rfl⟩), ?_⟩
      cases ok
      · exact VR.plain h2.2
      · refine ⟨?_, OwnC.of_plain rfl⟩
        simp only [if_true, VR0, VRs0]
        exact ⟨[cv, .bool true], rfl, cv, _, rfl, h2.2.plain, _, _, rfl, rfl, rfl⟩
  · rename_i hfk
    cases h
    obtain ⟨r', h1, h2⟩ := run _ hfk
    cases r' with
    | some p => exact h2.elim
    | none =>
      refine ⟨_, fin _ z false h1 (.inl ⟨rfl, rfl, rfl⟩), ?_⟩
      cases ok
      · exact ⟨absV_VR0 G w z, OwnC.of_plain (absV_mark z)⟩
      · refine ⟨?_, OwnC.of_plain rfl⟩
        simp only [if_true, VR0, VRs0]
        exact ⟨[z, .bool false], rfl, z, _, rfl, absV_VR0 G w z, _, _, rfl, rfl, rfl⟩
  · cases h
end
end
end Go.Proofs.YtmacghaihlfcpaaGreat.Abs

namespace Go.Proofs.YtmacghaihlfcpaaGreat.Abs
noncomputable section
open Go Go.ChangeShapes Go.WideShapes Go.ChangeAt Go.RowKit
set_option linter.unusedVariables false
set_option linter.unusedSimpArgs false

theorem entriesOf_len : ∀ vs : List Value, (entriesOf vs).length = vs.length / 3
  | [] => rfl
  | [_] => by simp [entriesOf]
  | [_, _] => by simp [entriesOf]
  | _ :: _ :: _ :: l => by simp only [entriesOf, List.length_cons, entriesOf_len l]; omega
theorem entriesOf_app : ∀ (vs ws : List Value), vs.length % 3 = 0 → entriesOf (vs ++ ws) = entriesOf vs ++ entriesOf ws
  | [], _, _ => rfl
  | [_], _, h => by simp at h
  | [_, _], _, h => by simp at h
  | _ :: _ :: _ :: l, ws, h => by
    simp only [List.cons_append, entriesOf]
    rw [entriesOf_app l ws (by simp only [List.length_cons] at h; omega)]
/-- key and value of an entry written -/
def putAt {α : Type} : Nat → List α → α → α → List α
  | 0, _ :: _ :: l, k, v => k :: v :: l
  | j + 1, a :: b :: c :: l, k, v => a :: b :: c :: putAt j l k v
  | _, l, _, _ => l
theorem entriesOf_put {k v : Value} : ∀ (j : Nat) (vs : List Value), entriesOf (putAt j vs k v) = (entriesOf vs).modify j fun e => { e with key := k, val := v }
  | 0, [] => rfl
  | 0, [_] => rfl
  | 0, [_, _] => rfl
  | 0, _ :: _ :: _ :: _ => rfl
  | j + 1, [] => rfl
  | j + 1, [_] => rfl
  | j + 1, [_, _] => rfl
  | j + 1, _ :: _ :: _ :: l => by simp only [putAt, entriesOf, entriesOf_put j l, List.modify_succ_cons]
theorem putAt_VR {R : AV → Value → Prop} {k v : AV} {k' v' : Value} (hk : R k k') (hv : R v v') : ∀ (j : Nat) (l : List AV) (vs : List Value), vs.length = l.length → (∀ (i : Nat) (a : AV) (u : Value), l[i]? = some a → vs[i]? = some u → R a u) →
    (putAt j vs k' v').length = (putAt j l k v).length ∧ ∀ (i : Nat) (a : AV) (u : Value), (putAt j l k v)[i]? = some a → (putAt j vs k' v')[i]? = some u → R a u
  | 0, [], [], h, hh => ⟨rfl, hh⟩
  | 0, [_], [_], h, hh => ⟨rfl, hh⟩
  | 0, _ :: _ :: l, a' :: b' :: vs, h, hh => by
    refine ⟨by simpa [putAt] using h, fun i a u h1 h2 => ?_⟩
    match i with
    | 0 => simp only [putAt, List.getElem?_cons_zero, Option.some.injEq] at h1 h2; subst h1 h2; exact hk
    | 1 => simp only [putAt, List.getElem?_cons_succ, List.getElem?_cons_zero, Option.some.injEq] at h1 h2; subst h1 h2; exact hv
    | i + 2 => exact hh (i + 2) a u (by simpa [putAt] using h1) (by simpa [putAt] using h2)
  | j + 1, [], [], h, hh => ⟨rfl, hh⟩
  | j + 1, [_], [_], h, hh => ⟨rfl, hh⟩
  | j + 1, [_, _], [_, _], h, hh => ⟨rfl, hh⟩
  | j + 1, a0 :: b0 :: c0 :: l, a' :: b' :: c' :: vs, h, hh => by
    obtain ⟨h1, h2⟩ := putAt_VR hk hv j l vs (by simpa using h) fun i a u g1 g2 => hh (i + 3) a u (by simpa using g1) (by simpa using g2)
    refine ⟨by simpa [putAt] using h1, fun i a u g1 g2 => ?_⟩
    match i with
    | 0 => exact hh 0 a u (by simpa [putAt] using g1) (by simpa [putAt] using g2)
    | 1 => exact hh 1 a u (by simpa [putAt] using g1) (by simpa [putAt] using g2)
    | 2 => exact hh 2 a u (by simpa [putAt] using g1) (by simpa [putAt] using g2)
    | i + 3 => exact h2 i a u (by simpa [putAt] using g1) (by simpa [putAt] using g2)
  | 0, [], _ :: _, h, _ => by simp at h
  | 0, _ :: _, [], h, _ => by simp at h
  | 0, [_], _ :: _ :: _, h, _ => by simp at h
  | 0, _ :: _ :: _, [_], h, _ => by simp at h
  | j + 1, [], _ :: _, h, _ => by simp at h
  | j + 1, _ :: _, [], h, _ => by simp at h
  | j + 1, [_], _ :: _ :: _, h, _ => by simp at h
  | j + 1, _ :: _ :: _, [_], h, _ => by simp at h
  | j + 1, [_, _], _ :: _ :: _ :: _, h, _ => by simp at h
  | j + 1, _ :: _ :: _ :: _, [_, _], h, _ => by simp at h
/-- an entry struck -/
def cutAt {α : Type} : Nat → List α → List α
  | 0, _ :: _ :: _ :: l => l
  | j + 1, a :: b :: c :: l => a :: b :: c :: cutAt j l
  | _, l => l
theorem entriesOf_cut : ∀ (j : Nat) (vs : List Value), entriesOf (cutAt j vs) = (entriesOf vs).eraseIdx j
  | 0, [] => rfl
  | 0, [_] => rfl
  | 0, [_, _] => rfl
  | 0, _ :: _ :: _ :: _ => rfl
  | j + 1, [] => rfl
  | j + 1, [_] => rfl
  | j + 1, [_, _] => rfl
  | j + 1, _ :: _ :: _ :: l => by simp only [cutAt, entriesOf, entriesOf_cut j l, List.eraseIdx_cons_succ]
theorem cutAt_VRs {G : Gh} {w : World} : ∀ (j : Nat) (l : List AV) (vs : List Value), VRs0 G w l vs → VRs0 G w (cutAt j l) (cutAt j vs)
  | 0, [], vs, h => by simp only [VRs0] at h; subst h; exact rfl
  | 0, [_], vs, h => by
    simp only [VRs0] at h
    obtain ⟨v, vs', rfl, h1, rfl⟩ := h
    simp only [cutAt, VRs0]; exact ⟨v, [], rfl, h1, rfl⟩
  | 0, [_, _], vs, h => by
    simp only [VRs0] at h
    obtain ⟨v, vs', rfl, h1, v2, vs2, rfl, h2, rfl⟩ := h
    simp only [cutAt, VRs0]; exact ⟨v, _, rfl, h1, v2, _, rfl, h2, rfl⟩
  | 0, _ :: _ :: _ :: l, vs, h => by
    simp only [VRs0] at h
    obtain ⟨v, vs', rfl, h1, v2, vs2, rfl, h2, v3, vs3, rfl, h3, h4⟩ := h
    exact h4
  | j + 1, [], vs, h => by simp only [VRs0] at h; subst h; exact rfl
  | j + 1, [_], vs, h => by
    simp only [VRs0] at h
    obtain ⟨v, vs', rfl, h1, rfl⟩ := h
    simp only [cutAt, VRs0]; exact ⟨v, [], rfl, h1, rfl⟩
  | j + 1, [_, _], vs, h => by
    simp only [VRs0] at h
    obtain ⟨v, vs', rfl, h1, v2, vs2, rfl, h2, rfl⟩ := h
    simp only [cutAt, VRs0]; exact ⟨v, _, rfl, h1, v2, _, rfl, h2, rfl⟩
  | j + 1, _ :: _ :: _ :: l, vs, h => by
    simp only [VRs0] at h
    obtain ⟨v, vs', rfl, h1, v2, vs2, rfl, h2, v3, vs3, rfl, h3, h4⟩ := h
    simp only [cutAt, VRs0]
    exact ⟨v, _, rfl, h1, v2, _, rfl, h2, v3, _, rfl, h3, cutAt_VRs j l vs3 h4⟩
theorem cutAt_VR {R : AV → Value → Prop} : ∀ (j : Nat) (l : List AV) (vs : List Value), vs.length = l.length → (∀ (i : Nat) (a : AV) (u : Value), l[i]? = some a → vs[i]? = some u → R a u) →
    ∀ (i : Nat) (a : AV) (u : Value), (cutAt j l)[i]? = some a → (cutAt j vs)[i]? = some u → R a u
  | 0, [], [], h, hh => hh
  | 0, [_], [_], h, hh => hh
  | 0, [_, _], [_, _], h, hh => hh
  | 0, _ :: _ :: _ :: l, _ :: _ :: _ :: vs, h, hh => fun i a u h1 h2 => hh (i + 3) a u (by simpa [cutAt] using h1) (by simpa [cutAt] using h2)
  | j + 1, [], [], h, hh => hh
  | j + 1, [_], [_], h, hh => hh
  | j + 1, [_, _], [_, _], h, hh => hh
  | j + 1, a0 :: b0 :: c0 :: l, a' :: b' :: c' :: vs, h, hh => fun i a u g1 g2 => by
    match i with
    | 0 => exact hh 0 a u (by simpa [cutAt] using g1) (by simpa [cutAt] using g2)
    | 1 => exact hh 1 a u (by simpa [cutAt] using g1) (by simpa [cutAt] using g2)
    | 2 => exact hh 2 a u (by simpa [cutAt] using g1) (by simpa [cutAt] using g2)
    | i + 3 => exact cutAt_VR j l vs (by simpa using h) (fun i a u g1 g2 => hh (i + 3) a u (by simpa using g1) (by simpa using g2)) i a u (by simpa [cutAt] using g1) (by simpa [cutAt] using g2)
  | _, [], _ :: _, h, _ => by simp at h
  | _, _ :: _, [], h, _ => by simp at h
  | _, [_], _ :: _ :: _, h, _ => by simp at h
  | _, _ :: _ :: _, [_], h, _ => by simp at h
  | _, [_, _], _ :: _ :: _ :: _, h, _ => by simp at h
  | _, _ :: _ :: _ :: _, [_, _], h, _ => by simp at h
/-- an object's block written anew -/
theorem Sim.setOb {M : Nat → Prop} {G : Gh} {s : List Ob} {w : World} (h : Sim M G s w) {i : Nat} {ob ob' : Ob} {vs : List Value} (hi : s[i]? = some ob) (hl : ob.live = true) (hn : vs.length = ob'.cs.length)
    (hv : ∀ (k : Nat) (a : AV) (v : Value), ob'.cs[k]? = some a → vs[k]? = some v → VR M G w a v) :
    Ext (fun _ => False) G w G { w with heap := w.heap.setIfInBounds (G.mu i) (ob'.obj vs) } ∧ Sim M G (s.set i ob') { w with heap := w.heap.setIfInBounds (G.mu i) (ob'.obj vs) } := by
  have hin : i < G.n := by rw [h.n]; exact lt_of_some hi
  have hlv := h.live i ob hi hl
  have hlt : G.mu i < w.heap.size := h.lt hin hlv
  obtain ⟨w', hw'⟩ : ∃ w' : World, { w with heap := w.heap.setIfInBounds (G.mu i) (ob'.obj vs) } = w' := ⟨_, rfl⟩
  have hblk : w'.heap[G.mu i]? = some (ob'.obj vs) := by rw [← hw']; simp [hlt]
  have hoth : ∀ b, b ≠ G.mu i → w'.heap[b]? = w.heap[b]? := fun b hb => by rw [← hw']; simp [Array.getElem?_setIfInBounds, Ne.symm hb]
  have hE : Ext (fun _ => False) G w G w' := by
    have hsz : w'.heap.size = w.heap.size := by rw [← hw']; simp
    have hne : ∀ b, ¬ G.obj b → b ≠ G.mu i := fun b hb e => hb ⟨i, hin, hlv, e.symm⟩
    exact ⟨by omega, by rw [← hw'], by rw [← hw'], by rw [← hw'], Nat.le_refl _, fun _ _ h => h, fun _ _ => rfl, fun j h4 h5 => by omega, fun _ _ => rfl, fun _ _ _ => Nat.le_refl _,
      fun b hb ho' _ => hoth b (hne b ho'), fun b hb ho' _ o' _ => World.cell?_of_block (w := w) (hoth b (hne b ho')), fun b hb ho' _ _ => ⟨hoth b (hne b ho'), rfl, rfl⟩⟩
  rw [hw']
  refine ⟨hE, by simp [h.n], h.inj, h.own, ?_, fun {j} hj hl => Nat.lt_of_lt_of_le (h.lt hj hl) hE.size, ?_⟩
  · intro j o' hj hol
    rw [List.getElem?_set] at hj
    split at hj
    · rename_i hij; subst hij; exact hlv
    · exact h.live j o' hj hol
  · intro j o' hj hol
    rw [List.getElem?_set] at hj
    split at hj
    · rename_i hij
      subst hij
      split at hj
      · cases hj
        exact ⟨vs, hblk, hn, fun k a v hk hv' => (hv k a v hk hv').grow hE⟩
      · cases hj
    · rename_i hij
      obtain ⟨us, g1, g2, g3⟩ := h.at_ j o' hj hol
      refine ⟨us, ?_, g2, fun k a v hk hv' => (g3 k a v hk hv').grow hE⟩
      rw [hoth]
      · exact g1
      · intro e
        have hj' : j < G.n := by rw [h.n]; exact lt_of_some hj
        exact hij (h.inj i j hin hj' hlv (h.live j o' hj hol) e.symm)
/-- the key that is there is the key that is written, sign by sign -/
def stays (key k0 : AV) : Bool := match conc k0, conc key with
  | some a, some b => Instr.sameBits 10000 a b
  | _, _ => false
def keyAt {α : Type} : Nat → List α → Option α
  | 0, k :: _ :: _ :: _ => some k
  | j + 1, _ :: _ :: _ :: l => keyAt j l
  | _, _ => none
theorem keyAt_ents : ∀ (j : Nat) (vs : List Value) (k : Value), keyAt j vs = some k → ((entriesOf vs)[j]?).map (·.key) = some k
  | 0, [], _, h => by cases h
  | 0, [_], _, h => by cases h
  | 0, [_, _], _, h => by cases h
  | 0, _ :: _ :: _ :: _, _, h => by simpa [keyAt, entriesOf] using h
  | j + 1, [], _, h => by cases h
  | j + 1, [_], _, h => by cases h
  | j + 1, [_, _], _, h => by cases h
  | j + 1, _ :: _ :: _ :: l, k, h => by simp only [entriesOf, List.getElem?_cons_succ]; exact keyAt_ents j l k h
theorem keyAt_VR {G : Gh} {w : World} : ∀ (j : Nat) (l : List AV) (vs : List Value) (k : AV), keyAt j l = some k → VRs0 G w l vs → ∃ c, keyAt j vs = some c ∧ VR0 G w k c
  | 0, [], _, _, h, _ => by cases h
  | 0, [_], _, _, h, _ => by cases h
  | 0, [_, _], _, _, h, _ => by cases h
  | 0, _ :: _ :: _ :: _, vs, k, h, hv => by
    simp only [VRs0] at hv
    obtain ⟨v, vs', rfl, h1, v2, vs2, rfl, h2, v3, vs3, rfl, h3, h4⟩ := hv
    simp only [keyAt, Option.some.injEq] at h
    subst h
    exact ⟨v, rfl, h1⟩
  | j + 1, [], _, _, h, _ => by cases h
  | j + 1, [_], _, _, h, _ => by cases h
  | j + 1, [_, _], _, _, h, _ => by cases h
  | j + 1, _ :: _ :: _ :: l, vs, k, h, hv => by
    simp only [VRs0] at hv
    obtain ⟨v, vs', rfl, h1, v2, vs2, rfl, h2, v3, vs3, rfl, h3, h4⟩ := hv
    exact keyAt_VR j l vs3 k h h4
theorem findK_len {P : Program} {kt : TypeId} {key : AV} : ∀ (l : List AV) (j : Nat), aFindK P kt key j l = some none → l.length % 3 = 0
  | [], _, _ => rfl
  | [_], _, h => by simp [aFindK] at h
  | [_, _], _, h => by simp [aFindK] at h
  | _ :: _ :: _ :: l, j, h => by
    simp only [aFindK] at h
    split at h
    · cases h
    · have := findK_len l (j + 1) h
      simp only [List.length_cons]; omega
    · cases h
/-- a map with an entry more, or one written -/
def aUpd (P : Program) (s : List Ob) (t : TypeId) (x key v : AV) : Option (List Ob) :=
  match P.underlying t with
  | some (.map kt _) => match x with
    | .mapr i => match s[i]? with
      | some ob => if ob.live = true ∧ ob.t = mapT then match ob.cs with
          | .int .i64 c :: l => if keyed P kt = true ∧ keyOk P kt key = true ∧ 0 ≤ c then
              match aFindK P kt key 0 l with
              | some (some (j, _)) => match keyAt j l with
                | some k0 => if stays key k0 = true then some (s.set i { ob with cs := .int .i64 c :: putAt j l key.plain v.plain }) else none
                | none => none
              | some none => some (s.set i { ob with cs := .int .i64 (c + 1) :: (l ++ [key.plain, v.plain, .int .i64 c]) })
              | none => none
            else none
          | _ => none
        else none
      | none => none
    | _ => none
  | _ => none
section
variable {P : Program} {o : Oper} {fr : List AV} {s : List Ob}
theorem VR.undefT (M : Nat → Prop) (G : Gh) (w : World) : VR M G w (.tuple []) undef := ⟨by simp only [VR0]; exact ⟨[], rfl, by simp only [VRs0]⟩, OwnC.of_plain rfl⟩
theorem Step_upd {t : TypeId} {x y z : Operand} {s' : List Ob} (ho : o.op = .mapUpdate t x y z ∨ o.op = .insert t x y z) (h : aUpd P s t (aEval fr x) (aEval fr y) (aEval fr z) = some s') : Step P o fr s fr (.tuple []) s' := by
  intro M G w a hF hS hf K Q hK
  have hx := (hf.eval x).1
  have hy := (hf.eval y).1
  have hz := (hf.eval z).1
  unfold aUpd at h
  split at h
  case h_2 => cases h
  rename_i kt et hu
  split at h
  case h_2 => cases h
  rename_i i ex
  rw [ex] at hx
  simp only [VR0] at hx
  split at h
  case h_2 => cases h
  rename_i ob hi
  split at h
  case isFalse => cases h
  rename_i hob
  obtain ⟨hl, ht⟩ := hob
  split at h
  case h_2 => cases h
  rename_i c l hcs
  split at h
  case isFalse => cases h
  rename_i hc
  obtain ⟨hd, hok, h0⟩ := hc
  obtain ⟨vs, h1, h2, hcell⟩ := hS.map hi hl ht hcs
  have hvl := h2.length
  have exec : ∀ ob2, (Instr.mapUpdate t (a.eval x) (a.eval y) (a.eval z)).run P w = .ok () { w with heap := w.heap.setIfInBounds (G.mu i) ob2 } →
      (execOp a.eval o).run P w = .ok .skip { w with heap := w.heap.setIfInBounds (G.mu i) ob2 } := fun ob2 hr => by
    rcases ho with ho | ho <;> simp only [execOp, ho, Sem.run_bind, hr, Result.andThen_ok] <;> rfl
  have fin : ∀ (ob' : Ob) (vs' : List Value), s' = s.set i ob' → vs'.length = ob'.cs.length → (∀ (k : Nat) (a : AV) (v : Value), ob'.cs[k]? = some a → vs'[k]? = some v → VR M G w a v) →
      (Instr.mapUpdate t (a.eval x) (a.eval y) (a.eval z)).run P w = .ok () { w with heap := w.heap.setIfInBounds (G.mu i) (ob'.obj vs') } → o.wp P a w K Q := fun ob' vs' e1 e2 e3 e4 => by
    subst e1
    obtain ⟨hE, hS'⟩ := hS.setOb (ob' := ob') hi hl e2 e3
    unfold Oper.wp
    rw [exec _ e4, Oper.upon_skip]
    exact hK undef G _ (hE.mono fun _ _ => False.elim) hS' (hf.grow hE) (VR.undefT _ _ _)
  have upd : ∀ (r' : Option (Nat × Value)) (ob2 : Obj), (Instr.findKey kt (a.eval y) (entriesOf vs)).run P w = .ok r' w →
      (match r' with
        | some (j, _) => ((entriesOf vs)[j]?).map (·.key) = some ((((entriesOf vs)[j]?).map (·.key)).getD (a.eval y)) ∧ Instr.sameBits 10000 ((((entriesOf vs)[j]?).map (·.key)).getD (a.eval y)) (a.eval y) = true ∧ ob2 = .map ((entriesOf vs).modify j fun e => { e with key := a.eval y, val := a.eval z }).toArray c.toNat
        | none => ob2 = .map (entriesOf vs ++ [{ key := a.eval y, val := a.eval z, born := c.toNat : MapEntry }]).toArray (c.toNat + 1)) →
      (Instr.mapUpdate t (a.eval x) (a.eval y) (a.eval z)).run P w = .ok () { w with heap := w.heap.setIfInBounds (G.mu i) ob2 } := fun r' ob2 hr hm => by
    simp only [Instr.mapUpdate, Sem.run_bind, run_underlying hu, Result.andThen_ok, hx.1, Go.MapKept.run_getObj_map h1, keyOk_run hok hy]
    rw [hr, Result.andThen_ok]
    cases r' with
    | none =>
      dsimp only at hm ⊢
      rw [Go.MapKept.run_setObj_map _ h1, hm]
      simp
    | some p =>
      obtain ⟨j, u⟩ := p
      dsimp only at hm ⊢
      obtain ⟨m1, m2, m3⟩ := hm
      have e : (((entriesOf vs).toArray[j]?).map (·.key)).getD (a.eval y) = ((((entriesOf vs)[j]?).map (·.key)).getD (a.eval y)) := by simp
      simp only [Sem.run_bind, Instr.keyThatStays]
      rw [e, if_pos m2]
      simp only [Sem.run_pure, Result.andThen_ok]
      rw [Go.MapKept.run_setObj_map _ h1, m3]
      congr 3
      congr 1
      apply Array.ext'
      simp
  have c0 : VR M G w (.int .i64 c) (.int .i64 c) := ⟨by simp only [VR0], OwnC.of_plain rfl⟩
  have cons : ∀ {n : Int} {l' : List AV} {vs' : List Value}, (∀ (k : Nat) (a : AV) (v : Value), l'[k]? = some a → vs'[k]? = some v → VR M G w a v) → ∀ (k : Nat) (a : AV) (v : Value), (AV.int .i64 n :: l')[k]? = some a → (Value.int .i64 n :: vs')[k]? = some v → VR M G w a v := by
    intro n l' vs' hh k a v ha hv
    cases k with
    | zero => simp at ha hv; subst ha hv; exact ⟨by simp only [VR0], OwnC.of_plain rfl⟩
    | succ k => exact hh k a v (by simpa using ha) (by simpa using hv)
  have obj : ∀ (n : Int) (l' : List AV) (vs' : List Value), Ob.obj { ob with cs := l' } (.int .i64 n :: vs') = .map (entriesOf vs').toArray n.toNat := fun n l' vs' => by unfold Ob.obj; rw [if_pos ht]; rfl
  split at h
  · rename_i j v0 hfk
    split at h
    case h_2 => cases h
    rename_i k0 hk0
    split at h
    case isFalse => cases h
    rename_i hst
    cases h
    obtain ⟨r', g1, g2⟩ := findKey_run hd hfk hy h2
    cases r' with
    | none => exact g2.elim
    | some p =>
      obtain ⟨j', cv⟩ := p
      obtain ⟨rfl, g2⟩ := g2
      obtain ⟨c1, q1, q2⟩ := keyAt_VR j l vs k0 hk0 h2
      have q3 := keyAt_ents j vs c1 q1
      have q4 : Instr.sameBits 10000 c1 (a.eval y) = true := by
        unfold stays at hst
        split at hst
        · rename_i a' b' e1 e2
          rw [conc_eq e1 q2, conc_eq e2 hy]
          exact hst
        · cases hst
      obtain ⟨p1, p2⟩ := putAt_VR (R := VR M G w) (VR.plain hy) (VR.plain hz) j l vs hvl hcell
      refine fin _ (.int .i64 c :: putAt j vs (a.eval y) (a.eval z)) rfl (by simpa using p1) (cons p2) (upd _ _ g1 ?_)
      dsimp only
      rw [q3]
      exact ⟨rfl, q4, by rw [obj, entriesOf_put]⟩
  · rename_i hfk
    cases h
    obtain ⟨r', g1, g2⟩ := findKey_run hd hfk hy h2
    cases r' with
    | some p => exact g2.elim
    | none =>
      have hl3 := findK_len l 0 hfk
      refine fin _ (.int .i64 (c + 1) :: (vs ++ [a.eval y, a.eval z, .int .i64 c])) rfl (by simp [hvl]) (cons ?_) (upd _ _ g1 ?_)
      · intro k b v hb hv
        rw [List.getElem?_append] at hb hv
        rw [hvl] at hv
        split at hb
        · rename_i hlt
          rw [if_pos hlt] at hv
          exact hcell k b v hb hv
        · rename_i hlt
          rw [if_neg hlt] at hv
          match hkl : k - l.length with
          | 0 => rw [hkl] at hb hv; simp at hb hv; subst hb hv; exact VR.plain hy
          | 1 => rw [hkl] at hb hv; simp at hb hv; subst hb hv; exact VR.plain hz
          | 2 => rw [hkl] at hb hv; simp at hb hv; subst hb hv; exact c0
          | n + 3 => rw [hkl] at hb; simp at hb
      · dsimp only
        rw [obj, entriesOf_app vs _ (by rw [hvl]; exact hl3)]
        have e : (c + 1).toNat = c.toNat + 1 := by omega
        rw [e]
        rfl
  · cases h
theorem Step_makeMap {t : TypeId} (ho : o.op = .makeMap t none) : Step P o fr s fr (.mapr s.length) (s ++ [⟨[.int .i64 0], mapT, true⟩]) := by
  intro M G w a hF hS hf K Q hK
  obtain ⟨hE, hS'⟩ := hS.addOb (cs := [.int .i64 0]) (vs := [.int .i64 0]) (t := mapT) rfl (fun k a v ha hv => by
    cases k with
    | zero => simp at ha hv; subst ha hv; exact ⟨by simp only [VR0], OwnC.of_plain rfl⟩
    | succ k => simp at ha)
  have e : Ob.obj ⟨[.int .i64 0], mapT, true⟩ [.int .i64 0] = .map #[] 0 := rfl
  rw [e] at hE hS'
  unfold Oper.wp
  have hr : (execOp a.eval o).run P w = .ok (.value (.map (some w.heap.size))) (w.alloc (.map #[] 0)) := by
    simp only [execOp, ho, Option.map_none, Sem.run_bind, run_makeMap, Result.andThen_ok]; rfl
  rw [hr, Oper.upon_value]
  refine hK _ _ _ (hE.mono fun _ _ => False.elim) hS' (hf.grow hE) ⟨?_, OwnC.of_plain rfl⟩
  simp only [VR0, Gh.addObj]
  rw [if_pos hS.n.symm]
  exact ⟨rfl, by rw [hS.n]; omega⟩
/-- a map without an entry -/
def aDel (P : Program) (s : List Ob) (t : TypeId) (x key : AV) : Option (List Ob) :=
  match P.underlying t with
  | some (.map kt _) => if keyOk P kt key = true then match x with
      | .mapn => some s
      | .mapr i => match s[i]? with
        | some ob => if ob.live = true ∧ ob.t = mapT then match ob.cs with
            | .int .i64 c :: l => if keyed P kt = true then
                match aFindK P kt key 0 l with
                | some (some (j, _)) => some (s.set i { ob with cs := .int .i64 c :: cutAt j l })
                | some none => some (s.set i ob)
                | none => none
              else none
            | _ => none
          else none
        | none => none
      | _ => none
    else none
  | _ => none
theorem Step_del {c : Call} {x y : Operand} {t : TypeId} {s' : List Ob} (ho : o.op = .call c) (hc : c.callee = .builtin .delete) (ha : c.args = #[x, y]) (ht : c.argTypes[0]? = some t) (h : aDel P s t (aEval fr x) (aEval fr y) = some s') : Step P o fr s fr (.tuple []) s' := by
  intro M G w a hF hS hf K Q hK
  have hx := (hf.eval x).1
  have hy := (hf.eval y).1
  have exec : ∀ w', (Builtin.delete_ c.argTypes o.type #[a.eval x, a.eval y]).run P w = .ok (.tuple #[]) w' → (execOp a.eval o).run P w = .ok (.value (.tuple #[])) w' := fun w' hr => by
    simp only [execOp, ho, Sem.run_bind, resolve, hc, ha, invoke, builtin, Sem.run_pure, Result.andThen_ok, List.map_toArray, List.map_cons, List.map_nil]
    rw [hr]
    rfl
  have tup : ∀ G' w', VR M G' w' (.tuple []) (.tuple #[]) := fun G' w' => ⟨by simp only [VR0]; exact ⟨[], rfl, by simp only [VRs0]⟩, OwnC.of_plain rfl⟩
  unfold aDel at h
  split at h
  case h_2 => cases h
  rename_i kt et hu
  split at h
  case isFalse => cases h
  rename_i hok
  have hck := fun e => keyOk_run (w := w) hok hy e
  split at h
  · rename_i ex
    cases h
    rw [ex] at hx
    simp only [VR0] at hx
    unfold Oper.wp
    rw [exec w (by simp [Builtin.delete_, ht, Sem.run_bind, run_underlying hu, hx, hck]), Oper.upon_value]
    exact hK _ G w (Ext.refl _ _ _) hS hf (tup _ _)
  · rename_i i ex
    rw [ex] at hx
    simp only [VR0] at hx
    split at h
    case h_2 => cases h
    rename_i ob hi
    split at h
    case isFalse => cases h
    rename_i hob
    obtain ⟨hl, htm⟩ := hob
    split at h
    case h_2 => cases h
    rename_i n l hcs
    split at h
    case isFalse => cases h
    rename_i hd
    obtain ⟨vs, h1, h2, hcell⟩ := hS.map hi hl htm hcs
    have fin : ∀ (ob' : Ob) (vs' : List Value), s' = s.set i ob' → VRs0 G w ob'.cs vs' → (∀ (k : Nat) (a : AV) (v : Value), ob'.cs[k]? = some a → vs'[k]? = some v → VR M G w a v) →
        (Builtin.delete_ c.argTypes o.type #[a.eval x, a.eval y]).run P w = .ok (.tuple #[]) { w with heap := w.heap.setIfInBounds (G.mu i) (ob'.obj vs') } → o.wp P a w K Q := fun ob' vs' e1 e2 e3 e4 => by
      subst e1
      obtain ⟨hE, hS'⟩ := hS.setOb (ob' := ob') hi hl e2.length e3
      unfold Oper.wp
      rw [exec _ e4, Oper.upon_value]
      exact hK _ G _ (hE.mono fun _ _ => False.elim) hS' (hf.grow hE) (tup _ _)
    have obj : ∀ (l' : List AV) (vs' : List Value), Ob.obj { ob with cs := l' } (.int .i64 n :: vs') = .map (entriesOf vs').toArray n.toNat := fun l' vs' => by unfold Ob.obj; rw [if_pos htm]; rfl
    have run : ∀ (r' : Option (Nat × Value)) (ob2 : Obj), (Instr.findKey kt (a.eval y) (entriesOf vs)).run P w = .ok r' w → ob2 = .map (match r' with | some (j, _) => (entriesOf vs).toArray.eraseIdxIfInBounds j | none => (entriesOf vs).toArray) n.toNat →
        (Builtin.delete_ c.argTypes o.type #[a.eval x, a.eval y]).run P w = .ok (.tuple #[]) { w with heap := w.heap.setIfInBounds (G.mu i) ob2 } := fun r' ob2 hr he => by
      have hg := Go.MapKept.run_getObj_map (P := P) h1
      cases r' with
      | none =>
        have hso := Go.MapKept.run_setObj_map (P := P) (.map (entriesOf vs).toArray n.toNat) h1
        simp [Builtin.delete_, ht, Sem.run_bind, run_underlying hu, hx.1, hg, hck, hr, hso, he]
      | some p =>
        obtain ⟨j, u⟩ := p
        have hso := Go.MapKept.run_setObj_map (P := P) (.map ((entriesOf vs).toArray.eraseIdxIfInBounds j) n.toNat) h1
        simp at hso
        simp [Builtin.delete_, ht, Sem.run_bind, run_underlying hu, hx.1, hg, hck, hr, he]
        rw [hso]
        rfl
    have cons : ∀ {l' : List AV} {vs' : List Value}, VRs0 G w l' vs' → VRs0 G w (.int .i64 n :: l') (.int .i64 n :: vs') := fun h => by simp only [VRs0, VR0]; exact ⟨_, _, rfl, rfl, h⟩
    split at h
    · rename_i j v0 hfk
      cases h
      obtain ⟨r', g1, g2⟩ := findKey_run hd hfk hy h2
      cases r' with
      | none => exact g2.elim
      | some p =>
        obtain ⟨j', cv⟩ := p
        obtain ⟨rfl, g2⟩ := g2
        have q := cutAt_VRs j l vs h2
        have q2 : ∀ (k : Nat) (a : AV) (v : Value), (AV.int .i64 n :: cutAt j l)[k]? = some a → (Value.int .i64 n :: cutAt j vs)[k]? = some v → VR M G w a v := by
          intro k b v hb hv
          cases k with
          | zero => simp at hb hv; subst hb hv; exact ⟨by simp only [VR0], OwnC.of_plain rfl⟩
          | succ k => exact cutAt_VR j l vs h2.length hcell k b v (by simpa using hb) (by simpa using hv)
        refine fin { ob with cs := .int .i64 n :: cutAt j l } (.int .i64 n :: cutAt j vs) rfl (cons q) q2 (run _ _ g1 ?_)
        rw [obj, entriesOf_cut]
        congr 1
        simp
    · rename_i hfk
      cases h
      obtain ⟨r', g1, g2⟩ := findKey_run hd hfk hy h2
      cases r' with
      | some p => exact g2.elim
      | none =>
        refine fin ob (.int .i64 n :: vs) rfl (by rw [hcs]; exact cons h2) ?_ (run _ _ g1 ?_)
        · intro k b v hb hv
          rw [hcs] at hb
          cases k with
          | zero => simp at hb hv; subst hb hv; exact ⟨by simp only [VR0], OwnC.of_plain rfl⟩
          | succ k => exact hcell k b v (by simpa using hb) (by simpa using hv)
        · have := obj ob.cs vs
          exact this
    · cases h
  · cases h
/-- how many entries a map has -/
def aLenM (P : Program) (s : List Ob) (t : TypeId) (x : AV) : Option AV :=
  match P.underlying t, aEnts s x with
  | some (.map _ _), some l => some (.int .i64 (l.length / 3 : Nat))
  | _, _ => none
theorem Step_lenM {c : Call} {x : Operand} {t : TypeId} {v : AV} (ho : o.op = .call c) (hc : c.callee = .builtin .len) (ha : c.args = #[x]) (ht : c.argTypes[0]? = some t) (h : aLenM P s t (aEval fr x) = some v) : Still P o fr s v := fun M G w a hS hf => by
  have hx := (hf.eval x).1
  unfold aLenM at h
  split at h
  case h_2 => cases h
  rename_i kt et l hu hl
  cases h
  refine ⟨.int .i64 (l.length / 3 : Nat), ?_, by simp only [VR0], OwnC.of_plain rfl⟩
  unfold aEnts at hl
  split at hl
  · rename_i ex
    cases hl
    rw [ex] at hx
    simp only [VR0] at hx
    simp [execOp, ho, resolve, hc, ha, invoke, builtin, Builtin.len_, ht, run_underlying hu, hx, goInt]
  · rename_i i ex
    rw [ex] at hx
    simp only [VR0] at hx
    split at hl
    case h_2 => cases hl
    rename_i ob hi
    split at hl
    case isFalse => cases hl
    rename_i hob
    split at hl
    case h_2 => cases hl
    rename_i n l' hcs
    cases hl
    obtain ⟨vs, h1, h2, _⟩ := hS.map hi hob.1 hob.2 hcs
    have hg := Go.MapKept.run_getObj_map (P := P) h1
    simp [execOp, ho, resolve, hc, ha, invoke, builtin, Builtin.len_, ht, run_underlying hu, hx.1, goInt, hg, entriesOf_len, h2.length]
  · cases hl
end
end
end Go.Proofs.YtmacghaihlfcpaaGreat.Abs
