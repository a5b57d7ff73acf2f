/- Maps and lists of pointers, on typed values. -/
import Derived.Test.YtmacghaihlfcpaaGreatL4
import Derived.Test.YtmacghaihlfcpaaGreatMI
namespace Go.Proofs.YtmacghaihlfcpaaGreat.Abs
noncomputable section
open Go Go.ChangeShapes Go.WideShapes Go.ChangeAt Go.RowKit
set_option linter.unusedVariables false
set_option linter.unusedSimpArgs false

def tKeyEq (P : Program) (kt : TypeId) (x y : TV) : Option Bool :=
  match x, y with
  | .int k a, .int k' b => match P.underlying kt with
    | some (.int _) => if k = k' then some (a == b) else none
    | _ => none
  | .agg cs, .agg ds => match P.underlying kt with
    | some (.struct _) => tEqT P 20 kt cs ds
    | _ => none
  | _, _ => none
theorem tKeyEq_spec {P : Program} {kt : TypeId} {x y : TV} {r : Bool} (h : tKeyEq P kt x y = some r) : aKeyEq P kt (dn x) (dn y) = some r := by
  unfold tKeyEq at h
  split at h
  · simp only [dn, aKeyEq]
    split at h
    · rename_i q hu
      simp only [hu]
      exact h
    · cases h
  · simp only [dn, aKeyEq]
    split at h
    · rename_i fs hu
      simp only [hu]
      exact tEqT_spec _ _ _ _ _ h
    · cases h
  · cases h
def tFindK (P : Program) (kt : TypeId) (key : TV) : Nat → List TV → Option (Option (Nat × TV))
  | _, [] => some none
  | j, k :: v :: b :: l => match tKeyEq P kt key k with
    | some true => some (some (j, v))
    | some false => tFindK P kt key (j + 1) l
    | none => none
  | _, _ => none
theorem tFindK_spec {P : Program} {kt : TypeId} {key : TV} : ∀ (l : List TV) (j : Nat) (r : Option (Nat × TV)), tFindK P kt key j l = some r → aFindK P kt (dn key) j (dns l) = some (r.map fun p => (p.1, dn p.2))
  | [], j, r, h => by simp only [tFindK, Option.some.injEq] at h; subst h; rfl
  | [_], _, _, h => by simp [tFindK] at h
  | [_, _], _, _, h => by simp [tFindK] at h
  | k :: v :: b :: l, j, r, h => by
    simp only [tFindK] at h
    simp only [dns, aFindK]
    split at h
    · rename_i he; cases h; rw [tKeyEq_spec he]; rfl
    · rename_i he; rw [tKeyEq_spec he]; exact tFindK_spec l (j + 1) r h
    · cases h
def tEnts (s : List TOb) : TV → Option (List TV)
  | .mapn => some []
  | .mapr i => match s[i]? with
    | some (.cells (.int .i64 _ :: l) t lv) => if lv = true ∧ t = mapT then some l else none
    | _ => none
  | _ => none
theorem tEnts_spec {s : List TOb} {x : TV} {l : List TV} (h : tEnts s x = some l) : aEnts (dnS s) (dn x) = some (dns l) := by
  unfold tEnts at h
  split at h
  · cases h; rfl
  · split at h
    · rename_i i _ n l' t lv hs
      split at h
      · rename_i hc
        cases h
        simp only [dn, aEnts, dnS_get, hs, Option.map_some, dnO]
        rw [if_pos hc]
        rfl
      · cases h
    · cases h
  · cases h
def tLookup (P : Program) (s : List TOb) (t : TypeId) (x key : TV) (ok : Bool) : Option TV :=
  match P.underlying t with
  | some (.map kt et) => match zeroOf P et, tEnts s x with
    | some z, some l => if keyed P kt = true ∧ keyOk P kt (dn key) = true then
        match tFindK P kt key 0 l with
        | some (some (_, v)) => some (if ok = true then .tup [tplain v, .tt] else tplain v)
        | some none => some (if ok = true then .tup [tAbs z, .ff] else tAbs z)
        | none => none
      else none
    | _, _ => none
  | _ => none
theorem tLookup_spec {P : Program} {s : List TOb} {t : TypeId} {x key v : TV} {ok : Bool} (h : tLookup P s t x key ok = some v) : aLookup P (dnS s) t (dn x) (dn key) ok = some (dn v) := by
  unfold tLookup at h
  unfold aLookup
  split at h
  case h_2 => cases h
  rename_i kt et hu
  split at h
  case h_2 => cases h
  rename_i z l hz hl
  split at h
  case isFalse => cases h
  rename_i hc
  simp only [hu, hz, tEnts_spec hl]
  rw [if_pos hc]
  split at h
  · rename_i j v' hf
    cases h
    rw [tFindK_spec l 0 _ hf]
    cases ok <;> simp [dn, dns, dn_tplain]
  · rename_i hf
    cases h
    rw [tFindK_spec l 0 _ hf]
    cases ok <;> simp [dn, dns, dn_tAbs]
  · cases h
theorem dns_putAt : ∀ (j : Nat) (l : List TV) (k v : TV), dns (putAt j l k v) = putAt j (dns l) (dn k) (dn v)
  | 0, [], _, _ => rfl
  | 0, [_], _, _ => rfl
  | 0, _ :: _ :: _, _, _ => rfl
  | _ + 1, [], _, _ => rfl
  | _ + 1, [_], _, _ => rfl
  | _ + 1, [_, _], _, _ => rfl
  | j + 1, _ :: _ :: _ :: l, k, v => by simp only [putAt, dns, dns_putAt j l k v]
theorem dns_cutAt : ∀ (j : Nat) (l : List TV), dns (cutAt j l) = cutAt j (dns l)
  | 0, [] => rfl
  | 0, [_] => rfl
  | 0, [_, _] => rfl
  | 0, _ :: _ :: _ :: _ => rfl
  | _ + 1, [] => rfl
  | _ + 1, [_] => rfl
  | _ + 1, [_, _] => rfl
  | j + 1, _ :: _ :: _ :: l => by simp only [cutAt, dns, dns_cutAt j l]
theorem dns_keyAt : ∀ (j : Nat) (l : List TV), keyAt j (dns l) = (keyAt j l).map dn
  | 0, [] => rfl
  | 0, [_] => rfl
  | 0, [_, _] => rfl
  | 0, _ :: _ :: _ :: _ => rfl
  | _ + 1, [] => rfl
  | _ + 1, [_] => rfl
  | _ + 1, [_, _] => rfl
  | j + 1, _ :: _ :: _ :: l => by simp only [keyAt, dns, dns_keyAt j l]
def tUpd (P : Program) (s : List TOb) (t : TypeId) (x key v : TV) : Option (List TOb) :=
  match P.underlying t with
  | some (.map kt _) => match x with
    | .mapr i => match s[i]? with
      | some (.cells (.int .i64 c :: l) ot lv) => if (lv = true ∧ ot = mapT) ∧ keyed P kt = true ∧ keyOk P kt (dn key) = true ∧ 0 ≤ c then
          match tFindK P kt key 0 l with
          | some (some (j, _)) => match keyAt j l with
            | some k0 => if stays (dn key) (dn k0) = true then some (s.set i (.cells (.int .i64 c :: putAt j l (tplain key) (tplain v)) ot lv)) else none
            | none => none
          | some none => some (s.set i (.cells (.int .i64 (c + 1) :: (l ++ [tplain key, tplain v, .int .i64 c])) ot lv))
          | none => none
        else none
      | _ => none
    | _ => none
  | _ => none
theorem tUpd_spec {P : Program} {s s' : List TOb} {t : TypeId} {x key v : TV} (h : tUpd P s t x key v = some s') : aUpd P (dnS s) t (dn x) (dn key) (dn v) = some (dnS s') := by
  unfold tUpd at h
  unfold aUpd
  split at h
  case h_2 => cases h
  rename_i kt et hu
  simp only [hu]
  split at h
  case h_2 => cases h
  rename_i i
  split at h
  case h_2 => cases h
  rename_i c l ot lv hs
  split at h
  case isFalse => cases h
  rename_i hc
  obtain ⟨h1, h2⟩ := hc
  simp only [dn, dnS_get, hs, Option.map_some, dnO, dns]
  rw [if_pos h1, if_pos h2]
  split at h
  · rename_i j v0 hf
    split at h
    case h_2 => cases h
    rename_i k0 hk
    split at h
    case isFalse => cases h
    rename_i hst
    cases h
    rw [tFindK_spec l 0 _ hf]
    simp only [Option.map_some, dns_keyAt, hk]
    rw [if_pos hst, dnS_set]
    simp only [dnO, dns, dn, dns_putAt, dn_tplain]
  · rename_i hf
    cases h
    rw [tFindK_spec l 0 _ hf, dnS_set]
    simp only [Option.map_none, dnO, dns, dn, dns_app, dn_tplain]
  · cases h
def tDel (P : Program) (s : List TOb) (t : TypeId) (x key : TV) : Option (List TOb) :=
  match P.underlying t with
  | some (.map kt _) => if keyOk P kt (dn key) = true then match x with
      | .mapn => some s
      | .mapr i => match s[i]? with
        | some (.cells (.int .i64 c :: l) ot lv) => if (lv = true ∧ ot = mapT) ∧ keyed P kt = true then
            match tFindK P kt key 0 l with
            | some (some (j, _)) => some (s.set i (.cells (.int .i64 c :: cutAt j l) ot lv))
            | some none => some (s.set i (.cells (.int .i64 c :: l) ot lv))
            | none => none
          else none
        | _ => none
      | _ => none
    else none
  | _ => none
theorem tDel_spec {P : Program} {s s' : List TOb} {t : TypeId} {x key : TV} (h : tDel P s t x key = some s') : aDel P (dnS s) t (dn x) (dn key) = some (dnS s') := by
  unfold tDel at h
  unfold aDel
  split at h
  case h_2 => cases h
  rename_i kt et hu
  simp only [hu]
  split at h
  case isFalse => cases h
  rename_i hok
  rw [if_pos hok]
  split at h
  · cases h; rfl
  · rename_i i
    split at h
    case h_2 => cases h
    rename_i c l ot lv hs
    split at h
    case isFalse => cases h
    rename_i hc
    obtain ⟨h1, h2⟩ := hc
    simp only [dn, dnS_get, hs, Option.map_some, dnO, dns]
    rw [if_pos h1, if_pos h2]
    split at h
    · rename_i j v0 hf
      cases h
      rw [tFindK_spec l 0 _ hf, dnS_set]
      simp only [Option.map_some, dnO, dns, dn, dns_cutAt]
    · rename_i hf
      cases h
      rw [tFindK_spec l 0 _ hf, dnS_set]
      simp only [Option.map_none, dnO, dns, dn]
    · cases h
  · cases h
def tLenM (P : Program) (s : List TOb) (t : TypeId) (x : TV) : Option TV :=
  match P.underlying t, tEnts s x with
  | some (.map _ _), some l => some (.int .i64 (l.length / 3 : Nat))
  | _, _ => none
theorem tLenM_spec {P : Program} {s : List TOb} {t : TypeId} {x v : TV} (h : tLenM P s t x = some v) : aLenM P (dnS s) t (dn x) = some (dn v) := by
  unfold tLenM at h
  unfold aLenM
  split at h
  · rename_i k e l hu hl
    cases h
    simp only [hu, tEnts_spec hl, dn, dns_length]
  · cases h
/-! lists -/
def tListOf : TV → Option (List TV × Nat × Tag)
  | .ll cs n g => some (cs, n, g)
  | .tl ty xs g => some (List.flatMap (tcells ty) xs, List.length xs, g)
  | _ => none
theorem dns_flat {ty : Ty} : ∀ xs : List (El ty), dns (xs.flatMap (tcells ty)) = xs.flatMap (cellsOf ty)
  | [] => rfl
  | x :: xs => by simp only [List.flatMap_cons, dns_app, dns_tcells, dns_flat xs]
theorem tListOf_spec {v : TV} {cs : List TV} {n : Nat} {g : Tag} (h : tListOf v = some (cs, n, g)) : dn v = .list (dns cs) n g := by
  unfold tListOf at h
  split at h
  · cases h; rfl
  · cases h; simp only [dn, dns_flat]
  · cases h
def tAppL (P : Program) (d : Nat) (fr : List TV) (s : List TOb) (t : TypeId) (x y : TV) : Option (Bool × List TV × TV × List TOb) :=
  match aElem P t, tListOf x, tListOf y with
  | some (e, size), some (cs, n, g), some (cs2, m, _) =>
    if (0 < m ∧ cs2.length = m * size ∧ cs2.all tone = true) ∧ fitsB P e size 0 = true then
      match g with
      | .own t0 e' z' => if e' = e ∧ z' = size then some (fits (n + m) (fitLim P e), tclears [t0] fr, .ll (cs ++ cs2) (n + m) (.own t0 e size), tclearS [t0] s) else none
      | .full => if cs.length = n * size then some (fits (n + m) (fitLim P e), tclears [d] fr, .ll (cs ++ cs2) (n + m) (.own d e size), tclearS [d] s) else none
      | .unk => none
    else none
  | _, _, _ => none
section
variable {P : Program} {o : Oper}
theorem tAppL_spec {fr fr' : List TV} {s s' : List TOb} {c : Call} {x y : Operand} {t : TypeId} {d : Nat} {g : Bool} {v : TV} (ho : o.op = .call c) (hc : c.callee = .builtin .append) (ha : c.args = #[x, y]) (ht : c.argTypes = #[t, t])
    (h : tAppL P d fr s t (tEval fr x) (tEval fr y) = some (g, fr', v, s')) (hg : gdP g) : Step P o (dns fr) (dnS s) (dns fr') (dn v) (dnS s') := by
  unfold tAppL at h
  split at h
  case h_2 => cases h
  rename_i e size cs n gx cs2 m gy he hx hy
  have hx' : aEval (dns fr) x = .list (dns cs) n gx := by rw [← dn_tEval]; exact tListOf_spec hx
  have hy' : aEval (dns fr) y = .list (dns cs2) m gy := by rw [← dn_tEval]; exact tListOf_spec hy
  split at h
  case isFalse => cases h
  rename_i hcnd
  obtain ⟨⟨h0, h1, h2⟩, h3⟩ := hcnd
  have h1' : (dns cs2).length = m * size := by rw [dns_length]; exact h1
  have h2' : (dns cs2).all AV.one = true := by rw [tones_spec]; exact h2
  split at h
  · rename_i t0 e' z'
    split at h
    · rename_i hc2
      obtain ⟨rfl, rfl⟩ := hc2
      cases h
      have hfit := fits_of h3 (by simpa only [gdP, fits_iff] using hg)
      rw [dns_tclears, dnS_clear]
      simp only [dn, dns_app]
      exact Step_append_own t0 ho hc ha ht he hx' hy' h0 h1' h2' hfit
    · cases h
  · split at h
    · rename_i hl
      cases h
      have hfit := fits_of h3 (by simpa only [gdP, fits_iff] using hg)
      rw [dns_tclears, dnS_clear]
      simp only [dn, dns_app]
      exact (Step_append_full d ho hc ha ht he hx' hy' h0 (by rw [dns_length]; exact hl) h1' h2' hfit).weaken (clears_wk _ _) (.refl _) (clearStore_wk _ _)
    · cases h
  · cases h
/-- the part without an element, without room -/
theorem Step_slice0 {t e : TypeId} {x h m : Operand} {lo : Option Operand} {fr : List AV} {s : List Ob} {cs : List AV} {n size : Nat} {g : Tag} {k1 k2 : IntKind} (ho : o.op = .slice t x lo (some h) (some m)) (he : aElem P t = some (e, size)) (hx : aEval fr x = .list cs n g)
    (hh : aEval fr h = .int k1 0) (hm : aEval fr m = .int k2 0) (hlo : lo = none ∨ ∃ l k, lo = some l ∧ aEval fr l = .int k 0) : Still P o fr s (.list [] 0 .full) := fun M G w a hS hf => by
  have hv := (hf.eval x).1
  have h1 := (hf.eval h).1
  have h2 := (hf.eval m).1
  rw [hx] at hv
  rw [hh] at h1
  rw [hm] at h2
  simp only [VR0] at hv h1 h2
  obtain ⟨A, cap, e1, e2, e3, e4⟩ := hv
  obtain ⟨g2, i, g3, g4, g5⟩ := aElem_spec he
  have hb : (Instr.sliceBounds true n cap (lo.map a.eval) (some (a.eval h)) (some (a.eval m))).run P w = .ok (0, 0, 0) w := by
    rcases hlo with rfl | ⟨l, k, rfl, hl⟩
    · simp [Instr.sliceBounds, Instr.sliceBound, h1, h2, asIntOf]
    · have h3 := (hf.eval l).1
      rw [hl] at h3
      simp only [VR0] at h3
      simp [Instr.sliceBounds, Instr.sliceBound, h1, h2, h3, asIntOf]
  refine ⟨.slice A 0 0, ?_, ?_, OwnC.of_plain rfl⟩
  · have q2 := run_underlying g2 w
    have q3 := run_sizeOf g3 w
    simp only [execOp, ho, Sem.run_bind, Instr.sliceAt, q2, Result.andThen_ok, Option.map_some, e1, Instr.slice, hb, q3]
    rfl
  · simp only [VR0]
    exact ⟨A, 0, rfl, Nat.le_refl _, fun _ => rfl, .inl trivial⟩
end
def isZ : TV → Bool
  | .int _ 0 => true
  | _ => false
theorem isZ_spec {v : TV} (h : isZ v = true) : ∃ k, dn v = .int k 0 := by
  unfold isZ at h
  split at h
  · exact ⟨_, rfl⟩
  · cases h
theorem run_equal_slice {P : Program} {t e : TypeId} (w : World) (a : Addr) (n c n2 c2 : Nat) (hu : P.underlying t = some (.slice e)) : (Op.equal t (.slice (some a) n c) (.slice none n2 c2)).run P w = .ok false w := by
  have h : ∀ d, (Op.equalIn (d + 1) t (.slice (some a) n c) (.slice none n2 c2)).run P w = .ok false w := fun d => by simp [Op.equalIn, run_underlying hu]
  exact h 9999
/-- a row with something in it is not nil -/
theorem Step_notnil {P : Program} {o : Oper} {fr : List AV} {s : List Ob} {t e yt : TypeId} {x : Operand} {op : BinOp} {c : AV} {cs : List AV} {n : Nat} {g : Tag} (ho : o.op = .binOp op t x (.const (.slice none 0 0)) yt) (hop : op = .eql ∨ op = .neq) (hu : P.underlying t = some (.slice e))
    (hx : aEval fr x = .list (c :: cs) n g) : Still P o fr s (.bool (op == .neq)) := fun M G w a hS hf => by
  have hv := (hf.eval x).1
  rw [hx] at hv
  simp only [VR0] at hv
  obtain ⟨A, cap, e1, _, _, e4⟩ := hv
  rcases e4 with e4 | ⟨b, off, vs, e4, _⟩
  · cases e4
  · subst e4
    have hev : a.eval (.const (.slice none 0 0)) = .slice none 0 0 := rfl
    rcases hop with rfl | rfl
    · exact ⟨.bool false, by simp [execOp, ho, e1, hev, eqGuard_at_slice, binOp, run_equal_slice _ _ _ _ _ _ hu], by simp only [VR0]; rfl, OwnC.of_plain rfl⟩
    · exact ⟨.bool true, by simp [execOp, ho, e1, hev, eqGuard_at_slice, binOp, run_equal_slice _ _ _ _ _ _ hu], by simp only [VR0]; rfl, OwnC.of_plain rfl⟩
def notnil (P : Program) (t : TypeId) (op : BinOp) (x : TV) (y : Operand) : Option TV := match P.underlying t, tListOf x, op, y with
  | some (.slice _), some (_ :: _, _, _), .eql, .const (.slice none 0 0) => some .ff
  | some (.slice _), some (_ :: _, _, _), .neq, .const (.slice none 0 0) => some .tt
  | _, _, _, _ => none
theorem notnil_spec {P : Program} {o : Oper} {fr : List TV} {s : List Ob} {t yt : TypeId} {op : BinOp} {x y : Operand} {v : TV} (ho : o.op = .binOp op t x y yt) (h : notnil P t op (tEval fr x) y = some v) : Still P o (dns fr) s (dn v) := by
  unfold notnil at h
  split at h
  · rename_i e c cs n g hu hl
    cases h
    exact Step_notnil ho (.inl rfl) hu (by rw [← dn_tEval]; exact tListOf_spec hl)
  · rename_i e c cs n g hu hl
    cases h
    exact Step_notnil ho (.inr rfl) hu (by rw [← dn_tEval]; exact tListOf_spec hl)
  · cases h
/-! iterators -/
def tRange (P : Program) (s : List TOb) (t : TypeId) (x : TV) : Option (List TOb) := match P.underlying t with
  | some (.map _ _) => match x with
    | .mapn => some (s ++ [.cells [.mapn, .int .i64 0, .int .i64 0] mapT true])
    | .mapr j => match s[j]? with
      | some (.cells (.int .i64 c :: _) mt lv) => if lv = true ∧ mt = mapT then some (s ++ [.cells [.mapr j, .int .i64 c, .int .i64 c] mapT true]) else none
      | _ => none
    | _ => none
  | _ => none
theorem tRange_spec {P : Program} {s s' : List TOb} {t : TypeId} {x : TV} (h : tRange P s t x = some s') : aRange P (dnS s) t (dn x) = some (dnS s') := by
  unfold tRange at h
  unfold aRange
  split at h
  case h_2 => cases h
  rename_i kt et hu
  simp only [hu]
  split at h
  · cases h
    simp only [dn, dnS_app]
    rfl
  · rename_i j
    split at h
    case h_2 => cases h
    rename_i c l mt lv hj
    split at h
    case isFalse => cases h
    rename_i hc
    cases h
    simp only [dn, dnS_get, hj, Option.map_some, dnO, dns]
    rw [if_pos hc, dnS_app]
    rfl
  · cases h
def tIter (s : List TOb) (it : TV) : Option (Nat × (List TV × TypeId × Bool) × Option (Nat × Int × Int × List TV × Int × Option (TV × TV × Int))) := match it with
  | .ref i 0 => match s[i]? with
    | some (.cells cs t lv) => if lv = true ∧ t = mapT then match cs with
        | .mapn :: .int .i64 _ :: .int .i64 _ :: _ => some (i, (cs, t, lv), none)
        | .mapr j :: .int .i64 a :: .int .i64 b :: seen => match s[j]? with
          | some (.cells cm mt ml) => if ml = true ∧ mt = mapT then match cm with
              | [.int .i64 c] => some (i, (cs, t, lv), some (j, a, b, seen, c, none))
              | [.int .i64 c, k, v, .int .i64 n] => some (i, (cs, t, lv), some (j, a, b, seen, c, some (k, v, n)))
              | _ => none
            else none
          | _ => none
        | _ => none
      else none
    | _ => none
  | _ => none
def dnE : Option (Nat × Int × Int × List TV × Int × Option (TV × TV × Int)) → Option (Nat × Int × Int × List AV × Int × Option (AV × AV × Int))
  | none => none
  | some (j, a, b, seen, c, e) => some (j, a, b, dns seen, c, e.map fun p => (dn p.1, dn p.2.1, p.2.2))
theorem tIter_spec {s : List TOb} {it : TV} {i : Nat} {ob : List TV × TypeId × Bool} {r : Option (Nat × Int × Int × List TV × Int × Option (TV × TV × Int))} (h : tIter s it = some (i, ob, r)) : aIter (dnS s) (dn it) = some (i, ⟨dns ob.1, ob.2.1, ob.2.2⟩, dnE r) := by
  unfold tIter at h
  split at h
  case h_2 => cases h
  rename_i i1
  simp only [dn, aIter, dnS_get]
  split at h
  case h_2 => cases h
  rename_i cs t lv hi
  simp only [hi, Option.map_some, dnO]
  split at h
  case isFalse => cases h
  rename_i hob
  rw [if_pos hob]
  split at h
  · cases h
    simp only [dns, dn, dnE]
  · rename_i j a b seen
    simp only [dns, dn, dnS_get]
    split at h
    case h_2 => cases h
    rename_i cm mt ml hj
    simp only [hj, Option.map_some, dnO]
    split at h
    case isFalse => cases h
    rename_i hom
    rw [if_pos hom]
    split at h
    · cases h; simp only [dns, dn, dnE, Option.map_none]
    · cases h; simp only [dns, dn, dnE, Option.map_some]
    · cases h
  · cases h
def tNext (s : List TOb) (it : TV) : Option (TV × List TOb) := match tIter s it with
  | some (_, _, none) => some (.tup [.ff], s)
  | some (_, _, some (_, _, _, _, _, none)) => some (.tup [.ff], s)
  | some (i, ob, some (j, a, b, seen, c, some (k, v, n))) => match seen with
    | [] => if n.toNat < a.toNat then some (.tup [.tt, tplain k, tplain v], s.set i (.cells [.mapr j, .int .i64 a, .int .i64 c, .int .i64 n] ob.2.1 ob.2.2)) else none
    | [.int .i64 m] => if m.toNat = n.toNat ∧ n.toNat < b.toNat then some (.tup [.ff], s) else none
    | _ => none
  | _ => none
theorem tNext_spec {s s' : List TOb} {it v : TV} (h : tNext s it = some (v, s')) : aNext (dnS s) (dn it) = some (dn v, dnS s') := by
  unfold tNext at h
  unfold aNext
  split at h
  · rename_i i ob he
    cases h
    rw [tIter_spec he]
    rfl
  · rename_i i ob j a b seen c he
    cases h
    rw [tIter_spec he]
    rfl
  · rename_i i ob j a b seen c k v1 n he
    rw [tIter_spec he]
    simp only [dnE, Option.map_some]
    split at h
    · split at h
      · rename_i hlt
        cases h
        simp only [dns]
        rw [if_pos hlt]
        simp only [dn, dns, dn_tplain, dnS_set, dnO]
      · cases h
    · split at h
      · rename_i hlt
        cases h
        simp only [dns, dn]
        rw [if_pos hlt]
      · cases h
    · cases h
  · cases h
def tItem (s : List TOb) (it : TV) : Option TV := match tIter s it with
  | some (_, _, some (_, _, b, [.int .i64 m], c, some (k, v, n))) => if m.toNat = n.toNat ∧ b.toNat = c.toNat then some (.tup [tplain k, tplain v]) else none
  | _ => none
theorem tItem_spec {s : List TOb} {it v : TV} (h : tItem s it = some v) : aItem (dnS s) (dn it) = some (dn v) := by
  unfold tItem at h
  unfold aItem
  split at h
  · rename_i he
    split at h
    · rename_i hlt
      cases h
      rw [tIter_spec he]
      simp only [dnE, Option.map_some, dns, dn]
      rw [if_pos hlt]
      simp only [dn_tplain]
    · cases h
  · cases h
def tMore (P : Program) (tb : Nat) (fr : List TV) (s : List TOb) (dst : Option Tmp) (op : Op) : Option (Bool × List TV × TV × List TOb) :=
  match op with
  | .makeMap t none => some (true, fr, .mapr s.length, s ++ [.cells [.int .i64 0] mapT true])
  | .range t x => match tRange P s t (tEval fr x) with
    | some s' => some (true, fr, .ref s.length 0, s')
    | none => none
  | .next x false => match tNext s (tEval fr x) with
    | some (v, s') => some (true, fr, v, s')
    | none => none
  | .entry x => match tItem s (tEval fr x) with
    | some v => some (true, fr, v, s)
    | none => none
  | .lookup t x y ok => match tLookup P s t (tEval fr x) (tEval fr y) ok with
    | some v => some (true, fr, v, s)
    | none => none
  | .binOp op t x y _ => match notnil P t op (tEval fr x) y with
    | some v => some (true, fr, v, s)
    | none => none
  | .mapUpdate t x y z => match tUpd P s t (tEval fr x) (tEval fr y) (tEval fr z) with
    | some s' => some (true, fr, .tup [], s')
    | none => none
  | .insert t x y z => match tUpd P s t (tEval fr x) (tEval fr y) (tEval fr z) with
    | some s' => some (true, fr, .tup [], s')
    | none => none
  | .slice t x lo (some h) (some m) => match aElem P t, tListOf (tEval fr x) with
    | some _, some _ => if isZ (tEval fr h) = true ∧ isZ (tEval fr m) = true ∧ (lo.all fun l => isZ (tEval fr l)) = true then some (true, fr, .ll [] 0 .full, s) else none
    | _, _ => none
  | .call c => match c.callee with
    | .builtin .delete => match c.args.toList, c.argTypes.toList with
      | [x, y], t :: _ => match tDel P s t (tEval fr x) (tEval fr y) with
        | some s' => some (true, fr, .tup [], s')
        | none => none
      | _, _ => none
    | .builtin .len => match c.args.toList, c.argTypes.toList with
      | [x], [t] => match tLenM P s t (tEval fr x) with
        | some v => some (true, fr, v, s)
        | none => none
      | _, _ => none
    | .builtin .append => match c.args.toList, c.argTypes.toList with
      | [x, y], [t, t'] => if t = t' then tAppL P (tb + dst.getD 0) fr s t (tEval fr x) (tEval fr y) else none
      | _, _ => none
    | _ => none
  | _ => none
theorem tMore_spec {P : Program} {tb : Nat} {fr fr' : List TV} {s s' : List TOb} {o : Oper} {g : Bool} {v : TV} (h : tMore P tb fr s o.dst o.op = some (g, fr', v, s')) (hg : gdP g) : Step P o (dns fr) (dnS s) (dns fr') (dn v) (dnS s') := by
  obtain ⟨dst, op, type, pos, after, guard⟩ := o
  unfold tMore at h
  dsimp only at h
  split at h
  · rename_i t
    cases h
    rw [dnS_app]
    have := Step_makeMap (P := P) (o := ⟨dst, .makeMap t none, type, pos, after, guard⟩) (fr := dns fr) (s := dnS s) rfl
    rw [dnS_length] at this
    exact this
  · rename_i t x
    split at h
    · rename_i s1 h1
      cases h
      have h1 := tRange_spec h1
      rw [dn_tEval] at h1
      have := Step_range (o := ⟨dst, .range t x, type, pos, after, guard⟩) rfl h1
      rw [dnS_length] at this
      exact this
    · cases h
  · rename_i x
    split at h
    · rename_i v1 s1 h1
      cases h
      have h1 := tNext_spec h1
      rw [dn_tEval] at h1
      exact Step_next rfl h1
    · cases h
  · rename_i x
    split at h
    · rename_i v1 h1
      cases h
      have h1 := tItem_spec h1
      rw [dn_tEval] at h1
      exact Step_still (Step_item rfl h1)
    · cases h
  · rename_i t x y ok
    split at h
    · rename_i v1 h1
      cases h
      have h1 := tLookup_spec h1
      rw [dn_tEval, dn_tEval] at h1
      exact Step_still (Step_lookup rfl h1)
    · cases h
  · rename_i op t x y yt
    split at h
    · rename_i v1 h1
      cases h
      exact Step_still (notnil_spec rfl h1)
    · cases h
  · rename_i t x y z
    split at h
    · rename_i s1 h1
      cases h
      have h1 := tUpd_spec h1
      rw [dn_tEval, dn_tEval, dn_tEval] at h1
      exact Step_upd (.inl rfl) h1
    · cases h
  · rename_i t x y z
    split at h
    · rename_i s1 h1
      cases h
      have h1 := tUpd_spec h1
      rw [dn_tEval, dn_tEval, dn_tEval] at h1
      exact Step_upd (.inr rfl) h1
    · cases h
  · rename_i t x lo hi m
    split at h
    case h_2 => cases h
    rename_i es ls he hl
    split at h
    case isFalse => cases h
    rename_i hc
    obtain ⟨c1, c2, c3⟩ := hc
    cases h
    obtain ⟨e, size⟩ := es
    obtain ⟨cs, n, gl⟩ := ls
    obtain ⟨k1, z1⟩ := isZ_spec c1
    obtain ⟨k2, z2⟩ := isZ_spec c2
    have hx := tListOf_spec hl
    rw [dn_tEval] at hx z1 z2
    refine Step_still (Step_slice0 rfl he hx z1 z2 ?_)
    cases lo with
    | none => exact .inl rfl
    | some l =>
      obtain ⟨k3, z3⟩ := isZ_spec (v := tEval fr l) (by simpa using c3)
      rw [dn_tEval] at z3
      exact .inr ⟨l, k3, rfl, z3⟩
  · rename_i c
    split at h
    · rename_i hc
      split at h
      case h_2 => cases h
      rename_i x y t ts ha ht
      split at h
      case h_2 => cases h
      rename_i s1 h1
      cases h
      have h1 := tDel_spec h1
      rw [dn_tEval, dn_tEval] at h1
      have ha' : c.args = #[x, y] := by apply Array.ext'; simpa using ha
      have ht' : c.argTypes[0]? = some t := by rw [← Array.getElem?_toList, ht]; rfl
      exact Step_del rfl hc ha' ht' h1
    · rename_i hc
      split at h
      case h_2 => cases h
      rename_i x t ha ht
      split at h
      case h_2 => cases h
      rename_i v1 h1
      cases h
      have h1 := tLenM_spec h1
      rw [dn_tEval] at h1
      have ha' : c.args = #[x] := by apply Array.ext'; simpa using ha
      have ht' : c.argTypes[0]? = some t := by rw [← Array.getElem?_toList, ht]; rfl
      exact Step_still (Step_lenM rfl hc ha' ht' h1)
    · rename_i hc
      split at h
      case h_2 => cases h
      rename_i x y t t' ha ht
      split at h
      case isFalse => cases h
      rename_i htt
      subst htt
      have ha' : c.args = #[x, y] := by apply Array.ext'; simpa using ha
      have ht' : c.argTypes = #[t, t] := by apply Array.ext'; simpa using ht
      exact tAppL_spec (o := ⟨dst, .call c, type, pos, after, guard⟩) rfl hc ha' ht' h hg
    · cases h
  · cases h
/-- one operation -/
def tStepX (P : Program) (wr : Bool) (tb : Nat) (arr : Bool) (fr : List TV) (s : List TOb) (dst : Option Tmp) (op : Op) : Option (Bool × List TV × TV × List TOb) :=
  match tStep P wr tb arr fr s dst op with
  | some r => some r
  | none => tMore P tb fr s dst op
theorem tStepX_spec {P : Program} {wr : Bool} {tb : Nat} {arr : Bool} {fr fr' : List TV} {s s' : List TOb} {o : Oper} {g : Bool} {v : TV} (h : tStepX P wr tb arr fr s o.dst o.op = some (g, fr', v, s')) (hg : gdP g) : Step P o (dns fr) (dnS s) (dns fr') (dn v) (dnS s') := by
  unfold tStepX at h
  split at h
  · rename_i r h1
    cases h
    exact tStep_spec h1 hg
  · exact tMore_spec h hg
end
end Go.Proofs.YtmacghaihlfcpaaGreat.Abs
