/- Operations that turn the store, on typed values. -/
import Derived.Test.YtgicljncknbgcaaTD
namespace Go.Proofs.Ytgicljncknbgcaa.Abs
open Go Go.ChangeShapes Go.WideShapes Go.ChangeAt Go.RowKit
set_option linter.unusedVariables false
set_option linter.unusedSimpArgs false

/-! less told -/
def WkF (fr fr' : List AV) : Prop := fr'.length = fr.length ∧ ∀ t, WkM (fr.getD t .undef) (fr'.getD t .undef)
def WkO (o o' : Ob) : Prop := o'.live = true → o'.t = o.t ∧ o.live = true ∧ (o'.cs.length = o.cs.length ∧ ∀ (k : Nat) (a a' : AV), o.cs[k]? = some a → o'.cs[k]? = some a' → WkM a a')
def WkS (s s' : List Ob) : Prop := s'.length = s.length ∧ ∀ (i : Nat) (o o' : Ob), s[i]? = some o → s'[i]? = some o' → WkO o o'
theorem WkF.refl (fr : List AV) : WkF fr fr := ⟨rfl, fun _ => .refl _⟩
theorem WkO.refl (o : Ob) : WkO o o := fun hl => ⟨rfl, hl, ⟨rfl, fun k a a' h h' => by rw [h] at h'; cases h'; exact .refl _⟩⟩
theorem WkS.refl (s : List Ob) : WkS s s := ⟨rfl, fun i o o' h h' => by rw [h] at h'; cases h'; exact .refl _⟩
theorem FR.weaken {M : Nat → Prop} {G : Gh} {w : World} {fr fr' : List AV} {a : Act} (h : FR M G w fr a) (k : WkF fr fr') : FR M G w fr' a :=
  ⟨h.defers, h.size.trans k.1.symm, fun t => k.2 t M G w _ (h.at_ t)⟩
theorem Sim.weaken {M : Nat → Prop} {G : Gh} {s s' : List Ob} {w : World} (h : Sim M G s w) (k : WkS s s') : Sim M G s' w := by
  have get : ∀ (i : Nat) (o' : Ob), s'[i]? = some o' → ∃ o, s[i]? = some o ∧ WkO o o' := fun i o' hi => by
    have hlt : i < s.length := by rw [← k.1]; exact lt_of_some hi
    exact ⟨s[i], List.getElem?_eq_getElem hlt, k.2 i _ _ (List.getElem?_eq_getElem hlt) hi⟩
  refine ⟨h.n.trans k.1.symm, h.inj, h.own, ?_, h.lt, ?_⟩
  · intro i o' hi hol
    obtain ⟨o, h1, h2⟩ := get i o' hi
    exact h.live i o h1 (h2 hol).2.1
  · intro i o' hi hl
    obtain ⟨o, h1, h2⟩ := get i o' hi
    obtain ⟨h2, h3, h5, h6⟩ := h2 hl
    obtain ⟨vs, g1, g2, g3⟩ := h.at_ i o h1 h3
    refine ⟨vs, by rw [h2]; exact g1, g2.trans h5.symm, fun j a' v hj hv => ?_⟩
    have hlt : j < o.cs.length := by rw [← h5]; exact lt_of_some hj
    exact h6 j _ _ (List.getElem?_eq_getElem hlt) hj M G w v (g3 j _ v (List.getElem?_eq_getElem hlt) hv)
section
variable {P : Program} {o : Oper} {fr : List AV} {s : List Ob}
theorem Step.weaken {fr' fr'' : List AV} {v v' : AV} {s' s'' : List Ob} (h : Step P o fr s fr' v s') (k1 : WkF fr' fr'') (k2 : WkM v v') (k3 : WkS s' s'') : Step P o fr s fr'' v' s'' :=
  fun M G w a hF hS hf K Q hK => h M G w a hF hS hf K Q fun cv G' w' h1 h2 h3 h4 => hK cv G' w' h1 (h2.weaken k3) (h3.weaken k1) (k2 M G' w' cv h4)
end
theorem AW_weaken {n0 : Nat} {P : Program} {c : Code} {fr fr' : List AV} {s s' : List Ob} {Q : AQ} (h1 : WkF fr fr') (h2 : WkS s s') (h : AW n0 P c fr' s' Q) : AW n0 P c fr s Q :=
  fun M G0 w0 hM a w ⟨G, k1, k2, k3⟩ => h M G0 w0 hM a w ⟨G, k1, k2.weaken h2, k3.weaken h1⟩
theorem AL_weaken {n0 : Nat} {P : Program} {A : Array Oper} {l : List Oper} {fr fr' : List AV} {s s' : List Ob} {Q : AQ} (h1 : WkF fr fr') (h2 : WkS s s') (h : AL n0 P A l fr' s' Q) : AL n0 P A l fr s Q :=
  fun M G0 w0 hM a w ⟨G, k1, k2, k3⟩ => h M G0 w0 hM a w ⟨G, k1, k2.weaken h2, k3.weaken h1⟩
theorem cm_none {ts : List Nat} {a : AV} (h : a.mark = none) : clearMark ts a = a := by unfold clearMark; rw [h]

/-! marks -/
def tmark : TV → Option Nat
  | .tl _ _ (.own t _ _) => some t
  | .ll _ _ (.own t _ _) => some t
  | _ => none
theorem dn_mark (v : TV) : (dn v).mark = tmark v := by
  cases v <;> try rfl
  · rename_i t xs g; cases g <;> rfl
  · rename_i t xs g; cases g <;> rfl
def tclear (ts : List Nat) (v : TV) : TV := match tmark v with
  | some t => if ts.contains t = true then tplain v else v
  | none => v
theorem dn_tclear (ts : List Nat) (v : TV) : dn (tclear ts v) = clearMark ts (dn v) := by
  unfold tclear clearMark
  rw [dn_mark]
  cases tmark v with
  | none => rfl
  | some t =>
    dsimp only
    split
    · rw [dn_tplain]
    · rfl
def tclears (ts : List Nat) (fr : List TV) : List TV := fr.map (tclear ts)
theorem dns_tclears (ts : List Nat) (fr : List TV) : dns (tclears ts fr) = clearMarks ts (dns fr) := by
  simp only [tclears, clearMarks, dns_map, List.map_map]
  apply List.map_congr_left
  intro a _
  exact dn_tclear ts a
def tclearO (ts : List Nat) : TOb → TOb
  | .cells cs t l => .cells (tclears ts cs) t l
  | o => o
theorem cellsOf_mark : ∀ (t : Ty) (x : El t), ∀ a ∈ cellsOf t x, a.mark = none
  | .int _, _, a, h => by simp only [cellsOf, List.mem_singleton] at h; subst h; rfl
  | .bool, _, a, h => by simp only [cellsOf, List.mem_singleton] at h; subst h; rfl
  | .str, _, a, h => by simp only [cellsOf, List.mem_singleton] at h; subst h; rfl
  | .list _, _, a, h => by simp only [cellsOf, List.mem_singleton] at h; subst h; rfl
  | .st fs, x, a, h => by simp only [cellsOf] at h; exact go fs x a h
 where go : ∀ (ts : List Ty) (x : Els ts), ∀ a ∈ cellsOfs ts x, a.mark = none
  | [], _, a, h => by simp [cellsOfs] at h
  | t :: ts, x, a, h => by
    simp only [cellsOfs, List.mem_append] at h
    rcases h with h | h
    · exact cellsOf_mark t x.1 a h
    · exact go ts x.2 a h
theorem cellsOf_one : ∀ (t : Ty) (x : El t), (cellsOf t x).all AV.one = true
  | .int _, _ => rfl
  | .bool, _ => rfl
  | .str, _ => rfl
  | .list _, _ => rfl
  | .st fs, x => by simp only [cellsOf]; exact go fs x
 where go : ∀ (ts : List Ty) (x : Els ts), (cellsOfs ts x).all AV.one = true
  | [], _ => rfl
  | t :: ts, x => by simp only [cellsOfs, List.all_append, cellsOf_one t x.1, go ts x.2, Bool.and_self]
theorem flat_mark {t : Ty} (xs : List (El t)) : ∀ a ∈ xs.flatMap (cellsOf t), a.mark = none := by
  intro a h
  obtain ⟨x, _, h⟩ := List.mem_flatMap.1 h
  exact cellsOf_mark t x a h
theorem flat_one {t : Ty} (xs : List (El t)) : (xs.flatMap (cellsOf t)).all AV.one = true := by
  rw [List.all_flatMap, List.all_eq_true]
  intro x _
  exact cellsOf_one t x
theorem clearMarks_none (ts : List Nat) : ∀ l : List AV, (∀ a ∈ l, a.mark = none) → l.map (clearMark ts) = l
  | [], _ => rfl
  | a :: l, h => by
    simp only [List.map_cons, clearMarks_none ts l fun b hb => h b (by simp [hb])]
    rw [cm_none (h a (by simp))]
theorem dnO_clear (ts : List Nat) (o : TOb) : dnO (tclearO ts o) = { dnO o with cs := (dnO o).cs.map (clearMark ts) } := by
  cases o with
  | cells cs t l => simp only [tclearO, dnO, dns_tclears, clearMarks]
  | tarr ty xs t l => simp only [tclearO, dnO]; rw [clearMarks_none ts _ (flat_mark xs)]
def tclearS (ts : List Nat) (s : List TOb) : List TOb := s.map (tclearO ts)
theorem dnS_clear (ts : List Nat) (s : List TOb) : dnS (tclearS ts s) = clearStore ts (dnS s) := by
  simp only [dnS, tclearS, clearStore, List.map_map]
  apply List.map_congr_left
  intro o _
  exact dnO_clear ts o

theorem clear_wk (ts : List Nat) (a : AV) : WkM a (clearMark ts a) := fun M G w v h => ⟨clearMark_VR0 ts h.1, clearMark_OwnC ts h.2⟩
theorem clears_wk (ts : List Nat) (fr : List AV) : WkF fr (clearMarks ts fr) := by
  refine ⟨by simp [clearMarks], fun t => ?_⟩
  unfold clearMarks
  rw [List.getD_eq_getElem?_getD, List.getD_eq_getElem?_getD, List.getElem?_map]
  cases fr[t]? with
  | none => exact .refl _
  | some a => exact clear_wk ts a
theorem clearStore_wk (ts : List Nat) (s : List Ob) : WkS s (clearStore ts s) := by
  refine ⟨by simp [clearStore], fun i o o' h h' => ?_⟩
  obtain ⟨o2, h1, rfl⟩ := clearStore_get h'
  rw [h] at h1
  cases h1
  refine fun hl => ⟨rfl, hl, by simp, fun k a a' ha ha' => ?_⟩
  rw [List.getElem?_map, ha] at ha'
  cases ha'
  exact clear_wk ts a

/-! append -/
def fitLim (P : Program) (e : TypeId) : Nat := match P.info? e with
  | some i => 140737488355328 / max 1 i.bytes
  | none => 0
theorem fits_of {P : Program} {e : TypeId} {size n : Nat} (h0 : fitsB P e size 0 = true) (h : n ≤ fitLim P e) : fitsB P e size n = true := by
  unfold fitsB at h0 ⊢
  unfold fitLim at h
  split at h0
  · rename_i i hi
    rw [hi] at h
    dsimp only at h
    simp only [hi, Nat.zero_mul, Nat.zero_le, decide_true, Bool.true_and] at h0 ⊢
    rw [h0]
    have h1 : n * max 1 i.bytes ≤ 140737488355328 := Nat.le_trans (Nat.mul_le_mul_right _ h) (Nat.div_mul_le_self _ _)
    have h2 : n * i.bytes ≤ n * max 1 i.bytes := Nat.mul_le_mul_left _ (Nat.le_max_right _ _)
    have h3 : n * 1 ≤ n * max 1 i.bytes := Nat.mul_le_mul_left _ (Nat.le_max_left _ _)
    simp only [Bool.and_true, Bool.and_eq_true, decide_eq_true_eq]
    omega
  · cases h0
/-- what is behind it: its elements, and its mark, if it may be appended to -/
def tOwned (ty : Ty) (e : TypeId) (size d : Nat) : TV → Option (List (El ty) × Nat)
  | .tl ty' xs (.own t0 e' z') => if e' = e ∧ z' = size then (castTo ty xs).map fun xs => (xs, t0) else none
  | .tl ty' xs .full => (castTo ty xs).map fun xs => (xs, d)
  | .ll [] 0 .full => some ([], d)
  | .ll [] 0 (.own t0 e' z') => if e' = e ∧ z' = size then some ([], t0) else none
  | _ => none
theorem tOwned_spec {ty : Ty} {e : TypeId} {size d : Nat} {x : TV} {xs : List (El ty)} {t0 : Nat} (hs : size = ty.size) (h : tOwned ty e size d x = some (xs, t0)) : WkM (dn x) (.list (xs.flatMap (cellsOf ty)) xs.length (.own t0 e size)) := by
  unfold tOwned at h
  split at h
  · split at h
    · rename_i hc
      obtain ⟨rfl, rfl⟩ := hc
      obtain ⟨ys, h1, h2⟩ := map_some_eq h
      cases h2
      obtain ⟨e1, rfl⟩ := castTo_some h1
      subst e1
      exact .refl _
    · cases h
  · obtain ⟨ys, h1, h2⟩ := map_some_eq h
    cases h2
    obtain ⟨e1, rfl⟩ := castTo_some h1
    subst e1
    exact .full (by rw [flat_len, hs])
  · cases h
    show WkM (.list [] 0 .full) (.list [] 0 _)
    exact .full (by simp)
  · split at h
    · rename_i hc
      obtain ⟨rfl, rfl⟩ := hc
      cases h
      exact .refl _
    · cases h
  · cases h
def tAppend (P : Program) (d : Nat) (fr : List TV) (s : List TOb) (t : TypeId) (x y : TV) : Option (Bool × List TV × TV × List TOb) :=
  match aElem P t with
  | none => none
  | some (e, size) =>
    match y with
    | .ll [] 0 _ => match x with
      | .tl ty xs g => some (true, fr, x, s)
      | .ll [] 0 g => some (true, fr, x, s)
      | _ => none
    | .tl ty ys _ => if size = ty.size ∧ fitsB P e size 0 = true then
        match tOwned ty e size d x with
        | some (xs, t0) => some (fits (xs.length + ys.length) (fitLim P e), tclears [t0] fr, .tl ty (xs ++ ys) (.own t0 e size), tclearS [t0] s)
        | none => none
      else none
    | _ => none
section
variable {P : Program} {o : Oper}
theorem app_own {fr : List AV} {s : List Ob} {c : Call} {x y : Operand} {t e : TypeId} {size t0 : Nat} {ty : Ty} {xs ys : List (El ty)} {g : Tag} (ho : o.op = .call c) (hc : c.callee = .builtin .append) (ha : c.args = #[x, y]) (ht : c.argTypes = #[t, t]) (he : aElem P t = some (e, size))
    (hs : size = ty.size) (hfit : fitsB P e size (xs.length + ys.length) = true)
    (hx : aEval fr x = .list (xs.flatMap (cellsOf ty)) xs.length (.own t0 e size)) (hy : aEval fr y = .list (ys.flatMap (cellsOf ty)) ys.length g) :
    Step P o fr s (clearMarks [t0] fr) (.list ((xs ++ ys).flatMap (cellsOf ty)) (xs ++ ys).length (.own t0 e size)) (clearStore [t0] s) := by
  rw [List.flatMap_append, List.length_append]
  rcases Nat.eq_zero_or_pos ys.length with h0 | h0
  · have hnil := List.eq_nil_of_length_eq_zero h0
    subst hnil
    refine (Step_still (Step_append_none ho hc ha ht he hx hy)).weaken (clears_wk _ _) ?_ (clearStore_wk _ _)
    rw [hx, List.flatMap_nil, List.append_nil]
    exact .refl _
  · exact Step_append_own t0 ho hc ha ht he hx hy h0 (by rw [flat_len, hs]) (flat_one ys) hfit
theorem app_full {fr : List AV} {s : List Ob} {c : Call} {x y : Operand} {t e : TypeId} {size d : Nat} {ty : Ty} {xs ys : List (El ty)} {g : Tag} (ho : o.op = .call c) (hc : c.callee = .builtin .append) (ha : c.args = #[x, y]) (ht : c.argTypes = #[t, t]) (he : aElem P t = some (e, size))
    (hs : size = ty.size) (hfit : fitsB P e size (xs.length + ys.length) = true)
    (hx : aEval fr x = .list (xs.flatMap (cellsOf ty)) xs.length .full) (hy : aEval fr y = .list (ys.flatMap (cellsOf ty)) ys.length g) :
    Step P o fr s (clearMarks [d] fr) (.list ((xs ++ ys).flatMap (cellsOf ty)) (xs ++ ys).length (.own d e size)) (clearStore [d] s) := by
  rw [List.flatMap_append, List.length_append]
  rcases Nat.eq_zero_or_pos ys.length with h0 | h0
  · have hnil := List.eq_nil_of_length_eq_zero h0
    subst hnil
    refine (Step_still (Step_append_none ho hc ha ht he hx hy)).weaken (clears_wk _ _) ?_ (clearStore_wk _ _)
    rw [hx, List.flatMap_nil, List.append_nil]
    exact .full (by rw [flat_len, hs])
  · exact (Step_append_full d ho hc ha ht he hx hy h0 (by rw [flat_len, hs]) (by rw [flat_len, hs]) (flat_one ys) hfit).weaken (clears_wk _ _) (.refl _) (clearStore_wk _ _)
theorem tAppend_spec {fr fr' : List TV} {s s' : List TOb} {c : Call} {x y : Operand} {t : TypeId} {d : Nat} {g : Bool} {v : TV} (ho : o.op = .call c) (hc : c.callee = .builtin .append) (ha : c.args = #[x, y]) (ht : c.argTypes = #[t, t])
    (h : tAppend P d fr s t (tEval fr x) (tEval fr y) = some (g, fr', v, s')) (hg : gdP g) : Step P o (dns fr) (dnS s) (dns fr') (dn v) (dnS s') := by
  unfold tAppend at h
  split at h
  · cases h
  rename_i e size he
  split at h
  · rename_i gy hy
    have hy' : aEval (dns fr) y = .list [] 0 gy := by rw [← dn_tEval, hy]; rfl
    split at h
    · rename_i ty xs gx hx
      cases h
      have hx' : aEval (dns fr) x = .list (xs.flatMap (cellsOf ty)) xs.length gx := by rw [← dn_tEval, hx]; rfl
      have := Step_still (Step_append_none (s := dnS s) ho hc ha ht he hx' hy')
      rw [hx'] at this
      rw [hx]
      exact this
    · rename_i gx hx
      cases h
      have hx' : aEval (dns fr) x = .list [] 0 gx := by rw [← dn_tEval, hx]; rfl
      have := Step_still (Step_append_none (s := dnS s) ho hc ha ht he hx' hy')
      rw [hx'] at this
      rw [hx]
      exact this
    · cases h
  · rename_i ty ys gy hy
    have hy' : aEval (dns fr) y = .list (ys.flatMap (cellsOf ty)) ys.length gy := by rw [← dn_tEval, hy]; rfl
    split at h
    · rename_i hcnd
      obtain ⟨hs, h0⟩ := hcnd
      split at h
      · rename_i xs t0 hown
        cases h
        have hfit := fits_of h0 (by simpa only [gdP, fits_iff] using hg)
        rw [dns_tclears, dnS_clear]
        obtain ⟨xv, hxv⟩ : ∃ xv, tEval fr x = xv := ⟨_, rfl⟩
        have hx' : aEval (dns fr) x = dn xv := by rw [← dn_tEval, hxv]
        rw [hxv] at hown
        unfold tOwned at hown
        split at hown
        · split at hown
          · rename_i hc2
            obtain ⟨rfl, rfl⟩ := hc2
            obtain ⟨zs, h1, h2⟩ := map_some_eq hown
            cases h2
            obtain ⟨e1, rfl⟩ := castTo_some h1
            subst e1
            exact app_own ho hc ha ht he hs hfit hx' hy'
          · cases hown
        · obtain ⟨zs, h1, h2⟩ := map_some_eq hown
          cases h2
          obtain ⟨e1, rfl⟩ := castTo_some h1
          subst e1
          exact app_full ho hc ha ht he hs hfit hx' hy'
        · cases hown
          exact app_full (xs := []) ho hc ha ht he hs hfit hx' hy'
        · split at hown
          · rename_i hc2
            obtain ⟨rfl, rfl⟩ := hc2
            cases hown
            exact app_own (xs := []) ho hc ha ht he hs hfit hx' hy'
          · cases hown
        · cases hown
      · cases h
    · cases h
  · cases h

/-! stores -/
def tCells : TV → Option (List TV)
  | .agg cs => some (cs.map tplain)
  | .undef | .tup _ | .ap _ _ _ _ => none
  | a => some [a]
theorem tCells_spec {v : TV} {cs : List TV} (h : tCells v = some cs) : aCells (dn v) = some (dns cs) := by
  unfold tCells at h
  split at h
  · cases h; simp only [dn, aCells, dns_tplain]
  · cases h
  · cases h
  · cases h
  · rename_i h1 h2 h3 h4
    cases h
    cases v <;> first
      | exact absurd rfl (h1 _)
      | exact absurd rfl h2
      | exact absurd rfl (h3 _)
      | exact absurd rfl (h4 _ _ _ _)
      | rfl
def tone : TV → Bool
  | .undef | .agg _ | .tup _ => false
  | _ => true
theorem tone_spec (v : TV) : (dn v).one = tone v := by cases v <;> rfl
theorem tones_spec (l : List TV) : (dns l).all AV.one = l.all tone := by
  rw [dns_map, List.all_map]
  congr 1
  funext v
  exact tone_spec v
def tStoreAt (P : Program) (s : List TOb) (t : TypeId) (x y : TV) : Option (Bool × List TOb) :=
  match tCells y, P.info? t with
  | some new, some i => if i.size = new.length ∧ new.all tone = true then
      match x with
      | .ref j k => match s[j]? with
        | some (.cells cs ot l) => if l = true ∧ k + new.length ≤ cs.length then some (true, s.set j (.cells (tsplice cs k new) ot l)) else none
        | _ => none
      | .ap j ix sz k => match s[j]? with
        | some (.tarr ty xs ot l) => if l = true ∧ sz = ty.size ∧ k + new.length ≤ ty.size then
            match dec ty (tsplice (tcells ty (xs.getD ix.toNat (dflt ty))) k (new.map tplain)) with
            | some (x', []) => some (decide (0 ≤ ix ∧ ix < xs.length), s.set j (.tarr ty (xs.set ix.toNat x') ot l))
            | _ => none
          else none
        | _ => none
      | _ => none
    else none
  | _, _ => none
theorem flat_set {t : Ty} (xs : List (El t)) (i : Nat) (y : El t) (a c : List AV) (h : i < xs.length) (e1 : xs.flatMap (cellsOf t) = a ++ c) (e2 : a.length = i * t.size) : (xs.set i y).flatMap (cellsOf t) = a ++ cellsOf t y ++ c.drop t.size := by
  have ha : a = (xs.take i).flatMap (cellsOf t) := by rw [← flat_take, e1, ← e2, List.take_left]
  have hc : c = (xs.drop i).flatMap (cellsOf t) := by rw [← flat_drop, e1, ← e2, List.drop_left]
  rw [ha, hc, List.set_eq_take_append_cons_drop, if_pos h, List.flatMap_append, List.flatMap_cons, ← List.append_assoc]
  congr 1
  rw [List.drop_eq_getElem_cons h, List.flatMap_cons, List.drop_left' (cellsOf_len _ _)]
theorem WkS.set {s : List Ob} {i : Nat} {o o' : Ob} (h : WkO o o') : WkS (s.set i o) (s.set i o') := by
  refine ⟨by simp, fun j a b ha hb => ?_⟩
  rw [List.getElem?_set] at ha hb
  split at ha
  · rename_i hij
    rw [if_pos hij] at hb
    split at ha
    · rename_i hlt
      rw [if_pos hlt] at hb
      cases ha
      cases hb
      exact h
    · cases ha
  · rename_i hij
    rw [if_neg hij, ha] at hb
    cases hb
    exact .refl _
theorem dnS_set (s : List TOb) (i : Nat) (o : TOb) : dnS (s.set i o) = (dnS s).set i (dnO o) := by simp [dnS, List.map_set]
theorem plains_none : ∀ l : List AV, (∀ a ∈ l, a.mark = none) → l.map AV.plain = l
  | [], _ => rfl
  | a :: l, h => by
    simp only [List.map_cons, plains_none l fun b hb => h b (by simp [hb])]
    have := h a (by simp)
    congr 1
    cases a <;> try rfl
    rename_i cs n g
    cases g <;> first | rfl | cases this
def tgtOf : TV → Option Nat
  | .ref j _ => some j
  | .ap j _ _ _ => some j
  | _ => none
/-- a store of an object -/
def CoreSt (P : Program) (o : Oper) (F : List AV) (s : List Ob) (idx : Nat) (s' : List Ob) : Prop := ∀ M G w a, Sim M G s w → FR M G w F a →
  ∃ w', (execOp a.eval o).run P w = .ok .skip w' ∧ Ext (fun _ => False) G w G w' ∧ (∀ b, b ≠ G.mu idx → w'.heap[b]? = w.heap[b]?) ∧ idx < G.n ∧ G.live idx = true ∧ Sim M G s' w'
theorem CoreSt.of {F : List AV} {s : List Ob} {t : TypeId} {x y : Operand} {i k : Nat} {ob : Ob} {new cs' : List AV} (ho : o.op = .store t x y) (hx : aEval F x = .ref i k) (hi : s[i]? = some ob) (hl : ob.live = true)
    (hy : aCells (aEval F y) = some new) (hst : aStore P t ob.cs k new = some cs') : CoreSt P o F s i (s.set i { ob with cs := cs' }) := Store_core ho hx hi hl hy hst
theorem CoreSt.weaken {F : List AV} {s s' s'' : List Ob} {idx : Nat} (h : CoreSt P o F s idx s') (k : WkS s' s'') : CoreSt P o F s idx s'' := fun M G w a hS hf => by
  obtain ⟨w', h1, h2, h3, h4, h5, h6⟩ := h M G w a hS hf
  exact ⟨w', h1, h2, h3, h4, h5, h6.weaken k⟩
theorem CoreSt.step {F : List AV} {s s' : List Ob} {idx : Nat} (h : CoreSt P o F s idx s') : Step P o F s F (.tuple []) s' := by
  intro M G w a hF hS hf K Q hK
  obtain ⟨w', h1, hE, _, _, _, hS'⟩ := h M G w a hS hf
  unfold Oper.wp
  rw [h1, Oper.upon_skip]
  exact hK undef G w' (hE.mono fun _ _ => False.elim) hS' (hf.grow hE) ⟨by simp only [VR0]; exact ⟨[], rfl, by simp only [VRs0]⟩, OwnC.of_plain rfl⟩
theorem tStoreAt_core {F : List AV} {s s' : List TOb} {t : TypeId} {x y : Operand} {xv yv : TV} {g : Bool} (ho : o.op = .store t x y) (hFx : aEval F x = dn xv) (hFy : aEval F y = dn yv) (h : tStoreAt P s t xv yv = some (g, s')) (hg : gdP g) : ∃ idx, tgtOf xv = some idx ∧ CoreSt P o F (dnS s) idx (dnS s') := by
  unfold tStoreAt at h
  split at h
  case h_2 => cases h
  rename_i new inf hnew hinf
  split at h
  case isFalse => cases h
  rename_i hc
  obtain ⟨hsz, hone⟩ := hc
  have hnew' := tCells_spec hnew
  rw [← hFy] at hnew'
  split at h
  · rename_i j k
    have hx' : aEval F x = .ref j k := hFx
    refine ⟨j, rfl, ?_⟩
    split at h
    · rename_i cs ot l hj
      split at h
      · rename_i hcc
        cases h
        have hj' : (dnS s)[j]? = some ⟨dns cs, ot, l⟩ := by rw [dnS_get, hj]; rfl
        have hst : aStore P t (dns cs) k (dns new) = some (splice (dns cs) k (dns new)) := by
          unfold aStore
          rw [hinf]
          dsimp only
          rw [if_pos ⟨by rw [dns_length]; exact hsz, by rw [dns_length, dns_length]; exact hcc.2, by rw [tones_spec]; exact hone⟩]
        have := CoreSt.of (P := P) (o := o) (F := F) (s := dnS s) ho hx' hj' hcc.1 hnew' hst
        rw [dnS_set]
        simp only [dnO, dns_tsplice]
        exact this
      · cases h
    · cases h
  · rename_i j ix sz k
    have hx' : aEval F x = .ref j (ix.toNat * sz + k) := hFx
    refine ⟨j, rfl, ?_⟩
    split at h
    · rename_i ty xs ot l hj
      split at h
      · rename_i hcc
        obtain ⟨hl, hsz2, hk⟩ := hcc
        split at h
        · rename_i x' hdec
          cases h
          simp only [gdP, decide_eq_true_eq] at hg
          have hlt : ix.toNat < xs.length := by omega
          have hj' : (dnS s)[j]? = some ⟨xs.flatMap (cellsOf ty), ot, l⟩ := by rw [dnS_get, hj]; rfl
          obtain ⟨a, c, e1, e2, e3, e4⟩ := flat_split xs ix.toNat hlt
          have hal : ix.toNat * sz + k = a.length + k := by rw [hsz2, e2]
          rw [hal] at hx'
          have hst : aStore P t (xs.flatMap (cellsOf ty)) (a.length + k) (dns new) = some (splice (xs.flatMap (cellsOf ty)) (a.length + k) (dns new)) := by
            unfold aStore
            rw [hinf]
            dsimp only
            rw [if_pos ⟨by rw [dns_length]; exact hsz, by rw [dns_length, e1, List.length_append]; omega, by rw [tones_spec]; exact hone⟩]
          have := CoreSt.of (P := P) (o := o) (F := F) (s := dnS s) ho hx' hj' hl hnew' hst
          refine this.weaken ?_
          rw [dnS_set]
          refine .set fun hl => ⟨rfl, hl, ?_⟩
          simp only [dnO]
          have h1 := dec_spec ty _ _ _ hdec
          simp only [dns, List.append_nil, dns_tsplice, dns_tcells, dns_tplain, ← e3] at h1
          have h2 : splice (xs.flatMap (cellsOf ty)) (a.length + k) (dns new) = a ++ splice (c.take ty.size) k (dns new) ++ c.drop ty.size := by
            rw [e1]
            unfold splice
            rw [List.take_append, List.take_of_length_le (by omega), Nat.add_sub_cancel_left]
            rw [Nat.add_assoc, List.drop_append, List.drop_of_length_le (by omega), Nat.add_sub_cancel_left, List.nil_append]
            rw [List.take_take, Nat.min_eq_left (by omega)]
            simp only [List.append_assoc]
            congr 3
            rw [List.drop_take]
            have hkn : k + (dns new).length ≤ ty.size := by rw [dns_length]; exact hk
            rw [show c.drop ty.size = (c.drop (k + (dns new).length)).drop (ty.size - (k + (dns new).length)) by rw [List.drop_drop]; congr 1; omega]
            rw [List.take_append_drop]
          have h3 := flat_set xs ix.toNat x' a c hlt e1 e2
          rw [h2, h3]
          have hlen : (splice (c.take ty.size) k (dns new)).length = ty.size := by
            unfold splice
            simp only [List.length_append, List.length_take, List.length_drop]
            rw [dns_length]
            omega
          refine ⟨by simp only [List.length_append, hlen, cellsOf_len], ?_⟩
          intro q b b' hb hb'
          rcases Nat.lt_or_ge q a.length with hq | hq
          · rw [List.append_assoc, List.getElem?_append_left hq] at hb hb'
            rw [hb] at hb'
            cases hb'
            exact .refl _
          · rw [List.append_assoc, List.getElem?_append_right hq] at hb hb'
            rcases Nat.lt_or_ge (q - a.length) ty.size with hq2 | hq2
            · rw [List.getElem?_append_left (by omega)] at hb
              rw [List.getElem?_append_left (by rw [cellsOf_len]; omega)] at hb'
              have hm : b'.mark = none := cellsOf_mark ty x' b' (List.mem_of_getElem? hb')
              refine .of ?_ hm
              have h4 : ∀ {l m : List AV}, Wks l m → ∀ (i : Nat) (y y' : AV), l[i]? = some y → m[i]? = some y' → Wk y y' := by
                intro l m hw
                induction hw with
                | nil => intro i y y' h; simp at h
                | cons hh _ ih =>
                  intro i y y' h h'
                  cases i with
                  | zero => simp at h h'; subst h; subst h'; exact hh
                  | succ i => exact ih i y y' (by simpa using h) (by simpa using h')
              have h5 : (splice (c.take ty.size) k ((dns new).map AV.plain))[q - a.length]? = some b.plain ∨ (splice (c.take ty.size) k ((dns new).map AV.plain))[q - a.length]? = some b := by
                unfold splice at hb ⊢
                rcases Nat.lt_or_ge (q - a.length) k with hh | hh
                · right
                  rw [List.append_assoc, List.getElem?_append_left (by simp; omega)] at hb ⊢
                  exact hb
                · rcases Nat.lt_or_ge (q - a.length) (k + (dns new).length) with hh2 | hh2
                  · left
                    rw [List.append_assoc, List.getElem?_append_right (by simp; omega), List.getElem?_append_left (by simp; omega)] at hb ⊢
                    rw [List.getElem?_map]
                    simp only [List.length_take] at hb ⊢
                    rw [hb]
                    rfl
                  · right
                    rw [List.getElem?_append_right (by simp; omega)] at hb ⊢
                    simp only [List.length_append, List.length_take, List.length_map] at hb ⊢
                    exact hb
              rcases h5 with h5 | h5
              · exact (AV.plain_wk b).trans (h4 h1 _ _ _ h5 hb')
              · exact h4 h1 _ _ _ h5 hb'
            · rw [List.getElem?_append_right (by omega)] at hb
              rw [List.getElem?_append_right (by rw [cellsOf_len]; omega)] at hb'
              rw [hlen] at hb
              rw [cellsOf_len] at hb'
              rw [hb] at hb'
              cases hb'
              exact .refl _
        · cases h
      · cases h
    · cases h
  · cases h
theorem tStoreAt_spec {fr : List TV} {s s' : List TOb} {t : TypeId} {x y : Operand} {g : Bool} (ho : o.op = .store t x y) (h : tStoreAt P s t (tEval fr x) (tEval fr y) = some (g, s')) (hg : gdP g) : Step P o (dns fr) (dnS s) (dns fr) (.tuple []) (dnS s') := by
  obtain ⟨idx, _, h1⟩ := tStoreAt_core (F := dns fr) ho (dn_tEval fr x).symm (dn_tEval fr y).symm h hg
  exact h1.step
end
end Go.Proofs.Ytgicljncknbgcaa.Abs
