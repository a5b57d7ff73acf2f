/- Code on typed values, told by one function. -/
import Derived.Test.YtgicljncknbgcaaTF
namespace Go.Proofs.Ytgicljncknbgcaa.Abs
open Go Go.ChangeShapes Go.WideShapes Go.ChangeAt Go.RowKit
set_option linter.unusedVariables false
set_option linter.unusedSimpArgs false

/-! the same things, reckoned at once -/
def forceV {β : Type} (v : TV) (k : TV → β) : β := match v with
  | .undef => k .undef
  | .int a b => k (.int a b)
  | .bool b => k (.bool b)
  | .tt => k .tt
  | .ff => k .ff
  | .str s => k (.str s)
  | .nilp => k .nilp
  | .ref i o => k (.ref i o)
  | .tl t xs g => k (.tl t xs g)
  | .ll cs n g => k (.ll cs n g)
  | .ep cs o => k (.ep cs o)
  | .arr i n => k (.arr i n)
  | .ap i ix sz o => k (.ap i ix sz o)
  | .nilf => k .nilf
  | .func f cs => k (.func f cs)
  | .agg cs => k (.agg cs)
  | .tup vs => k (.tup vs)
theorem forceV_eq {β : Type} (v : TV) (k : TV → β) : forceV v k = k v := by cases v <;> rfl
def forceL {β : Type} : List TV → (List TV → β) → β
  | [], k => k []
  | v :: l, k => forceV v fun v => forceL l fun l => k (v :: l)
theorem forceL_eq {β : Type} : ∀ (l : List TV) (k : List TV → β), forceL l k = k l
  | [], k => rfl
  | v :: l, k => by simp only [forceL, forceV_eq, forceL_eq l]
def forceO {β : Type} (o : TOb) (k : TOb → β) : β := match o with
  | .cells cs t l => forceL cs fun cs => k (.cells cs t l)
  | .tarr ty xs t l => k (.tarr ty xs t l)
theorem forceO_eq {β : Type} (o : TOb) (k : TOb → β) : forceO o k = k o := by cases o <;> simp only [forceO, forceL_eq]
def forceS {β : Type} : List TOb → (List TOb → β) → β
  | [], k => k []
  | o :: l, k => forceO o fun o => forceS l fun l => k (o :: l)
theorem forceS_eq {β : Type} : ∀ (l : List TOb) (k : List TOb → β), forceS l k = k l
  | [], k => rfl
  | o :: l, k => by simp only [forceS, forceO_eq, forceS_eq l]
def setK {β : Type} : List TV → Nat → TV → (List TV → β) → β
  | [], _, _, k => k []
  | _ :: l, 0, v, k => k (v :: l)
  | x :: l, d + 1, v, k => setK l d v fun l => k (x :: l)
theorem setK_eq {β : Type} : ∀ (l : List TV) (d : Nat) (v : TV) (k : List TV → β), setK l d v k = k (l.set d v)
  | [], _, _, k => rfl
  | _ :: l, 0, v, k => rfl
  | x :: l, d + 1, v, k => by simp only [setK, setK_eq l, List.set_cons_succ]
def putK {β : Type} (fr : List TV) (d : Option Nat) (v : TV) (k : List TV → β) : β := match d with
  | none => k fr
  | some d => forceV v fun v => setK fr d v k
theorem putK_eq {β : Type} (fr : List TV) (d : Option Nat) (v : TV) (k : List TV → β) : putK fr d v k = k (tPut fr d v) := by
  cases d with
  | none => rfl
  | some d => simp only [putK, forceV_eq, setK_eq, tPut]

/-- what calls do: the function, what is told behind it, the arguments, the store -/
abbrev CallT := FuncId → (β : Type) → List TV → List TOb → (TV → List TOb → Option β) → Option β
/-- of a kept slot: what form it is brought to -/
inductive SK where
  | asis
  | int (k : IntKind)
  | bool
  | str
  | own (ty : Ty) (m : Nat) (e : TypeId) (z : Nat)
  | lst (ty : Ty)
  | agg (ty : Ty)
inductive OK where
  | same
  | cells (ks : List SK)
/-- what an operation of the head is to turn: a new object; an object (of the function's own, or by its number); a row by its mark -/
inductive TW where
  | alloc (r : Nat)
  | store (own : Bool) (i : Nat)
  | app (t0 : Nat)
structure HDat where
  n : Nat
  L : Nat
  K : Nat
  ws : List (Nat × TW)
  ev : List (Nat × List (Bool × Nat))
/-- how the store stands at a loop's head: of its first objects those that are listed, and what comes behind -/
structure LH where
  keep : List (Nat × SK)
  base : List (Nat × List SK)
  objs : List OK
/-- what is fixed for a function -/
structure Sc where
  P : Program
  arrs : List Nat
  heads : List (Nat × HDat)
  frz : List (Nat × Nat)
  wrap : Bool
  rd : List Nat
  joins : List (Nat × LH)
structure Cfg where
  N : Nat
  C : CallT
  n0 : Nat

def tsoft : TV → TV
  | .tl t xs _ => .tl t xs .unk
  | .ll cs n _ => .ll cs n .unk
  | v => v
theorem dn_tsoft (v : TV) : dn (tsoft v) = (dn v).soft := by cases v <;> rfl
def tmarks (s : List TOb) : List Nat := s.flatMap fun o => match o with
  | .cells cs _ _ => cs.filterMap tmark
  | .tarr .. => []
theorem filterMap_none {α β : Type} (f : α → Option β) : ∀ l : List α, (∀ a ∈ l, f a = none) → l.filterMap f = []
  | [], _ => rfl
  | a :: l, h => by rw [List.filterMap_cons, h a (by simp)]; exact filterMap_none f l fun b hb => h b (by simp [hb])
theorem dnS_marks (s : List TOb) : storeMarks (dnS s) = tmarks s := by
  unfold storeMarks tmarks dnS
  rw [List.flatMap_map]
  congr 1
  funext o
  cases o with
  | cells cs t l =>
    simp only [dnO, dns_map, List.filterMap_map]
    congr 1
    funext v
    exact dn_mark v
  | tarr ty xs t l => simp only [dnO]; exact filterMap_none _ _ (flat_mark xs)
def clearK {β : Type} (ts : List Nat) (fr : List TV) (k : List TV → β) : β := match ts with
  | [] => k fr
  | ts => forceL (tclears ts fr) k
theorem tclear_nil (v : TV) : tclear [] v = v := by unfold tclear; split <;> simp
theorem clearK_eq {β : Type} (ts : List Nat) (fr : List TV) (k : List TV → β) : clearK ts fr k = k (tclears ts fr) := by
  cases ts with
  | nil => simp only [clearK, tclears]; rw [show tclear [] = id from funext tclear_nil, List.map_id]
  | cons t ts => simp only [clearK, forceL_eq]

mutual
/-- it points to no object -/
def tfree : TV → Bool
  | .ref _ _ => false
  | .arr _ _ => false
  | .ap _ _ _ _ => false
  | .ep cs _ => !cs.isEmpty && tfrees cs
  | .ll cs _ _ => tfrees cs
  | .func _ cs => tfrees cs
  | .agg cs => tfrees cs
  | .tup cs => tfrees cs
  | .undef | .int .. | .bool _ | .tt | .ff | .str _ | .nilp | .tl .. | .nilf => true
def tfrees : List TV → Bool
  | [] => true
  | a :: as => tfree a && tfrees as
end
theorem frees_all : ∀ {l : List AV}, (∀ a ∈ l, a.free = true) → frees l = true
  | [], _ => rfl
  | a :: l, h => by
    have h1 := h a List.mem_cons_self
    have h2 : frees l = true := frees_all fun b hb => h b (List.mem_cons_of_mem _ hb)
    simp only [frees, h1, h2, Bool.and_self]
mutual
theorem cellsOf_free : ∀ (t : Ty) (x : El t), ∀ a ∈ cellsOf t x, a.free = true
  | .int _, _, a, h => by simp only [cellsOf, List.mem_singleton] at h; subst h; rfl
  | .bool, _, a, h => by simp only [cellsOf, List.mem_singleton] at h; subst h; rfl
  | .str, _, a, h => by simp only [cellsOf, List.mem_singleton] at h; subst h; rfl
  | .list e, xs, a, h => by
    simp only [cellsOf, List.mem_singleton] at h
    subst h
    simp only [AV.free]
    refine frees_all fun b hb => ?_
    obtain ⟨x, _, hx⟩ := List.mem_flatMap.1 hb
    exact cellsOf_free e x b hx
  | .st fs, x, a, h => by simp only [cellsOf] at h; exact cellsOfs_free fs x a h
theorem cellsOfs_free : ∀ (ts : List Ty) (x : Els ts), ∀ a ∈ cellsOfs ts x, a.free = true
  | [], _, a, h => by simp [cellsOfs] at h
  | t :: ts, x, a, h => by
    simp only [cellsOfs, List.mem_append] at h
    rcases h with h | h
    · exact cellsOf_free t x.1 a h
    · exact cellsOfs_free ts x.2 a h
end
theorem flat_free {t : Ty} (xs : List (El t)) : frees (xs.flatMap (cellsOf t)) = true := by
  refine frees_all fun b hb => ?_
  obtain ⟨x, _, hx⟩ := List.mem_flatMap.1 hb
  exact cellsOf_free t x b hx
mutual
theorem tfree_spec : ∀ (v : TV), tfree v = true → (dn v).free = true
  | .undef, _ => rfl
  | .int .., _ => rfl
  | .bool _, _ => rfl
  | .tt, _ => rfl
  | .ff, _ => rfl
  | .str _, _ => rfl
  | .nilp, _ => rfl
  | .nilf, _ => rfl
  | .tl t xs g, _ => flat_free xs
  | .ref i _, h => by simp [tfree] at h
  | .arr i _, h => by simp [tfree] at h
  | .ap i _ _ _, h => by simp [tfree] at h
  | .ll cs _ _, h => by simp only [tfree] at h; exact tfrees_spec cs h
  | .ep cs _, h => by
    simp only [tfree, Bool.and_eq_true] at h
    simp only [dn, AV.free, tfrees_spec cs h.2, Bool.and_true]
    cases cs with
    | nil => simp at h
    | cons => rfl
  | .func _ cs, h => by simp only [tfree] at h; exact tfrees_spec cs h
  | .agg cs, h => by simp only [tfree] at h; exact tfrees_spec cs h
  | .tup cs, h => by simp only [tfree] at h; exact tfrees_spec cs h
theorem tfrees_spec : ∀ (l : List TV), tfrees l = true → frees (dns l) = true
  | [], _ => rfl
  | a :: l, h => by
    simp only [tfrees, Bool.and_eq_true] at h
    simp only [dns, frees, tfree_spec a h.1, tfrees_spec l h.2, Bool.and_self]
end
theorem free_plain {a : AV} (h : a.free = true) : a.plain.free = true := by
  cases a <;> try exact h
  rename_i cs n g
  cases g <;> exact h
mutual
def tflat : TV → Bool
  | .ref _ _ => false
  | .arr _ _ => false
  | .ap _ _ _ _ => false
  | .ep _ _ => false
  | .ll cs _ _ => cs.isEmpty
  | .tl _ _ _ => false
  | .func _ cs => tflats cs
  | .agg cs => tflats cs
  | .tup cs => tflats cs
  | .undef | .int .. | .bool _ | .tt | .ff | .str _ | .nilp | .nilf => true
def tflats : List TV → Bool
  | [] => true
  | a :: as => tflat a && tflats as
end
mutual
theorem tflat_spec : ∀ (v : TV), tflat v = true → (dn v).flat = true
  | .undef, _ => rfl
  | .int .., _ => rfl
  | .bool _, _ => rfl
  | .tt, _ => rfl
  | .ff, _ => rfl
  | .str _, _ => rfl
  | .nilp, _ => rfl
  | .nilf, _ => rfl
  | .tl t xs g, h => by simp [tflat] at h
  | .ref i _, h => by simp [tflat] at h
  | .arr i _, h => by simp [tflat] at h
  | .ap i _ _ _, h => by simp [tflat] at h
  | .ep cs _, h => by simp [tflat] at h
  | .ll cs _ _, h => by
    simp only [tflat, List.isEmpty_iff] at h
    subst h
    rfl
  | .func _ cs, h => by simp only [tflat] at h; exact tflats_spec cs h
  | .agg cs, h => by simp only [tflat] at h; exact tflats_spec cs h
  | .tup cs, h => by simp only [tflat] at h; exact tflats_spec cs h
theorem tflats_spec : ∀ (l : List TV), tflats l = true → flats (dns l) = true
  | [], _ => rfl
  | a :: l, h => by
    simp only [tflats, Bool.and_eq_true] at h
    simp only [dns, flats, tflat_spec a h.1, tflats_spec l h.2, Bool.and_self]
end
theorem flat_plain {a : AV} (h : a.flat = true) : a.plain.flat = true := by
  cases a <;> try exact h
  rename_i cs n g
  cases g <;> exact h
/-- an object as a row: how it stands -/
def snapV (s : List TOb) : Nat → TV → TV
  | 0, v => v
  | d + 1, .ref i o => match s[i]? with
    | some (.cells cs t true) => .ep (cs.map fun c => snapV s d (tplain c)) o
    | _ => .ref i o
  | d + 1, .func f cs => .func f (cs.map fun c => snapV s d c)
  | d + 1, .agg cs => .agg (cs.map fun c => snapV s d c)
  | _, v => v
theorem VR0.bare {G : Gh} {w : World} {a : AV} {v : Value} (ha : a.free = true) (h : VR0 G w a v) : VR0 G.bare w a v :=
  VR0.move (fun _ _ _ _ hs => hs.bare) a v ha h
theorem snap_list {G : Gh} {w : World} {f : TV → TV} (hf : ∀ v cv, tfree (f v) = true → VR0 G w (dn v) cv → VR0 G.bare w (dn (f v)) cv) : ∀ (cs : List TV) (vs : List Value), tfrees (cs.map f) = true → VRs0 G w (dns cs) vs → VRs0 G.bare w (dns (cs.map f)) vs
  | [], vs, _, h => by simp only [List.map_nil, dns, VRs0] at h ⊢; exact h
  | c :: cs, vs, hb, h => by
    simp only [List.map_cons, tfrees, Bool.and_eq_true] at hb
    simp only [List.map_cons, dns, VRs0] at h ⊢
    obtain ⟨v, vs', rfl, h1, h2⟩ := h
    exact ⟨v, vs', rfl, hf c v hb.1 h1, snap_list hf cs vs' hb.2 h2⟩
theorem snapV_spec {M : Nat → Prop} {G : Gh} {s : List TOb} {w : World} (hS : Sim M G (dnS s) w) : ∀ (d : Nat) (v : TV) (cv : Value), tfree (snapV s d v) = true → VR0 G w (dn v) cv → VR0 G.bare w (dn (snapV s d v)) cv
  | 0, v, cv, hf, h => by simp only [snapV] at hf ⊢; exact VR0.bare (tfree_spec v hf) h
  | d + 1, v, cv, hf, h => by
    have same : snapV s (d + 1) v = v → VR0 G.bare w (dn (snapV s (d + 1) v)) cv := fun e => by
      rw [e] at hf ⊢
      exact VR0.bare (tfree_spec v hf) h
    cases v with
    | ref i o =>
      cases hs : s[i]? with
      | none => exact same (by simp only [snapV, hs])
      | some ob =>
        cases ob with
        | tarr ty xs t l => exact same (by simp only [snapV, hs])
        | cells cs t l =>
          cases l with
          | false => exact same (by simp only [snapV, hs])
          | true =>
            have e : snapV s (d + 1) (.ref i o) = .ep (cs.map fun c => snapV s d (tplain c)) o := by simp only [snapV, hs]
            rw [e] at hf ⊢
            simp only [tfree, Bool.and_eq_true] at hf
            simp only [dn, VR0] at h ⊢
            have hi : (dnS s)[i]? = some (dnO (.cells cs t true)) := by rw [dnS_get, hs]; rfl
            obtain ⟨vs, h1, h2, h3⟩ := hS.at_ i _ hi rfl
            have hin : i < G.n := h.2
            have hlv := hS.live i _ hi rfl
            refine ⟨G.mu i, 0, vs, by rw [Nat.zero_add]; exact h.1, ⟨hS.lt hin hlv, bare_nobj G _, fun ho => ?_⟩, ?_, ?_⟩
            · have ho : G.own (G.mu i) = true := ho
              rw [hS.own i hin hlv] at ho
              cases ho
            · intro k v hk
              rw [Nat.zero_add, cell_of_vs h1]
              exact hk
            · have h4 : VRs0 G w (dns (cs.map tplain)) vs := by
                rw [dns_tplain]
                refine VRs0.mk (by rw [h2]; simp [dnO]) fun k a v hk hv => ?_
                rw [List.getElem?_map] at hk
                obtain ⟨a0, hk1, rfl⟩ := map_some_eq hk
                exact (h3 k a0 v hk1 hv).1.plain
              have h5 := snap_list (f := fun c => snapV s d c) (fun v cv => snapV_spec hS d v cv) (cs.map tplain) vs (by rw [List.map_map]; exact hf.2) h4
              rw [List.map_map] at h5
              exact h5
    | func f cs =>
      have e : snapV s (d + 1) (.func f cs) = .func f (cs.map fun c => snapV s d c) := by simp only [snapV]
      rw [e] at hf ⊢
      simp only [tfree] at hf
      simp only [dn, VR0] at h ⊢
      obtain ⟨vs, h1, h2⟩ := h
      exact ⟨vs, h1, snap_list (fun v cv => snapV_spec hS d v cv) cs vs hf h2⟩
    | agg cs =>
      have e : snapV s (d + 1) (.agg cs) = .agg (cs.map fun c => snapV s d c) := by simp only [snapV]
      rw [e] at hf ⊢
      simp only [tfree] at hf
      simp only [dn, VR0] at h ⊢
      obtain ⟨vs, h1, h2⟩ := h
      exact ⟨vs, h1, snap_list (fun v cv => snapV_spec hS d v cv) cs vs hf h2⟩
    | _ => exact same rfl
theorem snaps_spec {M : Nat → Prop} {G : Gh} {s : List TOb} {w : World} (hS : Sim M G (dnS s) w) (d : Nat) (l : List TV) (vs : List Value) (hf : tfrees (l.map (snapV s d)) = true) (h : VRs0 G w (dns l) vs) : VRs0 G.bare w (dns (l.map (snapV s d))) vs :=
  snap_list (fun v cv => snapV_spec hS d v cv) l vs hf h
def inN (x : Nat) : List Nat → Bool
  | [] => false
  | y :: l => match Nat.beq x y with
    | true => true
    | false => inN x l
section
variable {β : Type} (sc : Sc) (cf : Cfg)
/-- an operation that is carried out -/
def execT (dst : Option Tmp) (op : Op) (fr : List TV) (s : List TOb) (k : List TV → List TOb → Option β) : Option β :=
  match op with
  | .pick c x y => match tEval fr c with
    | .tt => putK fr dst (tEval fr x) fun fr => k fr s
    | .ff => putK fr dst (tEval fr y) fun fr => k fr s
    | .bool b => match c with
      | .tmp t => cond b (setK fr t .tt fun fr => putK fr dst (tEval fr x) fun fr => k fr s) (setK fr t .ff fun fr => putK fr dst (tEval fr y) fun fr => k fr s)
      | _ => none
    | _ => none
  | .call c => match c.callee with
    | .value x => match tEval fr x with
      | .func (.func f) fcs => forceL ((c.args.toList.map fun y => tsoft (tEval fr y)) ++ fcs) fun args => match tfrees args with
        | true => cf.C f β args [] fun r s' => match s', tfree r with
          | [], true => putK fr dst (tplain r) fun fr => k fr s
          | _, _ => cf.C f β args s fun r s' => clearK (tmarks s) fr fun fr => putK fr dst (tplain r) fun fr => k fr s'
        | false => match inN f sc.rd with
          | true => forceL (args.map (snapV s 4)) fun args => match tfrees args with
            | true => cf.C f β args [] fun r s' => match s', tflat r with
              | [], true => putK fr dst (tplain r) fun fr => k fr s
              | _, _ => none
            | false => none
          | false => cf.C f β args s fun r s' => clearK (tmarks s) fr fun fr => putK fr dst (tplain r) fun fr => k fr s'
      | _ => none
    | _ => match tStep sc.P sc.wrap 1000 (dst.any fun d => sc.arrs.contains d) fr s dst op with
      | some (g, fr', v, s') => cond g (forceL fr' fun fr => putK fr dst v fun fr => forceS s' fun s => k fr s) none
      | none => none
  | op => match tStep sc.P sc.wrap 1000 (dst.any fun d => sc.arrs.contains d) fr s dst op with
    | some (g, fr', v, s') => cond g (putK fr' dst v fun fr => forceS s' fun s => k fr s) none
    | none => none
def guardSlot (A : Array Oper) (g : Nat) : Option Nat := (A[g]?).bind (·.dst)
def runOps (A : Array Oper) : List Oper → List TV → List TOb → (List TV → List TOb → Option β) → Option β
  | [], fr, s, k => k fr s
  | o :: l, fr, s, k => match o.guard with
    | none => execT sc cf o.dst o.op fr s fun fr s => runOps A l fr s k
    | some (g, want) => match guardSlot A g with
      | none => none
      | some t => match fr.getD t .undef with
        | .tt => if want = true then execT sc cf o.dst o.op fr s fun fr s => runOps A l fr s k else putK fr o.dst (.tup []) fun fr => runOps A l fr s k
        | .ff => if want = true then putK fr o.dst (.tup []) fun fr => runOps A l fr s k else execT sc cf o.dst o.op fr s fun fr s => runOps A l fr s k
        | .tup [] => putK fr o.dst (.tup []) fun fr => runOps A l fr s k
        | .bool b => cond b
          (setK fr t .tt fun fr => if want = true then execT sc cf o.dst o.op fr s fun fr s => runOps A l fr s k else putK fr o.dst (.tup []) fun fr => runOps A l fr s k)
          (setK fr t .ff fun fr => if want = true then putK fr o.dst (.tup []) fun fr => runOps A l fr s k else execT sc cf o.dst o.op fr s fun fr s => runOps A l fr s k)
        | _ => none
end
end Go.Proofs.Ytgicljncknbgcaa.Abs
