/- Code on typed values, told by one function. -/
import Derived.Test.YtmacghaihlfcpaaGreatM2
import Derived.KernelRfl
namespace Go.Proofs.YtmacghaihlfcpaaGreat.Abs
noncomputable section
open Go Go.ChangeShapes Go.WideShapes Go.ChangeAt Go.RowKit
set_option linter.unusedVariables false
set_option linter.unusedSimpArgs false

/-! the same things, reckoned at once -/
def forceN {β : Type} (n : Nat) (k : Nat → β) : β := Nat.rec (motive := fun _ => β) (k 0) (fun m _ => k (Nat.succ m)) n
theorem forceN_eq {β : Type} (n : Nat) (k : Nat → β) : forceN n k = k n := by cases n <;> rfl
def forceI {β : Type} (i : Int) (k : Int → β) : β := Int.rec (motive := fun _ => β) (fun n => forceN n fun n => k (.ofNat n)) (fun n => forceN n fun n => k (.negSucc n)) i
theorem forceI_eq {β : Type} (n : Int) (k : Int → β) : forceI n k = k n := by
  cases n with
  | ofNat n => exact forceN_eq n fun n => k (.ofNat n)
  | negSucc n => exact forceN_eq n fun n => k (.negSucc n)
def forceB {β : Type} (b : Bool) (k : Bool → β) : β := Bool.rec (motive := fun _ => β) (k false) (k true) b
theorem forceB_eq {β : Type} (b : Bool) (k : Bool → β) : forceB b k = k b := by cases b <;> rfl
def forceXs {α β : Type} (f : α → (α → β) → β) (xs : List α) (k : List α → β) : β := List.rec (motive := fun _ => (List α → β) → β) (fun k => k []) (fun x _ ih k => f x fun x => ih fun l => k (x :: l)) xs k
theorem forceXs_eq {α β : Type} {f : α → (α → β) → β} (hf : ∀ x k, f x k = k x) : ∀ (xs : List α) (k : List α → β), forceXs f xs k = k xs
  | [], k => rfl
  | x :: l, k => by show f x (fun x => forceXs f l fun l => k (x :: l)) = k (x :: l); rw [hf, forceXs_eq hf l]
def forceStr {β : Type} (s : List UInt8) (k : List UInt8 → β) : β := forceXs (fun x k => k x) s k
mutual
def forceE {β : Type} : (t : Ty) → El t → (El t → β) → β
  | .int _, n, k => forceI n k
  | .bool, b, k => forceB b k
  | .str, s, k => forceStr s k
  | .list e, xs, k => forceXs (fun x k => forceE e x k) xs k
  | .st fs, x, k => forceEs fs x k
def forceEs {β : Type} : (ts : List Ty) → Els ts → (Els ts → β) → β
  | [], x, k => k ()
  | t :: ts, x, k => forceE t x.1 fun a => forceEs ts x.2 fun b => k (a, b)
end
mutual
theorem forceE_eq {β : Type} : ∀ (t : Ty) (x : El t) (k : El t → β), forceE t x k = k x
  | .int _, n, k => by rw [forceE]; exact forceI_eq n k
  | .bool, b, k => by rw [forceE]; exact forceB_eq b k
  | .str, s, k => by rw [forceE]; exact forceXs_eq (fun _ _ => rfl) s k
  | .list e, xs, k => by rw [forceE]; exact forceXs_eq (fun x k => forceE_eq e x k) xs k
  | .st fs, x, k => by rw [forceE]; exact forceEs_eq fs x k
theorem forceEs_eq {β : Type} : ∀ (t : List Ty) (x : Els t) (k : Els t → β), forceEs t x k = k x
  | [], x, k => by rw [forceEs]; rfl
  | t :: ts, x, k => by rw [forceEs]; simp only [forceE_eq t, forceEs_eq ts]; rfl
end
def forceV0 {β : Type} (v : TV) (k : TV → β) : β := match v with
  | .undef => k .undef
  | .int a b => forceI b fun b => k (.int a b)
  | .bool b => forceB b fun b => k (.bool b)
  | .tt => k .tt
  | .ff => k .ff
  | .str s => k (.str s)
  | .nilp => k .nilp
  | .ref i o => forceN i fun i => forceN o fun o => k (.ref i o)
  | .tl t xs g => k (.tl t xs g)
  | .ll cs n g => k (.ll cs n g)
  | .ep cs o => k (.ep cs o)
  | .arr i n => forceN i fun i => forceN n fun n => k (.arr i n)
  | .ap i ix sz o => k (.ap i ix sz o)
  | .nilf => k .nilf
  | .mapn => k .mapn
  | .mapr i => forceN i fun i => k (.mapr i)
  | .func f cs => k (.func f cs)
  | .agg cs => k (.agg cs)
  | .tup vs => k (.tup vs)
theorem forceV0_eq {β : Type} (v : TV) (k : TV → β) : forceV0 v k = k v := by cases v <;> simp only [forceV0, forceI_eq, forceN_eq, forceB_eq]
def forceL {β : Type} (l : List TV) (k : List TV → β) : β := forceXs (fun v k => forceV0 v k) l k
theorem forceL_eq {β : Type} (l : List TV) (k : List TV → β) : forceL l k = k l := forceXs_eq (fun v k => forceV0_eq v k) l k
def forceV {β : Type} (v : TV) (k : TV → β) : β := match v with
  | .ep cs o => forceL cs fun cs => forceN o fun o => k (.ep cs o)
  | .ll cs n g => forceL cs fun cs => forceN n fun n => k (.ll cs n g)
  | .agg cs => forceL cs fun cs => k (.agg cs)
  | .tup cs => forceL cs fun cs => k (.tup cs)
  | .ap i ix sz o => forceN i fun i => forceI ix fun ix => forceN o fun o => k (.ap i ix sz o)
  | .func f cs => forceL cs fun cs => k (.func f cs)
  | v => forceV0 v k
theorem forceV_eq {β : Type} (v : TV) (k : TV → β) : forceV v k = k v := by
  unfold forceV; split <;> simp only [forceL_eq, forceN_eq, forceI_eq, forceV0_eq]
/-- down to the leaves -/
def forceX {β : Type} (v : TV) (k : TV → β) : β := match v with
  | .tl t xs g => forceXs (fun x k => forceE t x k) xs fun xs => k (.tl t xs g)
  | .str s => forceStr s fun s => k (.str s)
  | v => forceV v k
theorem forceX_eq {β : Type} (v : TV) (k : TV → β) : forceX v k = k v := by
  unfold forceX
  split
  · rw [forceXs_eq (fun x k => forceE_eq _ x k)]
  · exact forceXs_eq (fun _ _ => rfl) _ _
  · exact forceV_eq _ _
/-- whether something new is made -/
def newS : Op → Bool
  | .load _ _ => false
  | .extract _ _ => false
  | .field _ _ _ => false
  | .move _ => false
  | .assign _ => false
  | .pick _ _ _ => false
  | .indexAddr _ _ _ => false
  | .fieldAddr _ _ _ => false
  | _ => true
def forceY {β : Type} (b : Bool) (v : TV) (k : TV → β) : β := match b with
  | true => forceX v k
  | false => k v
theorem forceY_eq {β : Type} (b : Bool) (v : TV) (k : TV → β) : forceY b v k = k v := by cases b <;> simp only [forceY, forceX_eq]
def forceO {β : Type} (o : TOb) (k : TOb → β) : β := match o with
  | .cells cs t l => forceL cs fun cs => k (.cells cs t l)
  | .tarr ty xs t l => forceXs (fun x k => forceE ty x k) xs fun xs => k (.tarr ty xs t l)
theorem forceO_eq {β : Type} (o : TOb) (k : TOb → β) : forceO o k = k o := by
  cases o
  · simp only [forceO, forceL_eq]
  · simp only [forceO]; rw [forceXs_eq (fun x k => forceE_eq _ x k)]
def forceS {β : Type} (s : List TOb) (k : List TOb → β) : β := forceXs (fun o k => forceO o k) s k
theorem forceS_eq {β : Type} (s : List TOb) (k : List TOb → β) : forceS s k = k s := forceXs_eq (fun o k => forceO_eq o k) s k
/-- what of the store is new -/
inductive FM where
  | no
  | all
  | one (i : Nat)
def fmTgt : TV → FM
  | .ref i _ => .one i
  | .ap i _ _ _ => .one i
  | _ => .all
def fmOf (op : Op) (fr : List TV) (s : List TOb) : FM := match op with
  | .alloc _ => .one s.length
  | .box _ _ => .one s.length
  | .store _ x _ => fmTgt (tEval fr x)
  | .makeSlice _ _ _ => .one s.length
  | .makeMap _ _ => .one s.length
  | .mapUpdate _ _ _ _ => .all
  | .entryStore _ _ _ _ => .all
  | .mapEntry _ _ _ => .all
  | .range _ _ => .all
  | .next _ _ => .all
  | .call _ => .all
  | _ => .no
def forceAt {β : Type} (s : List TOb) (i : Nat) (k : List TOb → β) : β := List.rec (motive := fun _ => Nat → (List TOb → β) → β) (fun _ k => k []) (fun o l ih i k => Nat.rec (motive := fun _ => β) (forceO o fun o => k (o :: l)) (fun m _ => ih m fun l => k (o :: l)) i) s i k
theorem forceAt_eq {β : Type} : ∀ (s : List TOb) (i : Nat) (k : List TOb → β), forceAt s i k = k s
  | [], _, k => rfl
  | o :: l, 0, k => forceO_eq o fun o => k (o :: l)
  | o :: l, i + 1, k => forceAt_eq l i fun l => k (o :: l)
def forceW {β : Type} (b : FM) (s : List TOb) (k : List TOb → β) : β := match b with
  | .no => k s
  | .all => forceS s k
  | .one i => forceAt s i k
theorem forceW_eq {β : Type} (b : FM) (s : List TOb) (k : List TOb → β) : forceW b s k = k s := by cases b <;> simp only [forceW, forceS_eq, forceAt_eq]
/-- a list's cells, as they are -/
def spine {β : Type} (l : List TV) (k : List TV → β) : β := List.rec (motive := fun _ => (List TV → β) → β) (fun k => k []) (fun x _ ih k => ih fun l => k (x :: l)) l k
theorem spine_eq {β : Type} : ∀ (l : List TV) (k : List TV → β), spine l k = k l
  | [], k => rfl
  | x :: l, k => spine_eq l fun l => k (x :: l)
def setK {β : Type} (l : List TV) (d : Nat) (v : TV) (k : List TV → β) : β := List.rec (motive := fun _ => Nat → (List TV → β) → β) (fun _ k => k []) (fun x l ih d k => Nat.rec (motive := fun _ => β) (k (v :: l)) (fun m _ => ih m fun l => k (x :: l)) d) l d k
theorem setK_eq {β : Type} : ∀ (l : List TV) (d : Nat) (v : TV) (k : List TV → β), setK l d v k = k (l.set d v)
  | [], _, _, k => rfl
  | _ :: l, 0, v, k => rfl
  | x :: l, d + 1, v, k => setK_eq l d v fun l => k (x :: l)
def putK {β : Type} (fr : List TV) (d : Option Nat) (v : TV) (k : List TV → β) : β := match d with
  | none => k fr
  | some d => forceV v fun v => setK fr d v k
theorem putK_eq {β : Type} (fr : List TV) (d : Option Nat) (v : TV) (k : List TV → β) : putK fr d v k = k (tPut fr d v) := by
  cases d with
  | none => rfl
  | some d => simp only [putK, forceV_eq, setK_eq, tPut]

/-- what calls do: the function, what is told behind it, the arguments, the store -/
abbrev CallT := FuncId → (β : Type) → List TV → List TOb → (TV → List TOb → Option β) → Option β
/-- of a kept slot: what form it is brought to -/
inductive SK where
  | asis
  | int (k : IntKind)
  | bool
  | str
  | own (ty : Ty) (m : Nat) (e : TypeId) (z : Nat)
  | lst (ty : Ty)
  | agg (ty : Ty)
inductive OK where
  | same
  | cells (ks : List SK)
/-- what an operation of the head is to turn: a new object; an object (of the function's own, or by its number); a row by its mark -/
inductive TW where
  | alloc (r : Nat)
  | store (own : Bool) (i : Nat)
  | app (t0 : Nat)
structure HDat where
  n : Nat
  L : Nat
  K : Nat
  ws : List (Nat × TW)
  ev : List (Nat × List (Bool × Nat))
/-- how the store stands at a loop's head: of its first objects those that are listed, and what comes behind -/
structure LH where
  keep : List (Nat × SK)
  base : List (Nat × List SK)
  objs : List OK
/-- what is fixed for a function -/
structure Sc where
  P : Program
  arrs : List Nat
  heads : List (Nat × HDat)
  frz : List (Nat × Nat)
  wrap : Bool
  rd : List Nat
  joins : List (Nat × LH)
structure Cfg where
  N : Nat
  C : CallT
  n0 : Nat

def tsoft : TV → TV
  | .tl t xs (.own _ _ _) => .tl t xs .unk
  | .ll cs n (.own _ _ _) => .ll cs n .unk
  | v => v
theorem dn_tsoft (v : TV) : dn (tsoft v) = (dn v).soft := by
  cases v
  case tl t xs g => cases g <;> rfl
  case ll cs n g => cases g <;> rfl
  all_goals rfl
def tmarks (s : List TOb) : List Nat := s.flatMap fun o => match o with
  | .cells cs _ _ => cs.filterMap tmark
  | .tarr .. => []
theorem filterMap_none {α β : Type} (f : α → Option β) : ∀ l : List α, (∀ a ∈ l, f a = none) → l.filterMap f = []
  | [], _ => rfl
  | a :: l, h => by rw [List.filterMap_cons, h a (by simp)]; exact filterMap_none f l fun b hb => h b (by simp [hb])
theorem dnS_marks (s : List TOb) : storeMarks (dnS s) = tmarks s := by
  unfold storeMarks tmarks dnS
  rw [List.flatMap_map]
  congr 1
  funext o
  cases o with
  | cells cs t l =>
    simp only [dnO, dns_map, List.filterMap_map]
    congr 1
    funext v
    exact dn_mark v
  | tarr ty xs t l => simp only [dnO]; exact filterMap_none _ _ (flat_mark xs)
def clearK {β : Type} (ts : List Nat) (fr : List TV) (k : List TV → β) : β := match ts with
  | [] => k fr
  | ts => forceL (tclears ts fr) k
theorem tclear_nil (v : TV) : tclear [] v = v := by unfold tclear; split <;> simp
theorem clearK_eq {β : Type} (ts : List Nat) (fr : List TV) (k : List TV → β) : clearK ts fr k = k (tclears ts fr) := by
  cases ts with
  | nil => simp only [clearK, tclears]; rw [show tclear [] = id from funext tclear_nil, List.map_id]
  | cons t ts => simp only [clearK, forceL_eq]

mutual
/-- it points to no object -/
def tfree : TV → Bool
  | .ref _ _ => false
  | .arr _ _ => false
  | .ap _ _ _ _ => false
  | .ep cs _ => !cs.isEmpty && tfrees cs
  | .ll cs _ _ => tfrees cs
  | .func _ cs => tfrees cs
  | .agg cs => tfrees cs
  | .tup cs => tfrees cs
  | .undef | .int .. | .bool _ | .tt | .ff | .str _ | .nilp | .tl .. | .nilf | .mapn => true
  | .mapr _ => false
def tfrees : List TV → Bool
  | [] => true
  | a :: as => tfree a && tfrees as
end
theorem frees_all : ∀ {l : List AV}, (∀ a ∈ l, a.free = true) → frees l = true
  | [], _ => rfl
  | a :: l, h => by
    have h1 := h a List.mem_cons_self
    have h2 : frees l = true := frees_all fun b hb => h b (List.mem_cons_of_mem _ hb)
    simp only [frees, h1, h2, Bool.and_self]
mutual
theorem cellsOf_free : ∀ (t : Ty) (x : El t), ∀ a ∈ cellsOf t x, a.free = true
  | .int _, _, a, h => by simp only [cellsOf, List.mem_singleton] at h; subst h; rfl
  | .bool, _, a, h => by simp only [cellsOf, List.mem_singleton] at h; subst h; rfl
  | .str, _, a, h => by simp only [cellsOf, List.mem_singleton] at h; subst h; rfl
  | .list e, xs, a, h => by
    simp only [cellsOf, List.mem_singleton] at h
    subst h
    simp only [AV.free]
    refine frees_all fun b hb => ?_
    obtain ⟨x, _, hx⟩ := List.mem_flatMap.1 hb
    exact cellsOf_free e x b hx
  | .st fs, x, a, h => by simp only [cellsOf] at h; exact cellsOfs_free fs x a h
theorem cellsOfs_free : ∀ (ts : List Ty) (x : Els ts), ∀ a ∈ cellsOfs ts x, a.free = true
  | [], _, a, h => by simp [cellsOfs] at h
  | t :: ts, x, a, h => by
    simp only [cellsOfs, List.mem_append] at h
    rcases h with h | h
    · exact cellsOf_free t x.1 a h
    · exact cellsOfs_free ts x.2 a h
end
theorem flat_free {t : Ty} (xs : List (El t)) : frees (xs.flatMap (cellsOf t)) = true := by
  refine frees_all fun b hb => ?_
  obtain ⟨x, _, hx⟩ := List.mem_flatMap.1 hb
  exact cellsOf_free t x b hx
mutual
theorem tfree_spec : ∀ (v : TV), tfree v = true → (dn v).free = true
  | .undef, _ => rfl
  | .int .., _ => rfl
  | .bool _, _ => rfl
  | .tt, _ => rfl
  | .ff, _ => rfl
  | .str _, _ => rfl
  | .nilp, _ => rfl
  | .nilf, _ => rfl
  | .mapn, _ => rfl
  | .mapr _, h => by simp [tfree] at h
  | .tl t xs g, _ => flat_free xs
  | .ref i _, h => by simp [tfree] at h
  | .arr i _, h => by simp [tfree] at h
  | .ap i _ _ _, h => by simp [tfree] at h
  | .ll cs _ _, h => by simp only [tfree] at h; exact tfrees_spec cs h
  | .ep cs _, h => by
    simp only [tfree, Bool.and_eq_true] at h
    simp only [dn, AV.free, tfrees_spec cs h.2, Bool.and_true]
    cases cs with
    | nil => simp at h
    | cons => rfl
  | .func _ cs, h => by simp only [tfree] at h; exact tfrees_spec cs h
  | .agg cs, h => by simp only [tfree] at h; exact tfrees_spec cs h
  | .tup cs, h => by simp only [tfree] at h; exact tfrees_spec cs h
theorem tfrees_spec : ∀ (l : List TV), tfrees l = true → frees (dns l) = true
  | [], _ => rfl
  | a :: l, h => by
    simp only [tfrees, Bool.and_eq_true] at h
    simp only [dns, frees, tfree_spec a h.1, tfrees_spec l h.2, Bool.and_self]
end
theorem free_plain {a : AV} (h : a.free = true) : a.plain.free = true := by
  cases a <;> try exact h
  rename_i cs n g
  cases g <;> exact h
mutual
def tflat : TV → Bool
  | .ref _ _ => false
  | .arr _ _ => false
  | .ap _ _ _ _ => false
  | .ep _ _ => false
  | .ll cs _ _ => cs.isEmpty
  | .tl _ _ _ => false
  | .func _ cs => tflats cs
  | .agg cs => tflats cs
  | .tup cs => tflats cs
  | .undef | .int .. | .bool _ | .tt | .ff | .str _ | .nilp | .nilf | .mapn => true
  | .mapr _ => false
def tflats : List TV → Bool
  | [] => true
  | a :: as => tflat a && tflats as
end
mutual
theorem tflat_spec : ∀ (v : TV), tflat v = true → (dn v).flat = true
  | .undef, _ => rfl
  | .int .., _ => rfl
  | .bool _, _ => rfl
  | .tt, _ => rfl
  | .ff, _ => rfl
  | .str _, _ => rfl
  | .nilp, _ => rfl
  | .nilf, _ => rfl
  | .mapn, _ => rfl
  | .mapr _, h => by simp [tflat] at h
  | .tl t xs g, h => by simp [tflat] at h
  | .ref i _, h => by simp [tflat] at h
  | .arr i _, h => by simp [tflat] at h
  | .ap i _ _ _, h => by simp [tflat] at h
  | .ep cs _, h => by simp [tflat] at h
  | .ll cs _ _, h => by
    simp only [tflat, List.isEmpty_iff] at h
    subst h
    rfl
  | .func _ cs, h => by simp only [tflat] at h; exact tflats_spec cs h
  | .agg cs, h => by simp only [tflat] at h; exact tflats_spec cs h
  | .tup cs, h => by simp only [tflat] at h; exact tflats_spec cs h
theorem tflats_spec : ∀ (l : List TV), tflats l = true → flats (dns l) = true
  | [], _ => rfl
  | a :: l, h => by
    simp only [tflats, Bool.and_eq_true] at h
    simp only [dns, flats, tflat_spec a h.1, tflats_spec l h.2, Bool.and_self]
end
theorem flat_plain {a : AV} (h : a.flat = true) : a.plain.flat = true := by
  cases a <;> try exact h
  rename_i cs n g
  cases g <;> exact h
/-- an object as a row: how it stands -/
def snapV (s : List TOb) : Nat → TV → TV
  | 0, v => v
  | d + 1, .ref i o => match s[i]? with
    | some (.cells cs t true) => if t = mapT then .ref i o else .ep (cs.map fun c => snapV s d (tplain c)) o
    | _ => .ref i o
  | d + 1, .func f cs => .func f (cs.map fun c => snapV s d c)
  | d + 1, .agg cs => .agg (cs.map fun c => snapV s d c)
  | _, v => v
theorem VR0.bare {G : Gh} {w : World} {a : AV} {v : Value} (ha : a.free = true) (h : VR0 G w a v) : VR0 G.bare w a v :=
  VR0.move (fun _ _ _ _ hs => hs.bare) a v ha h
theorem snap_list {G : Gh} {w : World} {f : TV → TV} (hf : ∀ v cv, tfree (f v) = true → VR0 G w (dn v) cv → VR0 G.bare w (dn (f v)) cv) : ∀ (cs : List TV) (vs : List Value), tfrees (cs.map f) = true → VRs0 G w (dns cs) vs → VRs0 G.bare w (dns (cs.map f)) vs
  | [], vs, _, h => by simp only [List.map_nil, dns, VRs0] at h ⊢; exact h
  | c :: cs, vs, hb, h => by
    simp only [List.map_cons, tfrees, Bool.and_eq_true] at hb
    simp only [List.map_cons, dns, VRs0] at h ⊢
    obtain ⟨v, vs', rfl, h1, h2⟩ := h
    exact ⟨v, vs', rfl, hf c v hb.1 h1, snap_list hf cs vs' hb.2 h2⟩
theorem snapV_spec {M : Nat → Prop} {G : Gh} {s : List TOb} {w : World} (hS : Sim M G (dnS s) w) : ∀ (d : Nat) (v : TV) (cv : Value), tfree (snapV s d v) = true → VR0 G w (dn v) cv → VR0 G.bare w (dn (snapV s d v)) cv
  | 0, v, cv, hf, h => by simp only [snapV] at hf ⊢; exact VR0.bare (tfree_spec v hf) h
  | d + 1, v, cv, hf, h => by
    have same : snapV s (d + 1) v = v → VR0 G.bare w (dn (snapV s (d + 1) v)) cv := fun e => by
      rw [e] at hf ⊢
      exact VR0.bare (tfree_spec v hf) h
    cases v with
    | ref i o =>
      cases hs : s[i]? with
      | none => exact same (by simp only [snapV, hs])
      | some ob =>
        cases ob with
        | tarr ty xs t l => exact same (by simp only [snapV, hs])
        | cells cs t l =>
          cases l with
          | false => exact same (by simp only [snapV, hs])
          | true =>
            by_cases hmt : t = mapT
            · exact same (by simp only [snapV, hs]; rw [if_pos hmt])
            have e : snapV s (d + 1) (.ref i o) = .ep (cs.map fun c => snapV s d (tplain c)) o := by simp only [snapV, hs]; rw [if_neg hmt]
            rw [e] at hf ⊢
            simp only [tfree, Bool.and_eq_true] at hf
            simp only [dn, VR0] at h ⊢
            have hi : (dnS s)[i]? = some (dnO (.cells cs t true)) := by rw [dnS_get, hs]; rfl
            obtain ⟨vs, h1, h2, h3⟩ := hS.at_ i _ hi rfl
            rw [Ob.obj_cells (o := dnO (.cells cs t true)) hmt] at h1
            have hin : i < G.n := h.2
            have hlv := hS.live i _ hi rfl
            refine ⟨G.mu i, 0, vs, by rw [Nat.zero_add]; exact h.1, ⟨hS.lt hin hlv, bare_nobj G _, fun ho => ?_⟩, ?_, ?_⟩
            · have ho : G.own (G.mu i) = true := ho
              rw [hS.own i hin hlv] at ho
              cases ho
            · intro k v hk
              rw [Nat.zero_add, cell_of_vs h1]
              exact hk
            · have h4 : VRs0 G w (dns (cs.map tplain)) vs := by
                rw [dns_tplain]
                refine VRs0.mk (by rw [h2]; simp [dnO]) fun k a v hk hv => ?_
                rw [List.getElem?_map] at hk
                obtain ⟨a0, hk1, rfl⟩ := map_some_eq hk
                exact (h3 k a0 v hk1 hv).1.plain
              have h5 := snap_list (f := fun c => snapV s d c) (fun v cv => snapV_spec hS d v cv) (cs.map tplain) vs (by rw [List.map_map]; exact hf.2) h4
              rw [List.map_map] at h5
              exact h5
    | func f cs =>
      have e : snapV s (d + 1) (.func f cs) = .func f (cs.map fun c => snapV s d c) := by simp only [snapV]
      rw [e] at hf ⊢
      simp only [tfree] at hf
      simp only [dn, VR0] at h ⊢
      obtain ⟨vs, h1, h2⟩ := h
      exact ⟨vs, h1, snap_list (fun v cv => snapV_spec hS d v cv) cs vs hf h2⟩
    | agg cs =>
      have e : snapV s (d + 1) (.agg cs) = .agg (cs.map fun c => snapV s d c) := by simp only [snapV]
      rw [e] at hf ⊢
      simp only [tfree] at hf
      simp only [dn, VR0] at h ⊢
      obtain ⟨vs, h1, h2⟩ := h
      exact ⟨vs, h1, snap_list (fun v cv => snapV_spec hS d v cv) cs vs hf h2⟩
    | _ => exact same rfl
theorem snaps_spec {M : Nat → Prop} {G : Gh} {s : List TOb} {w : World} (hS : Sim M G (dnS s) w) (d : Nat) (l : List TV) (vs : List Value) (hf : tfrees (l.map (snapV s d)) = true) (h : VRs0 G w (dns l) vs) : VRs0 G.bare w (dns (l.map (snapV s d))) vs :=
  snap_list (fun v cv => snapV_spec hS d v cv) l vs hf h
def inN (x : Nat) : List Nat → Bool
  | [] => false
  | y :: l => match Nat.beq x y with
    | true => true
    | false => inN x l
section
variable {β : Type} (sc : Sc) (cf : Cfg)
/-- an operation that is carried out -/
def execT (dst : Option Tmp) (op : Op) (fr : List TV) (s : List TOb) (k : List TV → List TOb → Option β) : Option β :=
  match op with
  | .pick c x y => match tEval fr c with
    | .tt => putK fr dst (tEval fr x) fun fr => k fr s
    | .ff => putK fr dst (tEval fr y) fun fr => k fr s
    | .bool b => match c with
      | .tmp t => cond b (setK fr t .tt fun fr => putK fr dst (tEval fr x) fun fr => k fr s) (setK fr t .ff fun fr => putK fr dst (tEval fr y) fun fr => k fr s)
      | _ => none
    | _ => none
  | .call c => match c.callee with
    | .value x => match tEval fr x with
      | .func (.func f) fcs => forceL ((c.args.toList.map fun y => tsoft (tEval fr y)) ++ fcs) fun args => match tfrees args with
        | true => match inN f sc.rd with
          | true => cf.C f β args s fun r s' => clearK (tmarks s) fr fun fr => putK fr dst r fun fr => k fr s'
          | false => cf.C f β args [] fun r s' => match s', tfree r with
            | [], true => putK fr dst (tplain r) fun fr => k fr s
            | _, _ => cf.C f β args s fun r s' => clearK (tmarks s) fr fun fr => putK fr dst (tplain r) fun fr => k fr s'
        | false => match inN f sc.rd with
          | true => forceL (args.map (snapV s 4)) fun args => match tfrees args with
            | true => cf.C f β args [] fun r s' => match s', tflat r with
              | [], true => putK fr dst (tplain r) fun fr => k fr s
              | _, _ => none
            | false => none
          | false => cf.C f β args s fun r s' => clearK (tmarks s) fr fun fr => putK fr dst (tplain r) fun fr => k fr s'
      | _ => none
    | .builtin .len => match tStepX sc.P sc.wrap 1000 (dst.any fun d => sc.arrs.contains d) fr s dst op with
      | some (g, fr', v, s') => cond g (forceY true v fun v => putK fr' dst v fun fr2 => forceW .no s' fun s => k fr2 s) none
      | none => none
    | _ => match tStepX sc.P sc.wrap 1000 (dst.any fun d => sc.arrs.contains d) fr s dst op with
      | some (g, fr', v, s') => cond g (forceX v fun v => forceL fr' fun fr => putK fr dst v fun fr => forceS s' fun s => k fr s) none
      | none => none
  | op => match tStepX sc.P sc.wrap 1000 (dst.any fun d => sc.arrs.contains d) fr s dst op with
    | some (g, fr', v, s') => cond g (forceY (newS op) v fun v => putK fr' dst v fun fr2 => forceW (fmOf op fr s) s' fun s => k fr2 s) none
    | none => none
def guardSlot (A : Array Oper) (g : Nat) : Option Nat := (A[g]?).bind (·.dst)
def runOps (A : Array Oper) : List Oper → List TV → List TOb → (List TV → List TOb → Option β) → Option β
  | [], fr, s, k => k fr s
  | o :: l, fr, s, k => match o.guard with
    | none => execT sc cf o.dst o.op fr s fun fr s => runOps A l fr s k
    | some (g, want) => match guardSlot A g with
      | none => none
      | some t => match fr.getD t .undef with
        | .tt => if want = true then execT sc cf o.dst o.op fr s fun fr s => runOps A l fr s k else putK fr o.dst (.tup []) fun fr => runOps A l fr s k
        | .ff => if want = true then putK fr o.dst (.tup []) fun fr => runOps A l fr s k else execT sc cf o.dst o.op fr s fun fr s => runOps A l fr s k
        | .tup [] => putK fr o.dst (.tup []) fun fr => runOps A l fr s k
        | .bool b => cond b
          (setK fr t .tt fun fr => if want = true then execT sc cf o.dst o.op fr s fun fr s => runOps A l fr s k else putK fr o.dst (.tup []) fun fr => runOps A l fr s k)
          (setK fr t .ff fun fr => if want = true then putK fr o.dst (.tup []) fun fr => runOps A l fr s k else execT sc cf o.dst o.op fr s fun fr s => runOps A l fr s k)
        | _ => none
end
end
end Go.Proofs.YtmacghaihlfcpaaGreat.Abs

namespace Go.Proofs.YtmacghaihlfcpaaGreat.Abs
noncomputable section
open Go Go.ChangeShapes Go.WideShapes Go.ChangeAt Go.RowKit
set_option linter.unusedVariables false
set_option linter.unusedSimpArgs false

def CallSound (P : Program) (C : CallT) : Prop := ∀ (f : FuncId) (β : Type) (args : List TV) (s : List TOb) (k : TV → List TOb → Option β) (b : β), C f β args s k = some b →
  enters P f = true ∧ ∃ r s', Ok P f (dns args) (dnS s) (dn r) (dnS s') ∧ k r s' = some b
theorem Ok.weaken {P : Program} {f : FuncId} {args : List AV} {s s' : List Ob} {r r' : AV} (h : Ok P f args s r s') (hw : Wk r r') (hm : r'.mark = none := by exact AV.mark_plain _) : Ok P f args s r' s' := by
  intro M G w cargs hS hG hargs
  refine (h M G w cargs hS hG hargs).mono ?_
  rintro e w' ⟨v, G', h1, h2, h3⟩
  exact ⟨v, G', h1, ⟨hw G' w' v h2.1, OwnC.of_plain hm⟩, h3⟩
theorem dns_set_same {fr : List TV} {t : Nat} {v : TV} (h : dn (fr.getD t .undef) = dn v) : dns (fr.set t v) = dns fr := by
  rw [dns_set]
  by_cases ht : t < fr.length
  · apply List.ext_getElem?
    intro i
    rw [List.getElem?_set]
    split
    · rename_i hti
      subst hti
      rw [if_pos (by rw [dns_length]; exact ht), dns_get]
      rw [List.getElem?_eq_getElem ht]
      rw [List.getD_eq_getElem?_getD, List.getElem?_eq_getElem ht] at h
      simpa using h.symm
    · rfl
  · rw [List.set_eq_of_length_le (by rw [dns_length]; omega)]
theorem cond_some {β : Type} {g : Bool} {x : Option β} {b : β} (h : cond g x none = some b) : g = true ∧ x = some b := by
  cases g with
  | true => exact ⟨rfl, h⟩
  | false => cases h
theorem argsOf_eq (fr : List TV) (args : List Operand) : (args.map fun y => (aEval (dns fr) y).soft) = dns (args.map fun y => tsoft (tEval fr y)) := by
  rw [show dns (args.map fun y => tsoft (tEval fr y)) = (args.map fun y => tsoft (tEval fr y)).map dn from dns_map _, List.map_map]
  apply List.map_congr_left
  intro y _
  simp [dn_tsoft, dn_tEval]
section
variable {n0 : Nat} {β : Type} {sc : Sc} {cf : Cfg} {b : β}
theorem execT_sound (hC : CallSound sc.P cf.C) {A : Array Oper} {o : Oper} {rest : List Oper} {fr : List TV} {s : List TOb} {k : List TV → List TOb → Option β} (hw : aWanted A (dns fr) o = some true)
    (h : execT sc cf o.dst o.op fr s k = some b) : ∃ fr' s', k fr' s' = some b ∧ ∀ Q, AL n0 sc.P A rest (dns fr') (dnS s') Q → AL n0 sc.P A (o :: rest) (dns fr) (dnS s) Q := by
  have step : ∀ {arr : Bool} {g : Bool} {fr' : List TV} {v : TV} {s' : List TOb}, tStepX sc.P sc.wrap 1000 arr fr s o.dst o.op = some (g, fr', v, s') → g = true → k (tPut fr' o.dst v) s' = some b → ∃ fr' s', k fr' s' = some b ∧ ∀ Q, AL n0 sc.P A rest (dns fr') (dnS s') Q → AL n0 sc.P A (o :: rest) (dns fr) (dnS s) Q := by
    intro arr g fr' v s' h1 h2 h3
    refine ⟨_, _, h3, fun Q this => ?_⟩
    rw [dns_tPut] at this
    exact AL_step hw (tStepX_spec h1 h2) this
  have viaStep : ∀ {arr w1 : Bool} {w : FM}, (match tStepX sc.P sc.wrap 1000 arr fr s o.dst o.op with
      | some (g, fr', v, s') => cond g (forceY w1 v fun v => putK fr' o.dst v fun fr => forceW w s' fun s => k fr s) none
      | none => none) = some b → ∃ fr' s', k fr' s' = some b ∧ ∀ Q, AL n0 sc.P A rest (dns fr') (dnS s') Q → AL n0 sc.P A (o :: rest) (dns fr) (dnS s) Q := by
    intro arr w1 w h
    split at h
    · rename_i g fr' v s' h1
      obtain ⟨h2, h3⟩ := cond_some h
      simp only [forceY_eq, putK_eq, forceW_eq] at h3
      exact step h1 h2 h3
    · cases h
  have viaStep2 : ∀ {arr : Bool}, (match tStepX sc.P sc.wrap 1000 arr fr s o.dst o.op with
      | some (g, fr', v, s') => cond g (forceX v fun v => forceL fr' fun fr => putK fr o.dst v fun fr => forceS s' fun s => k fr s) none
      | none => none) = some b → ∃ fr' s', k fr' s' = some b ∧ ∀ Q, AL n0 sc.P A rest (dns fr') (dnS s') Q → AL n0 sc.P A (o :: rest) (dns fr) (dnS s) Q := by
    intro arr h
    split at h
    · rename_i g fr' v s' h1
      obtain ⟨h2, h3⟩ := cond_some h
      simp only [forceX_eq, putK_eq, forceS_eq, forceL_eq] at h3
      exact step h1 h2 h3
    · cases h
  obtain ⟨dst, op, type, pos, after, guard⟩ := o
  unfold execT at h
  dsimp only at h
  split at h
  · rename_i c x y
    have pick : ∀ {t : Bool} {fr2 : List TV} {z : Operand}, dns fr2 = dns fr → aEval (dns fr) c = .bool t → z = (if t = true then x else y) → k (tPut fr2 dst (tEval fr2 z)) s = some b → ∃ fr' s', k fr' s' = some b ∧ ∀ Q, AL n0 sc.P A rest (dns fr') (dnS s') Q → AL n0 sc.P A (⟨dst, .pick c x y, type, pos, after, guard⟩ :: rest) (dns fr) (dnS s) Q := by
      intro t fr2 z h1 h2 h3 h4
      refine ⟨_, _, h4, fun Q h5 => ?_⟩
      rw [dns_tPut, dn_tEval, h1] at h5
      refine AL_step hw (Step_pure (v := aEval (dns fr) z) ?_) h5
      simp only [aPureV, h2]
      subst h3
      cases t <;> rfl
    split at h
    · rename_i hc
      rw [putK_eq] at h
      exact pick (t := true) rfl (by rw [← dn_tEval, hc]; rfl) rfl h
    · rename_i hc
      rw [putK_eq] at h
      exact pick (t := false) rfl (by rw [← dn_tEval, hc]; rfl) rfl h
    · rename_i t hc
      split at h
      · rename_i ct
        have hc' : fr.getD ct .undef = .bool t := (nthR_eq _ _).symm.trans hc
        simp only [setK_eq, putK_eq] at h
        cases t with
        | true => exact pick (t := true) (dns_set_same (by rw [hc']; rfl)) (by rw [← dn_tEval, hc]; rfl) rfl h
        | false => exact pick (t := false) (dns_set_same (by rw [hc']; rfl)) (by rw [← dn_tEval, hc]; rfl) rfl h
      · cases h
    · cases h
  · rename_i c
    split at h
    · rename_i x hx
      split at h
      · rename_i f fcs hf
        rw [forceL_eq] at h
        have hf' : aEval (dns fr) x = .func (.func f) (dns fcs) := by rw [← dn_tEval, hf]; rfl
        have hargs : dns ((c.args.toList.map fun y => tsoft (tEval fr y)) ++ fcs) = (c.args.toList.map fun y => (aEval (dns fr) y).soft) ++ dns fcs := by rw [dns_app, ← argsOf_eq]
        have general : (cf.C f β ((c.args.toList.map fun y => tsoft (tEval fr y)) ++ fcs) s fun r s' => clearK (tmarks s) fr fun fr => putK fr dst (tplain r) fun fr => k fr s') = some b → ∃ fr' s', k fr' s' = some b ∧ ∀ Q, AL n0 sc.P A rest (dns fr') (dnS s') Q → AL n0 sc.P A (⟨dst, .call c, type, pos, after, guard⟩ :: rest) (dns fr) (dnS s) Q := by
          intro h
          obtain ⟨hen, r, s', hok, hk'⟩ := hC f β _ s _ b h
          simp only [clearK_eq, putK_eq] at hk'
          refine ⟨_, _, hk', fun Q h5 => ?_⟩
          rw [dns_tPut, dns_tclears, dn_tplain, ← dnS_marks] at h5
          rw [hargs] at hok
          exact AL_step hw (Step_call rfl hx hf' hen (hok.weaken (AV.plain_wk _))) h5
        split at h
        · rename_i hfree
          split at h
          · obtain ⟨hen, r, s', hok, hk'⟩ := hC f β _ s _ b h
            simp only [clearK_eq, putK_eq] at hk'
            refine ⟨_, _, hk', fun Q h5 => ?_⟩
            rw [dns_tPut, dns_tclears, ← dnS_marks] at h5
            rw [hargs] at hok
            exact AL_step hw (Step_call rfl hx hf' hen hok) h5
          obtain ⟨hen, r, s', hok, hk'⟩ := hC f β _ [] _ b h
          split at hk'
          · rename_i hr
            rw [putK_eq] at hk'
            refine ⟨_, _, hk', fun Q h5 => ?_⟩
            rw [dns_tPut, dn_tplain] at h5
            have hfa := tfrees_spec _ hfree
            rw [hargs] at hok hfa
            exact AL_step hw (Step_callP rfl hx hf' hen (hok.weaken (AV.plain_wk _)) hfa (free_plain (tfree_spec r hr)) (AV.mark_plain _)) h5
          · exact general hk'
        · split at h
          · rw [forceL_eq] at h
            split at h
            · rename_i hfree
              obtain ⟨hen, r, s', hok, hk'⟩ := hC f β _ [] _ b h
              split at hk'
              · rename_i hr
                rw [putK_eq] at hk'
                refine ⟨_, _, hk', fun Q h5 => ?_⟩
                rw [dns_tPut, dn_tplain] at h5
                refine AL_step hw (fun M G w a hF hS hf K Q hK => ?_) h5
                refine CallR_wp rfl hx hf' hen hok (fun cv hcv => ?_) (tflat_spec r hr) hS hF.2 hf K Q fun v G' w' k1 k2 k3 => hK v G' w' (k2.mono fun _ _ => False.elim) (k3 _ hS) (hf.grow k2) (VR.plain k1)
                rw [← hargs] at hcv
                exact snaps_spec hS 4 _ cv hfree hcv
              · cases hk'
            · cases h
          · exact general h
      · cases h
    · exact viaStep h
    · exact viaStep2 h
  · exact viaStep h
/-- just this -/
def Ex (e1 : Exit) (F : List TV) (S : List TOb) : AQ := fun e fr s => e = e1 ∧ fr = dns F ∧ s = dnS S
theorem runOps_sound (hC : CallSound sc.P cf.C) {A : Array Oper} : ∀ (l : List Oper) (fr : List TV) (s : List TOb) (k : List TV → List TOb → Option β), runOps sc cf A l fr s k = some b →
    ∃ F S, k F S = some b ∧ AL n0 sc.P A l (dns fr) (dnS s) (Ex .normal F S)
  | [], fr, s, k, h => ⟨fr, s, h, AL_nil ⟨rfl, rfl, rfl⟩⟩
  | o :: l, fr, s, k, h => by
    have go : ∀ {fr s}, aWanted A (dns fr) o = some true → (execT sc cf o.dst o.op fr s fun fr s => runOps sc cf A l fr s k) = some b → ∃ F S, k F S = some b ∧ AL n0 sc.P A (o :: l) (dns fr) (dnS s) (Ex .normal F S) := by
      intro fr s hw h
      obtain ⟨fr', s', h1, h2⟩ := execT_sound hC hw h
      obtain ⟨F, S, h3, h4⟩ := runOps_sound hC l fr' s' k h1
      exact ⟨F, S, h3, h2 _ h4⟩
    have skip : ∀ {fr s}, aWanted A (dns fr) o = some false → (putK fr o.dst (.tup []) fun fr => runOps sc cf A l fr s k) = some b → ∃ F S, k F S = some b ∧ AL n0 sc.P A (o :: l) (dns fr) (dnS s) (Ex .normal F S) := by
      intro fr s hw h
      rw [putK_eq] at h
      obtain ⟨F, S, h3, h4⟩ := runOps_sound hC l _ s k h
      rw [dns_tPut] at h4
      exact ⟨F, S, h3, AL_skip hw h4⟩
    unfold runOps at h
    split at h
    · rename_i hg
      exact go (by unfold aWanted; rw [hg]) h
    · rename_i g want hg
      split at h
      · cases h
      · rename_i t ht
        have wanted : ∀ {fr : List TV} {v : Bool}, dn (fr.getD t .undef) = .bool v → aWanted A (dns fr) o = some (v == want) := by
          intro fr v hv
          unfold aWanted
          rw [hg]
          dsimp only
          rw [show (A[g]?).bind (·.dst) = some t from ht]
          dsimp only
          rw [dns_getD, hv]
        have nowant : ∀ {fr : List TV}, dn (fr.getD t .undef) = .tuple [] → aWanted A (dns fr) o = some false := by
          intro fr hv
          unfold aWanted
          rw [hg]
          dsimp only
          rw [show (A[g]?).bind (·.dst) = some t from ht]
          dsimp only
          rw [dns_getD, hv]
        split at h
        · rename_i hv
          have hw := wanted (fr := fr) (v := true) (by rw [hv]; rfl)
          split at h
          · rename_i hwt; subst hwt; exact go hw h
          · rename_i hwt
            have : want = false := by simpa using hwt
            subst this
            exact skip hw h
        · rename_i hv
          have hw := wanted (fr := fr) (v := false) (by rw [hv]; rfl)
          split at h
          · rename_i hwt; subst hwt; exact skip hw h
          · rename_i hwt
            have : want = false := by simpa using hwt
            subst this
            exact go hw h
        · rename_i hv
          exact skip (nowant (by rw [hv]; rfl)) h
        · rename_i v hv
          have hsame : ∀ {u : TV}, dn u = .bool v → dns (fr.set t u) = dns fr := fun hu => dns_set_same (by rw [hv, hu]; rfl)
          have hw := wanted (fr := fr) (v := v) (by rw [hv]; rfl)
          simp only [setK_eq] at h
          cases v with
          | true =>
            simp only [cond_true] at h
            rw [← hsame (u := .tt) rfl] at hw ⊢
            split at h
            · rename_i hwt; subst hwt; exact go hw h
            · rename_i hwt
              have : want = false := by simpa using hwt
              subst this
              exact skip hw h
          | false =>
            simp only [cond_false] at h
            rw [← hsame (u := .ff) rfl] at hw ⊢
            split at h
            · rename_i hwt; subst hwt; exact skip hw h
            · rename_i hwt
              have : want = false := by simpa using hwt
              subst this
              exact go hw h
        · cases h
end
end
end Go.Proofs.YtmacghaihlfcpaaGreat.Abs

namespace Go.Proofs.YtmacghaihlfcpaaGreat.Abs
noncomputable section
open Go Go.ChangeShapes Go.WideShapes Go.ChangeAt Go.RowKit
set_option linter.unusedVariables false
set_option linter.unusedSimpArgs false

/-! marks renamed -/
def AV.ren (ρ : Nat → Nat) : AV → AV
  | .list cs n (.own t e z) => .list cs n (.own (ρ t) e z)
  | a => a
def renO (ρ : Nat → Nat) (o : Ob) : Ob := { o with cs := o.cs.map (AV.ren ρ) }
open Classical in
noncomputable def Gh.ren (G : Gh) (M : Nat → Prop) (ρ : Nat → Nat) : Gh := { G with tg := fun b => if M b then ρ (G.tg b) else G.tg b }
theorem Ext.ren (G : Gh) (w : World) (M : Nat → Prop) (ρ : Nat → Nat) : Ext M G w (G.ren M ρ) w where
  size := Nat.le_refl _
  os := rfl
  tape := rfl
  output := rfl
  n := Nat.le_refl _
  live _ _ h := h
  mu _ _ := rfl
  newobj i h1 h2 := by simp only [Gh.ren] at h2; omega
  own _ _ := rfl
  phi _ _ _ := Nat.le_refl _
  cell _ _ _ _ := rfl
  row _ _ _ _ _ _ := rfl
  keep b _ _ _ hm := ⟨rfl, rfl, by simp only [Gh.ren]; rw [if_neg hm]⟩
theorem VR.ren {M : Nat → Prop} {G : Gh} {w : World} {a : AV} {v : Value} (ρ : Nat → Nat) (h : VR M G w a v) : VR M (G.ren M ρ) w (a.ren ρ) v := by
  have h0 := VR0.mono (Ext.ren G w M ρ) a v h.1
  have ho := h.2
  cases a with
  | list cs n g =>
    cases g with
    | own t e z =>
      refine ⟨?_, ?_⟩
      · simp only [AV.ren, VR0] at h0 ⊢
        obtain ⟨A, cap, k1, k2, _, k4⟩ := h0
        exact ⟨A, cap, k1, k2, (fun h => by cases h), k4⟩
      · simp only [AV.ren, OwnC] at ho ⊢
        rcases ho with ho | ⟨g, cap, cur, k1, k2, k3, k4, k5, k6, k7⟩
        · exact .inl ho
        · exact .inr ⟨g, cap, cur, k1, k2, k3, k4, k5, by simp only [Gh.ren]; rw [if_pos k2, k6], k7⟩
    | _ => exact ⟨h0, OwnC.of_plain rfl⟩
  | _ => exact ⟨h0, OwnC.of_plain rfl⟩
theorem Sim.ren {M : Nat → Prop} {G : Gh} {s : List Ob} {w : World} (ρ : Nat → Nat) (h : Sim M G s w) : Sim M (G.ren M ρ) (s.map (renO ρ)) w := by
  refine ⟨by simp [Gh.ren, h.n], h.inj, h.own, ?_, h.lt, ?_⟩
  · intro i o' hi hol
    rw [List.getElem?_map] at hi
    obtain ⟨o, h1, rfl⟩ := map_some_eq hi
    exact h.live i o h1 hol
  · intro i o' hi hl
    rw [List.getElem?_map] at hi
    obtain ⟨o, h1, rfl⟩ := map_some_eq hi
    obtain ⟨vs, g1, g2, g3⟩ := h.at_ i o h1 hl
    refine ⟨vs, g1, by simpa [renO] using g2, fun k a v hk hv => ?_⟩
    simp only [renO, List.getElem?_map] at hk
    obtain ⟨a0, h2, rfl⟩ := map_some_eq hk
    exact (g3 k a0 v h2 hv).ren ρ
theorem Rel.ren {M : Nat → Prop} {G0 : Gh} {w0 : World} {fr : List AV} {s : List Ob} {a : Act} {w : World} (ρ : Nat → Nat) (h : Rel M G0 w0 fr s a w) : Rel M G0 w0 (fr.map (AV.ren ρ)) (s.map (renO ρ)) a w := by
  obtain ⟨G, h1, h2, h3⟩ := h
  refine ⟨G.ren M ρ, h1.trans (Ext.ren G w M ρ) (fun _ _ h => h), h2.ren ρ, h3.defers, by simpa using h3.size, fun t => ?_⟩
  have := (h3.at_ t).ren ρ
  rw [List.getD_eq_getElem?_getD, List.getElem?_map]
  rw [List.getD_eq_getElem?_getD] at this
  cases hh : fr[t]? with
  | none => rw [hh] at this; exact this
  | some x => rw [hh] at this; exact this
/-! objects cut -/
theorem VR.cut {M : Nat → Prop} {G : Gh} {w : World} {n : Nat} (hn : n ≤ G.n) {a : AV} {v : Value} (hr : a.refs n = true) (h : VR M G w a v) : VR M (G.cut n) w a v := by
  refine ⟨h.1.cut hn a v hr, ?_⟩
  have k2 := h.2
  unfold OwnC at *
  split
  · rcases k2 with k2 | ⟨g, cap, cur, e1, e2, e3, e4, e5⟩
    · exact .inl k2
    · exact .inr ⟨g, cap, cur, e1, e2, e3, fun ⟨j, hj, hl, he⟩ => e4 ⟨j, Nat.lt_of_lt_of_le hj hn, hl, he⟩, e5⟩
  · trivial
theorem Rel.cut {M : Nat → Prop} {G0 : Gh} {w0 : World} {fr : List AV} {s s' : List Ob} {a : Act} {w : World} {n : Nat} (h0 : G0.n ≤ n) (hn : n ≤ s.length) (hc : cutStore n s = some s') (hf : belows n fr = true) (h : Rel M G0 w0 fr s a w) : Rel M G0 w0 fr s' a w := by
  obtain ⟨G, h1, h2, h3⟩ := h
  have hnG : n ≤ G.n := by rw [h2.n]; exact hn
  refine ⟨G.cut n, ?_, h2.cut hnG hc, h3.defers, h3.size, fun t => ?_⟩
  · exact { h1 with n := h0, newobj := fun i k1 k2 => h1.newobj i k1 (Nat.lt_of_lt_of_le k2 hnG), mu := h1.mu, live := h1.live, own := h1.own, phi := h1.phi, keep := h1.keep, cell := h1.cell, row := h1.row }
  · refine (h3.at_ t).cut hnG ?_
    rw [List.getD_eq_getElem?_getD]
    cases hh : fr[t]? with
    | none => rfl
    | some x => exact belows_get hf hh

/-! the same on typed values -/
def tren (ρ : Nat → Nat) : TV → TV
  | .tl t xs (.own m e z) => .tl t xs (.own (ρ m) e z)
  | .ll cs n (.own m e z) => .ll cs n (.own (ρ m) e z)
  | v => v
theorem dn_tren (ρ : Nat → Nat) (v : TV) : dn (tren ρ v) = (dn v).ren ρ := by
  cases v <;> try rfl
  · rename_i t xs g; cases g <;> rfl
  · rename_i t xs g; cases g <;> rfl
theorem ren_none (ρ : Nat → Nat) {a : AV} (h : a.mark = none) : a.ren ρ = a := by
  cases a <;> try rfl
  rename_i cs n g
  cases g <;> first | rfl | cases h
def rhoOf : List (Nat × Nat) → Nat → Nat
  | [], t => t
  | (a, b) :: l, t => if t = a then b else rhoOf l t
def conv (ρ : Nat → Nat) : SK → TV → Option TV
  | .asis, v => some (tren ρ v)
  | .int k, v => match v with
    | .int k' n => if k' = k then some (.int k n) else none
    | _ => none
  | .bool, v => match asB v with
    | some b => some (.bool b)
    | none => none
  | .str, v => match v with
    | .str s => some (.str s)
    | _ => none
  | .own ty m e z, v => if z = ty.size then
      match tOwned ty e z m (tren ρ v) with
      | some (xs, t0) => if t0 = m then some (.tl ty xs (.own m e z)) else none
      | none => none
    else none
  | .lst ty, v => match decV (.list ty) v with
    | some xs => some (.tl ty xs .unk)
    | none => none
  | .agg ty, v => match decV ty v with
    | some x => some (tval ty x)
    | none => none
theorem AV.ren_wk (ρ : Nat → Nat) (a : AV) : Wk (a.ren ρ) a := fun G w v h => by
  cases a <;> try exact h
  rename_i cs n g
  cases g <;> try exact h
  simp only [AV.ren, VR0] at h ⊢
  obtain ⟨A, cap, k1, k2, _, k4⟩ := h
  exact ⟨A, cap, k1, k2, (fun h => by cases h), k4⟩
theorem conv_spec {ρ : Nat → Nat} {k : SK} {v v' : TV} (h : conv ρ k v = some v') : WkM ((dn v).ren ρ) (dn v') := by
  cases k with
  | asis => simp only [conv, Option.some.injEq] at h; subst h; rw [dn_tren]; exact .refl _
  | int k =>
    simp only [conv] at h
    split at h
    · split at h
      · rename_i hk; subst hk; cases h; exact .refl _
      · cases h
    · cases h
  | bool =>
    simp only [conv] at h
    split at h
    · rename_i b hb; cases h; rw [asB_spec hb]; exact .refl _
    · cases h
  | str =>
    simp only [conv] at h
    split at h
    · cases h; exact .refl _
    · cases h
  | own ty m e z =>
    simp only [conv] at h
    split at h
    · rename_i hz
      split at h
      · rename_i xs t0 ho
        split at h
        · rename_i ht
          subst ht
          cases h
          have := tOwned_spec hz ho
          rw [dn_tren] at this
          exact this
        · cases h
      · cases h
    · cases h
  | lst ty =>
    simp only [conv] at h
    split at h
    · rename_i xs hx
      cases h
      exact .of ((AV.ren_wk ρ _).trans (decV_spec hx)) rfl
    · cases h
  | agg ty =>
    simp only [conv] at h
    split at h
    · rename_i x hx
      cases h
      exact .of ((AV.ren_wk ρ _).trans (decV_spec hx)) (aval_mark _ _)
    · cases h
def canonF {β : Type} (ρ : Nat → Nat) : List (Nat × SK) → Nat → List TV → (List TV → Option β) → Option β
  | _, _, [], k => k []
  | [], i, _ :: fr, k => canonF ρ [] (i + 1) fr fun fr => k (.undef :: fr)
  | (t, sk) :: ks, i, v :: fr, k => if t = i then
      match conv ρ sk v with
      | some v => forceV v fun v => canonF ρ ks (i + 1) fr fun fr => k (v :: fr)
      | none => none
    else canonF ρ ((t, sk) :: ks) (i + 1) fr fun fr => k (.undef :: fr)
/-- slot by slot -/
inductive WkMs : List AV → List AV → Prop
  | nil : WkMs [] []
  | cons {a b as bs} : WkM a b → WkMs as bs → WkMs (a :: as) (b :: bs)
theorem WkMs.F {a b : List AV} (h : WkMs a b) : WkF a b := by
  refine ⟨?_, ?_⟩
  · induction h with
    | nil => rfl
    | cons _ _ ih => simp [ih]
  · induction h with
    | nil => intro t; exact .refl _
    | cons h _ ih =>
      intro t
      cases t with
      | zero => exact h
      | succ t => simpa using ih t
theorem WkMs.len {a b : List AV} (h : WkMs a b) : b.length = a.length := h.F.1
theorem WkMs.get {a b : List AV} (h : WkMs a b) : ∀ (i : Nat) (y y' : AV), a[i]? = some y → b[i]? = some y' → WkM y y' := by
  induction h with
  | nil => intro i y y' h; simp at h
  | cons hh _ ih =>
    intro i y y' h h'
    cases i with
    | zero => simp at h h'; subst h; subst h'; exact hh
    | succ i => exact ih i y y' (by simpa using h) (by simpa using h')
theorem WkMs.refl : ∀ l, WkMs l l
  | [] => .nil
  | a :: l => .cons (.refl a) (WkMs.refl l)
theorem canonF_spec {β : Type} {ρ : Nat → Nat} {b : β} : ∀ (fr : List TV) (ks : List (Nat × SK)) (i : Nat) (k : List TV → Option β), canonF ρ ks i fr k = some b →
    ∃ fr', k fr' = some b ∧ WkMs ((dns fr).map (AV.ren ρ)) (dns fr')
  | [], ks, i, k, h => by unfold canonF at h; exact ⟨[], h, .nil⟩
  | v :: fr, [], i, k, h => by
    unfold canonF at h
    obtain ⟨fr', h1, h2⟩ := canonF_spec fr [] (i + 1) _ h
    exact ⟨_, h1, .cons (.undef _) h2⟩
  | v :: fr, (t, sk) :: ks, i, k, h => by
    unfold canonF at h
    split at h
    · split at h
      · rename_i v' hv
        rw [forceV_eq] at h
        obtain ⟨fr', h1, h2⟩ := canonF_spec fr ks (i + 1) _ h
        exact ⟨_, h1, .cons (conv_spec hv) h2⟩
      · cases h
    · obtain ⟨fr', h1, h2⟩ := canonF_spec fr ((t, sk) :: ks) (i + 1) _ h
      exact ⟨_, h1, .cons (.undef _) h2⟩
def convs {β : Type} (ρ : Nat → Nat) : List SK → List TV → (List TV → Option β) → Option β
  | [], [], k => k []
  | sk :: ks, v :: vs, k => match conv ρ sk v with
    | some v => forceV v fun v => convs ρ ks vs fun vs => k (v :: vs)
    | none => none
  | _, _, _ => none
theorem convs_spec {β : Type} {ρ : Nat → Nat} {b : β} : ∀ (ks : List SK) (vs : List TV) (k : List TV → Option β), convs ρ ks vs k = some b → ∃ vs', k vs' = some b ∧ WkMs ((dns vs).map (AV.ren ρ)) (dns vs')
  | [], [], k, h => ⟨[], h, .nil⟩
  | sk :: ks, v :: vs, k, h => by
    unfold convs at h
    split at h
    · rename_i v' hv
      rw [forceV_eq] at h
      obtain ⟨vs', h1, h2⟩ := convs_spec ks vs _ h
      exact ⟨_, h1, .cons (conv_spec hv) h2⟩
    · cases h
  | [], _ :: _, k, h => by simp [convs] at h
  | _ :: _, [], k, h => by simp [convs] at h
def trenO (ρ : Nat → Nat) : TOb → TOb
  | .cells cs t l => .cells (cs.map (tren ρ)) t l
  | o => o
theorem dnO_tren (ρ : Nat → Nat) (o : TOb) : dnO (trenO ρ o) = renO ρ (dnO o) := by
  cases o with
  | cells cs t l =>
    simp only [trenO, dnO, renO, dns_map, List.map_map]
    congr 1
    apply List.map_congr_left
    intro v _
    exact dn_tren ρ v
  | tarr ty xs t l =>
    simp only [trenO, dnO, renO]
    congr 1
    have : ∀ l : List AV, (∀ a ∈ l, a.mark = none) → l.map (AV.ren ρ) = l := by
      intro l
      induction l with
      | nil => intro _; rfl
      | cons a l ih => intro h; rw [List.map_cons, ren_none ρ (h a (by simp)), ih fun b hb => h b (by simp [hb])]
    exact (this _ (flat_mark xs)).symm
def canonO {β : Type} (ρ : Nat → Nat) (k : Option (List SK)) (o : TOb) (c : TOb → Option β) : Option β := match k with
  | none => match o with
    | .cells cs t l => forceL (cs.map (tren ρ)) fun cs => c (.cells cs t l)
    | o => c o
  | some sk => match o with
    | .cells cs t l => convs ρ sk cs fun cs => c (.cells cs t l)
    | _ => none
theorem canonO_spec {β : Type} {ρ : Nat → Nat} {k : Option (List SK)} {o : TOb} {c : TOb → Option β} {b : β} (h : canonO ρ k o c = some b) : ∃ o', c o' = some b ∧ WkO (renO ρ (dnO o)) (dnO o') := by
  unfold canonO at h
  split at h
  · cases o with
    | cells cs t l =>
      dsimp only at h
      rw [forceL_eq] at h
      exact ⟨trenO ρ (.cells cs t l), h, by rw [dnO_tren]; exact .refl _⟩
    | tarr ty xs t l =>
      exact ⟨trenO ρ (.tarr ty xs t l), h, by rw [dnO_tren]; exact .refl _⟩
  · rename_i sk
    split at h
    · rename_i cs t l
      obtain ⟨vs', h1, h2⟩ := convs_spec sk cs _ h
      refine ⟨_, h1, fun hl => ⟨rfl, hl, ?_, ?_⟩⟩
      · exact h2.len
      · exact h2.get
    · cases h
def lookN {α : Type} : List (Nat × α) → Nat → Option α
  | [], _ => none
  | (a, x) :: l, t => if t = a then some x else lookN l t
/-- the first n0 objects, then those of the list; no others -/
def canonS {β : Type} (ρ : Nat → Nat) (base : List (Nat × List SK)) : (n : Nat) → Nat → List OK → List TOb → (List TOb → Option β) → Option β
  | n + 1, i, ks, o :: s, k => canonO ρ (lookN base i) o fun o => canonS ρ base n (i + 1) ks s fun s => k (o :: s)
  | 0, i, .same :: ks, o :: s, k => canonO ρ none o fun o => canonS ρ base 0 (i + 1) ks s fun s => k (o :: s)
  | 0, i, .cells sk :: ks, o :: s, k => canonO ρ (some sk) o fun o => canonS ρ base 0 (i + 1) ks s fun s => k (o :: s)
  | 0, _, [], _, k => k []
  | _, _, _, [], _ => none
theorem canonS_spec {β : Type} {ρ : Nat → Nat} {base : List (Nat × List SK)} {b : β} : ∀ (s : List TOb) (n i : Nat) (ks : List OK) (k : List TOb → Option β), canonS ρ base n i ks s k = some b →
    ∃ s', k s' = some b ∧ s'.length ≤ s.length ∧ n ≤ s'.length ∧ WkS (((dnS s).map (renO ρ)).take s'.length) (dnS s')
  | [], n, i, ks, k, h => by
    cases n with
    | zero => cases ks with
      | nil => unfold canonS at h; exact ⟨[], h, by simp, by simp, by exact .refl _⟩
      | cons a ks => cases a <;> (unfold canonS at h; cases h)
    | succ n => unfold canonS at h; cases h
  | o :: s, n, i, ks, k, h => by
    have fin : ∀ {kk : Option (List SK)} {n' : Nat} {ks' : List OK}, canonO ρ kk o (fun o => canonS ρ base n' (i + 1) ks' s fun s => k (o :: s)) = some b → ∃ s', k s' = some b ∧ s'.length ≤ (o :: s).length ∧ n' + 1 ≤ s'.length ∧ WkS (((dnS (o :: s)).map (renO ρ)).take s'.length) (dnS s') := by
      intro kk n' ks' h
      obtain ⟨o', h1, h2⟩ := canonO_spec h
      obtain ⟨s', h3, h4, h5, h6⟩ := canonS_spec s n' (i + 1) ks' _ h1
      refine ⟨o' :: s', h3, by simpa using h4, by simpa using h5, ?_⟩
      show WkS (renO ρ (dnO o) :: ((dnS s).map (renO ρ)).take s'.length) (dnO o' :: dnS s')
      refine ⟨by simpa using h6.1, fun j a a' ha ha' => ?_⟩
      cases j with
      | zero => simp at ha ha'; subst ha; subst ha'; exact h2
      | succ j => exact h6.2 j a a' (by simpa using ha) (by simpa using ha')
    cases n with
    | zero => cases ks with
      | nil => unfold canonS at h; exact ⟨[], h, by simp, by simp, by simp; exact .refl _⟩
      | cons a ks =>
        cases a with
        | same =>
          unfold canonS at h
          obtain ⟨s', h1, h2, h3, h4⟩ := fin h
          exact ⟨s', h1, h2, by omega, h4⟩
        | cells sk =>
          unfold canonS at h
          obtain ⟨s', h1, h2, h3, h4⟩ := fin h
          exact ⟨s', h1, h2, by omega, h4⟩
    | succ n => unfold canonS at h; exact fin h
/-! pointers -/
mutual
def tbelow (n : Nat) : TV → Bool
  | .ref i _ => decide (i < n)
  | .arr i _ => decide (i < n)
  | .ap i _ _ _ => decide (i < n)
  | .ll cs _ _ => tbelows n cs
  | .ep cs _ => tbelows n cs
  | .func _ cs => tbelows n cs
  | .agg cs => tbelows n cs
  | .tup cs => tbelows n cs
  | .undef | .int .. | .bool _ | .tt | .ff | .str _ | .nilp | .tl .. | .nilf | .mapn => true
  | .mapr i => decide (i < n)
def tbelows (n : Nat) : List TV → Bool
  | [] => true
  | a :: as => tbelow n a && tbelows n as
end
theorem belows_all {n : Nat} : ∀ {l : List AV}, (∀ a ∈ l, a.refs n = true) → belows n l = true
  | [], _ => rfl
  | a :: l, h => by
    have h1 := h a List.mem_cons_self
    have h2 : belows n l = true := belows_all fun b hb => h b (List.mem_cons_of_mem _ hb)
    simp only [belows, h1, h2, Bool.and_self]
mutual
theorem cellsOf_refs (n : Nat) : ∀ (t : Ty) (x : El t), ∀ a ∈ cellsOf t x, a.refs n = true
  | .int _, _, a, h => by simp only [cellsOf, List.mem_singleton] at h; subst h; rfl
  | .bool, _, a, h => by simp only [cellsOf, List.mem_singleton] at h; subst h; rfl
  | .str, _, a, h => by simp only [cellsOf, List.mem_singleton] at h; subst h; rfl
  | .list e, xs, a, h => by
    simp only [cellsOf, List.mem_singleton] at h
    subst h
    simp only [AV.refs]
    refine belows_all fun b hb => ?_
    obtain ⟨x, _, hx⟩ := List.mem_flatMap.1 hb
    exact cellsOf_refs n e x b hx
  | .st fs, x, a, h => by simp only [cellsOf] at h; exact cellsOfs_refs n fs x a h
theorem cellsOfs_refs (n : Nat) : ∀ (ts : List Ty) (x : Els ts), ∀ a ∈ cellsOfs ts x, a.refs n = true
  | [], _, a, h => by simp [cellsOfs] at h
  | t :: ts, x, a, h => by
    simp only [cellsOfs, List.mem_append] at h
    rcases h with h | h
    · exact cellsOf_refs n t x.1 a h
    · exact cellsOfs_refs n ts x.2 a h
end
theorem flat_refs (n : Nat) {t : Ty} (xs : List (El t)) : belows n (xs.flatMap (cellsOf t)) = true := by
  refine belows_all fun b hb => ?_
  obtain ⟨x, _, hx⟩ := List.mem_flatMap.1 hb
  exact cellsOf_refs n t x b hx
mutual
theorem tbelow_spec {n : Nat} : ∀ (v : TV), tbelow n v = true → (dn v).refs n = true
  | .undef, _ => rfl
  | .int .., _ => rfl
  | .bool _, _ => rfl
  | .tt, _ => rfl
  | .ff, _ => rfl
  | .str _, _ => rfl
  | .nilp, _ => rfl
  | .nilf, _ => rfl
  | .mapn, _ => rfl
  | .mapr i, h => by simpa only [tbelow, dn, AV.refs] using h
  | .tl t xs g, _ => flat_refs n xs
  | .ref i _, h => by simpa only [tbelow, dn, AV.refs] using h
  | .arr i _, h => by simpa only [tbelow, dn, AV.refs] using h
  | .ap i _ _ _, h => by simpa only [tbelow, dn, AV.refs] using h
  | .ll cs _ _, h => by simp only [tbelow] at h; exact tbelows_spec cs h
  | .ep cs _, h => by simp only [tbelow] at h; exact tbelows_spec cs h
  | .func _ cs, h => by simp only [tbelow] at h; exact tbelows_spec cs h
  | .agg cs, h => by simp only [tbelow] at h; exact tbelows_spec cs h
  | .tup cs, h => by simp only [tbelow] at h; exact tbelows_spec cs h
theorem tbelows_spec {n : Nat} : ∀ (l : List TV), tbelows n l = true → belows n (dns l) = true
  | [], _ => rfl
  | a :: l, h => by
    simp only [tbelows, Bool.and_eq_true] at h
    simp only [dns, belows, tbelow_spec a h.1, tbelows_spec l h.2, Bool.and_self]
end
def sbelow (n : Nat) : List TOb → Bool
  | [] => true
  | .cells cs _ l :: s => (!l || tbelows n cs) && sbelow n s
  | .tarr .. :: s => sbelow n s
theorem sbelow_spec {n : Nat} : ∀ (s : List TOb), sbelow n s = true → (dnS s).all (fun o => !o.live || belows n o.cs) = true
  | [], _ => rfl
  | .cells cs t l :: s, h => by
    simp only [sbelow, Bool.and_eq_true, Bool.or_eq_true] at h
    have ih := sbelow_spec s h.2
    simp only [dnS, List.map_cons, List.all_cons, Bool.and_eq_true, Bool.or_eq_true] at ih ⊢
    refine ⟨?_, ih⟩
    rcases h.1 with h1 | h1
    · exact .inl h1
    · exact .inr (tbelows_spec cs h1)
  | .tarr ty xs t l :: s, h => by
    simp only [sbelow] at h
    have ih := sbelow_spec s h
    simp only [dnS, List.map_cons, List.all_cons, Bool.and_eq_true, Bool.or_eq_true] at ih ⊢
    exact ⟨.inr (flat_refs n xs), ih⟩
/-- which marks get which -/
def marksOf : List (Nat × SK) → List TV → List (Nat × Nat)
  | [], _ => []
  | (t, .own _ m _ _) :: ks, fr => match tmark (fr.getD t .undef) with
    | some m' => (m', m) :: marksOf ks fr
    | none => marksOf ks fr
  | _ :: ks, fr => marksOf ks fr
def marksC : List SK → List TV → List (Nat × Nat)
  | .own _ m _ _ :: ks, v :: vs => match tmark v with
    | some m' => (m', m) :: marksC ks vs
    | none => marksC ks vs
  | _ :: ks, _ :: vs => marksC ks vs
  | _, _ => []
def marksO : List OK → List TOb → List (Nat × Nat)
  | .cells sk :: ks, .cells cs _ _ :: s => marksC sk cs ++ marksO ks s
  | _ :: ks, _ :: s => marksO ks s
  | _, _ => []
def marksB : List (Nat × List SK) → List TOb → List (Nat × Nat)
  | [], _ => []
  | (i, sk) :: l, s => match s[i]? with
    | some (.cells cs _ _) => marksC sk cs ++ marksB l s
    | _ => marksB l s
def canon0 {β : Type} (n0 : Nat) (lh : LH) (fr : List TV) (s : List TOb) (k : List TV → List TOb → Option β) : Option β :=
  let ρ := rhoOf (marksOf lh.keep fr ++ marksB lh.base s ++ marksO lh.objs (s.drop n0))
  canonF ρ lh.keep 0 fr fun fr => canonS ρ lh.base n0 0 lh.objs s fun s => match tbelows s.length fr && sbelow s.length s with
    | true => k fr s
    | false => none
theorem canon0_spec {β : Type} {n0 : Nat} {lh : LH} {fr : List TV} {s : List TOb} {k : List TV → List TOb → Option β} {b : β} (h : canon0 n0 lh fr s k = some b) :
    ∃ fr' s', k fr' s' = some b ∧ ∀ M G0 w0 a w, G0.n ≤ n0 → Rel M G0 w0 (dns fr) (dnS s) a w → Rel M G0 w0 (dns fr') (dnS s') a w := by
  unfold canon0 at h
  dsimp only at h
  obtain ⟨fr', h1, h2⟩ := canonF_spec _ _ _ _ h
  obtain ⟨s', h3, h4, h5, h6⟩ := canonS_spec _ _ _ _ _ h1
  split at h3
  · rename_i hb
    rw [Bool.and_eq_true] at hb
    refine ⟨fr', s', h3, fun M G0 w0 a w hn hr => ?_⟩
    have r1 := hr.ren (rhoOf (marksOf lh.keep fr ++ marksB lh.base s ++ marksO lh.objs (s.drop n0)))
    -- the store: first what is kept gets its forms, then the rest goes
    let ρ := rhoOf (marksOf lh.keep fr ++ marksB lh.base s ++ marksO lh.objs (s.drop n0))
    have hw : WkS ((dnS s).map (renO ρ)) (dnS s' ++ ((dnS s).map (renO ρ)).drop s'.length) := by
      have e : (dnS s).map (renO ρ) = ((dnS s).map (renO ρ)).take s'.length ++ ((dnS s).map (renO ρ)).drop s'.length := (List.take_append_drop _ _).symm
      have hl : (((dnS s).map (renO ρ)).take s'.length).length = (dnS s').length := h6.1.symm
      refine ⟨by simp [dnS_length]; omega, fun i o o' ho ho' => ?_⟩
      rw [e] at ho
      rcases Nat.lt_or_ge i (dnS s').length with hi | hi
      · rw [List.getElem?_append_left (by rw [hl]; exact hi)] at ho
        rw [List.getElem?_append_left hi] at ho'
        exact h6.2 i o o' ho ho'
      · rw [List.getElem?_append_right (by rw [hl]; exact hi), hl] at ho
        rw [List.getElem?_append_right hi, ho] at ho'
        cases ho'
        exact .refl _
    obtain ⟨G, g1, g2, g3⟩ := r1
    have r2 : Rel M G0 w0 (dns fr') (dnS s' ++ ((dnS s).map (renO ρ)).drop s'.length) a w := ⟨G, g1, g2.weaken hw, g3.weaken h2.F⟩
    refine r2.cut (n := s'.length) (by omega) (by simp [dnS_length]) ?_ (tbelows_spec _ hb.1)
    unfold cutStore
    have e2 : (dnS s' ++ ((dnS s).map (renO ρ)).drop s'.length).take s'.length = dnS s' := by
      rw [List.take_append_of_le_length (by rw [dnS_length]; exact Nat.le_refl _), List.take_of_length_le (by rw [dnS_length]; exact Nat.le_refl _)]
    rw [e2, if_pos (sbelow_spec _ hb.2)]
  · cases h3
/-- at a loop's head: as it stands, if nothing is said of it -/
def canon {β : Type} (n0 : Nat) (lh : LH) (fr : List TV) (s : List TOb) (k : List TV → List TOb → Option β) : Option β := match lh.keep with
  | [] => k fr s
  | _ :: _ => canon0 n0 lh fr s k
theorem canon_spec {β : Type} {n0 : Nat} {lh : LH} {fr : List TV} {s : List TOb} {k : List TV → List TOb → Option β} {b : β} (h : canon n0 lh fr s k = some b) :
    ∃ fr' s', k fr' s' = some b ∧ ∀ M G0 w0 a w, G0.n ≤ n0 → Rel M G0 w0 (dns fr) (dnS s) a w → Rel M G0 w0 (dns fr') (dnS s') a w := by
  unfold canon at h
  split at h
  · exact ⟨fr, s, h, fun _ _ _ _ _ _ hr => hr⟩
  · exact canon0_spec h
end
end Go.Proofs.YtmacghaihlfcpaaGreat.Abs

namespace Go.Proofs.YtmacghaihlfcpaaGreat.Abs
noncomputable section
open Go Go.ChangeShapes Go.WideShapes Go.ChangeAt Go.RowKit
set_option linter.unusedVariables false
set_option linter.unusedSimpArgs false

/-- rows that are made here, as lists from a region on -/
def frz1 {β : Type} (t : Nat) (fr : List TV) (s : List TOb) (k : List TV → List TOb → Option β) : Option β := match fr.getD t .undef with
  | .arr i n => match s[i]? with
    | some (.tarr ty xs ot true) => if ot = mapT then none else cond (Nat.beq n xs.length) (setK fr t (.tl ty xs .unk) fun fr => forceS (s.set i (.tarr ty xs ot false)) fun s => k fr s) none
    | _ => none
  | _ => none
def frzK {β : Type} (id : Nat) : List (Nat × Nat) → List TV → List TOb → (List TV → List TOb → Option β) → Option β
  | [], fr, s, k => k fr s
  | (j, t) :: l, fr, s, k => match Nat.beq j id with
    | true => frz1 t fr s fun fr s => frzK id l fr s k
    | false => frzK id l fr s k
theorem frz1_spec {β : Type} {t : Nat} {fr : List TV} {s : List TOb} {k : List TV → List TOb → Option β} {b : β} (h : frz1 t fr s k = some b) : ∃ fr' s', k fr' s' = some b ∧ ∀ M G0 w0 a w, Rel M G0 w0 (dns fr) (dnS s) a w → Rel M G0 w0 (dns fr') (dnS s') a w := by
  unfold frz1 at h
  split at h
  · rename_i i n ht
    split at h
    · rename_i ty xs ot hs
      split at h
      · cases h
      rename_i hot
      have h' : Nat.beq n xs.length = true ∧ setK fr t (.tl ty xs .unk) (fun fr => forceS (s.set i (.tarr ty xs ot false)) fun s => k fr s) = some b := by
        cases hb : Nat.beq n xs.length with
        | true => rw [hb] at h; exact ⟨rfl, h⟩
        | false => rw [hb] at h; cases h
      obtain ⟨h1, h2⟩ := h'
      have h1 := Nat.eq_of_beq_eq_true h1
      rw [setK_eq, forceS_eq] at h2
      refine ⟨_, _, h2, fun M G0 w0 a w hr => ?_⟩
      have := Rel.freeze (t := t) (i := i) (n := n) (ob := ⟨xs.flatMap (cellsOf ty), ot, true⟩) (by rw [dnS_get, hs]; rfl) rfl hot (by rw [dns_getD, ht]; rfl) hr
      rw [dns_set, dnS_set]
      simp only [plains_none _ (flat_mark xs)] at this
      rw [h1] at this
      exact this
    · cases h
  · cases h
theorem frzK_spec {β : Type} {id : Nat} {b : β} : ∀ (l : List (Nat × Nat)) (fr : List TV) (s : List TOb) (k : List TV → List TOb → Option β), frzK id l fr s k = some b → ∃ fr' s', k fr' s' = some b ∧ ∀ M G0 w0 a w, Rel M G0 w0 (dns fr) (dnS s) a w → Rel M G0 w0 (dns fr') (dnS s') a w
  | [], fr, s, k, h => ⟨fr, s, h, fun _ _ _ _ _ h => h⟩
  | (j, t) :: l, fr, s, k, h => by
    simp only [frzK] at h
    split at h
    · obtain ⟨fr1, s1, h1, h2⟩ := frz1_spec h
      obtain ⟨fr2, s2, h3, h4⟩ := frzK_spec l fr1 s1 k h1
      exact ⟨fr2, s2, h3, fun M G0 w0 a w hr => h4 M G0 w0 a w (h2 M G0 w0 a w hr)⟩
    · exact frzK_spec l fr s k h
def nloops : Code → Nat
  | .seq a b => nloops a + nloops b
  | .cond _ a b => nloops a + nloops b
  | .block _ c => nloops c
  | .loop c => nloops c + 1
  | .rangeFunc _ _ a b => nloops a + nloops b
  | .scope c => nloops c
  | _ => 0
def iterF {β : Type} (body : (List TV → List TOb → Option β) → List TV → List TOb → Option β) : Nat → List TV → List TOb → Option β
  | 0, _, _ => none
  | n + 1, fr, s => body (iterF body n) fr s
/-- a region whose order is open; what it tells is in TK -/
abbrev DrawT := Sc → Cfg → (β : Type) → Nat → Array Oper → List TV → List TOb → (List TV → List TOb → Option β) → Option β
/-- a place where ways meet -/
def jmp {β : Type} : Nat → (List TV → List TOb → Option β) → List TV → List TOb → Option β
  | 0, _, _, _ => none
  | _ + 1, R, fr, s => R fr s
def jnK {β : Type} (N n0 id : Nat) : List (Nat × LH) → List TV → List TOb → (List TV → List TOb → Option β) → Option β
  | [], fr, s, R => R fr s
  | (j, lh) :: l, fr, s, R => match Nat.beq j id with
    | true => canon n0 lh fr s fun fr s => jmp N R fr s
    | false => jnK N n0 id l fr s R
theorem jnK_spec {β : Type} {N n0 id : Nat} {R : List TV → List TOb → Option β} {b : β} : ∀ (l : List (Nat × LH)) (fr : List TV) (s : List TOb), jnK N n0 id l fr s R = some b → ∃ fr' s', R fr' s' = some b ∧ ∀ M G0 w0 a w, G0.n ≤ n0 → Rel M G0 w0 (dns fr) (dnS s) a w → Rel M G0 w0 (dns fr') (dnS s') a w
  | [], fr, s, h => ⟨fr, s, h, fun _ _ _ _ _ _ h => h⟩
  | (j, lh) :: l, fr, s, h => by
    simp only [jnK] at h
    split at h
    · obtain ⟨fr1, s1, h1, h2⟩ := canon_spec h
      cases N with
      | zero => simp [jmp] at h1
      | succ N => exact ⟨fr1, s1, h1, h2⟩
    · exact jnK_spec l fr s h
def regK {β : Type} (D : DrawT) (sc : Sc) (cf : Cfg) (id : Nat) (A : Array Oper) (dr : Bool) (k : Exit → List TV → List TOb → Option β) (fr : List TV) (s : List TOb) : Option β := frzK id sc.frz fr s fun fr s => match dr with
  | true => D sc cf β id A fr s fun fr s => k .normal fr s
  | false => runOps sc cf A A.toList fr s fun fr s => k .normal fr s
def regC {β : Type} (D : DrawT) (sc : Sc) (cf : Cfg) (c : Code) (k : Exit → List TV → List TOb → Option β) : List TV → List TOb → Option β := match c with
  | .region id A dr => regK D sc cf id A dr k
  | _ => fun _ _ => none
def run (D : DrawT) {β : Type} (sc : Sc) (cf : Cfg) : Code → List LH → List TV → List TOb → (Exit → List TV → List TOb → Option β) → Option β
  | .skip, _, fr, s, k => k .normal fr s
  | .seq a b, hs, fr, s, k => run D sc cf a hs fr s fun e fr s => match e with
    | .normal => run D sc cf b (hs.drop (nloops a)) fr s k
    | e => k e fr s
  | .cond c a b, hs, fr, s, k => match tEval fr c with
    | .tt => run D sc cf a hs fr s k
    | .ff => run D sc cf b (hs.drop (nloops a)) fr s k
    | .bool t => match c with
      | .tmp i => cond t (setK fr i .tt fun fr => run D sc cf a hs fr s k) (setK fr i .ff fun fr => run D sc cf b (hs.drop (nloops a)) fr s k)
      | _ => none
    | _ => none
  | .block id c, hs, fr, s, k => run D sc cf c hs fr s fun e fr s => match e with
    | .exit i => if i = id then k .normal fr s else k (.exit i) fr s
    | e => k e fr s
  | .exit id, _, fr, s, k => k (.exit id) fr s
  | .ret, _, fr, s, k => k .ret fr s
  | .region id A dr, _, fr, s, k => jnK cf.N cf.n0 id sc.joins fr s (regK D sc cf id A dr k)
  | .loop c, h :: hs, fr, s, k => canon cf.n0 h fr s fun fr s => iterF (fun K fr s => run D sc cf c hs fr s fun e fr s => match e with
      | .normal => canon cf.n0 h fr s fun fr s => K fr s
      | e => k e fr s) cf.N fr s
  | _, _, _, _, _ => none

section
variable {n0 : Nat} {P : Program} {Q : AQ}
/-- a loop that is entered -/
def AWL (n0 : Nat) (P : Program) (c : Code) (fr : List AV) (s : List Ob) (Q : AQ) : Prop :=
  ∀ M G0 w0, Pre P n0 M G0 w0 → ∀ a w, Rel M G0 w0 fr s a w → ∀ b k cs, ∃ e a' w', QC M G0 w0 Q e a' w' ∧ Arrives P (lone (b.at a (.code c :: .inLoop c :: k)) cs w) b k cs e a' w'
theorem AWL.loop {c : Code} {fr : List AV} {s : List Ob} (h : AWL n0 P c fr s Q) : AW n0 P (.loop c) fr s Q := by
  intro M G0 w0 hM a w hr b k cs
  obtain ⟨e, a', w', hq, harr⟩ := h M G0 w0 hM a w hr b k cs
  exact ⟨e, a', w', hq, .of_steps (.one step_loop) harr⟩
/-- one round of a loop -/
theorem AWL_unroll {c : Code} {fr : List AV} {s : List Ob} (h : AW n0 P c fr s (aThen (fun fr' s' => ∃ fr2 s2, (∀ M G0 w0 a w, G0.n ≤ n0 → Rel M G0 w0 fr' s' a w → Rel M G0 w0 fr2 s2 a w) ∧ AWL n0 P c fr2 s2 Q) Q)) : AWL n0 P c fr s Q := by
  intro M G0 w0 hM a w hr b k cs
  obtain ⟨e, a₁, w₁, ⟨he, fr1, s1, hq, hr1⟩, harr⟩ := h M G0 w0 hM a w hr b (.inLoop c :: k) cs
  cases e with
  | normal =>
    obtain ⟨fr2, s2, hcv, hnext⟩ := hq
    obtain ⟨e₂, a₂, w₂, hq₂, harr₂⟩ := hnext M G0 w0 hM a₁ w₁ (hcv M G0 w0 a₁ w₁ hM.2 hr1) b k cs
    exact ⟨e₂, a₂, w₂, hq₂, .of_steps (Steps.trans harr (.one step_inLoop)) harr₂⟩
  | exit id => exact ⟨_, a₁, w₁, ⟨he, fr1, s1, hq, hr1⟩, .pass (x := .inLoop c) rfl (fun _ _ => .inl (by simp)) harr⟩
  | goto l => exact ⟨_, a₁, w₁, ⟨he, fr1, s1, hq, hr1⟩, .pass (x := .inLoop c) rfl (fun _ _ => .inl (by simp)) harr⟩
  | ret => exact ⟨_, a₁, w₁, ⟨he, fr1, s1, hq, hr1⟩, .pass (x := .inLoop c) rfl (fun _ _ => .inl (by simp)) harr⟩
  | panic ch => exact he.elim
  | outgrown => exact he.elim
theorem AW_conv {c : Code} {fr fr2 : List AV} {s s2 : List Ob} (hcv : ∀ M G0 w0 a w, G0.n ≤ n0 → Rel M G0 w0 fr s a w → Rel M G0 w0 fr2 s2 a w) (h : AW n0 P c fr2 s2 Q) : AW n0 P c fr s Q :=
  fun M G0 w0 hM a w hr => h M G0 w0 hM a w (hcv M G0 w0 a w hM.2 hr)
end
def DrawSound (D : DrawT) : Prop := ∀ (sc : Sc) (cf : Cfg) (β : Type) (id : Nat) (A : Array Oper) (fr : List TV) (s : List TOb) (k : List TV → List TOb → Option β) (b : β), CallSound sc.P cf.C →
  D sc cf β id A fr s k = some b → ∃ F S, k F S = some b ∧ AW cf.n0 sc.P (.region id A true) (dns fr) (dnS s) (Ex .normal F S)
theorem run_sound {D : DrawT} (hD : DrawSound D) {β : Type} {sc : Sc} {cf : Cfg} (hC : CallSound sc.P cf.C) {b : β} : ∀ (c : Code) (hs : List LH) (fr : List TV) (s : List TOb) (k : Exit → List TV → List TOb → Option β), run D sc cf c hs fr s k = some b →
    ∃ e F S, k e F S = some b ∧ AW cf.n0 sc.P c (dns fr) (dnS s) (Ex e F S)
  | .skip, hs, fr, s, k, h => ⟨.normal, fr, s, h, AW_skip ⟨rfl, rfl, rfl⟩⟩
  | .exit id, hs, fr, s, k, h => ⟨.exit id, fr, s, h, AW_exit ⟨rfl, rfl, rfl⟩⟩
  | .ret, hs, fr, s, k, h => ⟨.ret, fr, s, h, AW_ret ⟨rfl, rfl, rfl⟩⟩
  | .seq x y, hs, fr, s, k, h => by
    simp only [run] at h
    obtain ⟨e, F, S, h1, h2⟩ := run_sound hD hC x hs fr s _ h
    cases e with
    | normal =>
      obtain ⟨e2, F2, S2, h3, h4⟩ := run_sound hD hC y _ F S k h1
      refine ⟨e2, F2, S2, h3, AW_seq (h2.mono ?_)⟩
      rintro e fr s ⟨rfl, rfl, rfl⟩
      exact h4
    | _ =>
      refine ⟨_, F, S, h1, AW_seq (h2.mono ?_)⟩
      rintro e fr s ⟨rfl, rfl, rfl⟩
      exact ⟨rfl, rfl, rfl⟩
  | .cond c x y, hs, fr, s, k, h => by
    simp only [run] at h
    split at h
    · rename_i hc
      obtain ⟨e, F, S, h1, h2⟩ := run_sound hD hC x hs fr s k h
      exact ⟨e, F, S, h1, AW_cond (t := true) (by rw [← dn_tEval, hc]; rfl) h2⟩
    · rename_i hc
      obtain ⟨e, F, S, h1, h2⟩ := run_sound hD hC y _ fr s k h
      exact ⟨e, F, S, h1, AW_cond (t := false) (by rw [← dn_tEval, hc]; rfl) h2⟩
    · rename_i t hc
      split at h
      · rename_i i
        have hc' : fr.getD i .undef = .bool t := (nthR_eq _ _).symm.trans hc
        simp only [setK_eq] at h
        cases t with
        | true =>
          obtain ⟨e, F, S, h1, this⟩ := run_sound hD hC x hs _ s k h
          rw [dns_set_same (by rw [hc']; rfl)] at this
          exact ⟨e, F, S, h1, AW_cond (t := true) (by rw [← dn_tEval, hc]; rfl) this⟩
        | false =>
          obtain ⟨e, F, S, h1, this⟩ := run_sound hD hC y _ _ s k h
          rw [dns_set_same (by rw [hc']; rfl)] at this
          exact ⟨e, F, S, h1, AW_cond (t := false) (by rw [← dn_tEval, hc]; rfl) this⟩
      · cases h
    · cases h
  | .block id c, hs, fr, s, k, h => by
    simp only [run] at h
    obtain ⟨e, F, S, h1, h2⟩ := run_sound hD hC c hs fr s _ h
    cases e with
    | exit i =>
      dsimp only at h1
      split at h1
      · rename_i hi
        refine ⟨.normal, F, S, h1, AW_block (h2.mono ?_)⟩
        rintro e fr s ⟨rfl, rfl, rfl⟩
        simp only [aBlock]
        rw [if_pos hi]
        exact ⟨rfl, rfl, rfl⟩
      · rename_i hi
        refine ⟨.exit i, F, S, h1, AW_block (h2.mono ?_)⟩
        rintro e fr s ⟨rfl, rfl, rfl⟩
        simp only [aBlock]
        rw [if_neg hi]
        exact ⟨rfl, rfl, rfl⟩
    | _ =>
      refine ⟨_, F, S, h1, AW_block (h2.mono ?_)⟩
      rintro e fr s ⟨rfl, rfl, rfl⟩
      exact ⟨rfl, rfl, rfl⟩
  | .region id A dr, hs, fr, s, k, h => by
    simp only [run] at h
    obtain ⟨fr, s, h, hcv0⟩ := jnK_spec _ _ _ h
    unfold regK at h
    obtain ⟨fr, s, h, hcv⟩ := frzK_spec _ _ _ _ h
    suffices hh : ∃ e F S, k e F S = some b ∧ AW cf.n0 sc.P (.region id A dr) (dns fr) (dnS s) (Ex e F S) by
      obtain ⟨e, F, S, g1, g2⟩ := hh
      exact ⟨e, F, S, g1, AW_conv (fun M G0 w0 a w hn hr => hcv M G0 w0 a w (hcv0 M G0 w0 a w hn hr)) g2⟩
    cases dr with
    | false =>
      obtain ⟨F, S, h1, h2⟩ := runOps_sound (n0 := cf.n0) hC (A := A) A.toList fr s _ h
      refine ⟨.normal, F, S, h1, ?_⟩
      have h2 := AW_region (id := id) (l := A.toList) (by simpa using h2)
      simpa using h2
    | true =>
      obtain ⟨F, S, h1, h2⟩ := hD sc cf β id A fr s _ b hC h
      exact ⟨.normal, F, S, h1, h2⟩
  | .loop c, [], fr, s, k, h => by simp only [run] at h; cases h
  | .loop c, lh :: hs, fr, s, k, h => by
    simp only [run] at h
    obtain ⟨fr1, s1, h1, hcv⟩ := canon_spec h
    have key : ∀ (n : Nat) (tfr : List TV) (ts : List TOb), iterF (fun K fr s => run D sc cf c hs fr s fun e fr s => match e with
        | .normal => canon cf.n0 lh fr s fun fr s => K fr s
        | e => k e fr s) n tfr ts = some b → ∃ e F S, k e F S = some b ∧ AWL cf.n0 sc.P c (dns tfr) (dnS ts) (Ex e F S) := by
      intro n
      induction n with
      | zero => intro tfr ts hn; simp only [iterF] at hn; cases hn
      | succ n ih =>
        intro tfr ts hn
        simp only [iterF] at hn
        obtain ⟨e, F, S, h2, h3⟩ := run_sound hD hC c hs tfr ts _ hn
        cases e with
        | normal =>
          obtain ⟨fr2, s2, h4, hcv2⟩ := canon_spec h2
          obtain ⟨e2, F2, S2, h5, h6⟩ := ih fr2 s2 h4
          refine ⟨e2, F2, S2, h5, AWL_unroll (h3.mono ?_)⟩
          rintro e fr s ⟨rfl, rfl, rfl⟩
          exact ⟨dns fr2, dnS s2, hcv2, h6⟩
        | _ =>
          refine ⟨_, F, S, h2, AWL_unroll (h3.mono ?_)⟩
          rintro e fr s ⟨rfl, rfl, rfl⟩
          exact ⟨rfl, rfl, rfl⟩
    obtain ⟨e, F, S, h5, h6⟩ := key cf.N fr1 s1 h1
    exact ⟨e, F, S, h5, AW_conv hcv h6.loop⟩
  | .rangeFunc .., hs, fr, s, k, h => by simp only [run] at h; cases h
  | .scope _, hs, fr, s, k, h => by simp only [run] at h; cases h
  | .label _, hs, fr, s, k, h => by simp only [run] at h; cases h
  | .goto _, hs, fr, s, k, h => by simp only [run] at h; cases h
  | .refuse _, hs, fr, s, k, h => by simp only [run] at h; cases h

/-! functions -/
def tResult (P : Program) (fr : List TV) (s : List TOb) : ResultVar → Option TV
  | .tmp t => some (tplain (fr.getD t .undef))
  | .cell a t => match fr.getD a .undef with
    | .ref i o => match s[i]? with
      | some (.cells cs ot l) => if l = true ∧ ot ≠ mapT then (tLoad P t cs o).map tplain else none
      | _ => none
    | _ => none
def tResults {β : Type} (P : Program) (fr : List TV) (s : List TOb) : List ResultVar → (List TV → Option β) → Option β
  | [], k => k []
  | r :: rs, k => match tResult P fr s r with
    | some v => forceV v fun v => tResults P fr s rs fun l => k (v :: l)
    | none => none
def softT : List TV → TV
  | [a] => a
  | l => .tup l
theorem tResult_spec {P : Program} {fr : List TV} {s : List TOb} {r : ResultVar} {v : TV} (h : tResult P fr s r = some v) : ∃ a, aResult (dns fr) (dnS s) P r = some a ∧ a.plain = dn v := by
  cases r with
  | tmp t =>
    simp only [tResult, Option.some.injEq] at h
    subst h
    exact ⟨_, rfl, by rw [dns_getD, dn_tplain]⟩
  | cell a t =>
    simp only [tResult] at h
    split at h
    · rename_i i o ha
      split at h
      · rename_i cs ot l hs
        split at h
        · rename_i hl
          obtain ⟨u, h1, rfl⟩ := map_some_eq h
          have ha' : (dns fr).getD a .undef = .ref i o := by rw [dns_getD, ha]; rfl
          refine ⟨dn u, ?_, by rw [dn_tplain]⟩
          simp only [aResult, ha', dnS_get, hs, Option.map_some, dnO]
          rw [if_pos hl]
          exact tLoad_spec h1
        · cases h
      · cases h
    · cases h
theorem tResults_spec {β : Type} {P : Program} {fr : List TV} {s : List TOb} {b : β} : ∀ (rs : List ResultVar) (k : List TV → Option β), tResults P fr s rs k = some b →
    ∃ l avs, k l = some b ∧ rs.mapM (aResult (dns fr) (dnS s) P) = some avs ∧ avs.map AV.plain = dns l
  | [], k, h => ⟨[], [], h, by simp, rfl⟩
  | r :: rs, k, h => by
    unfold tResults at h
    split at h
    · rename_i v hv
      rw [forceV_eq] at h
      obtain ⟨a, h1, h2⟩ := tResult_spec hv
      obtain ⟨l, avs, h3, h4, h5⟩ := tResults_spec rs _ h
      refine ⟨v :: l, a :: avs, h3, ?_, by simp only [List.map_cons, dns, h2, h5]⟩
      simp only [List.mapM_cons, h1, h4]
      rfl
    · cases h
/-- a function's end: what it tells, and the store without its own objects, if nothing tells of them -/
def fin {β : Type} (P : Program) (n0 : Nat) (rs : List ResultVar) (k : TV → List TOb → Option β) (e : Exit) (fr : List TV) (s : List TOb) : Option β :=
  match e with
  | .normal | .ret => if n0 ≤ s.length then tResults P fr s rs fun l => match tbelow n0 (softT l) && sbelow n0 (s.take n0) with
      | true => k (softT l) (s.take n0)
      | false => k (softT l) s
    else none
  | _ => none
structure FH where
  loops : List LH
  arrs : List Nat
  heads : List (Nat × HDat)
  frz : List (Nat × Nat)
  wrap : Bool := false
  rd : List Nat := []
  joins : List (Nat × LH) := []
/-- a function, by its body -/
def callBody (D : DrawT) (P : Program) (N : Nat) (C : CallT) (fh : FH) (fn : Func) (c : Code) (β : Type) (args : List TV) (s : List TOb) (k : TV → List TOb → Option β) : Option β :=
  spine (args ++ List.replicate (fn.ntmps - args.length) (.tup [])) fun fr =>
    run D ⟨P, fh.arrs, fh.heads, fh.frz, fh.wrap, fh.rd, fh.joins⟩ ⟨N, C, s.length⟩ c fh.loops fr s (fin P s.length fn.results.toList k)
theorem dns_append_rep (args : List TV) (n : Nat) : dns (args ++ List.replicate n (.tup [])) = dns args ++ List.replicate n (.tuple []) := by
  rw [dns_app, dns_map (List.replicate n (.tup []))]
  simp [dn, dns]
def retE : Exit → Prop
  | .normal | .ret => True
  | _ => False
def resT : List AV → AV
  | [a] => a.plain
  | l => .tuple (l.map AV.plain)
theorem plains_dns {avs : List AV} {l : List TV} (h : avs.map AV.plain = dns l) : resT avs = dn (softT l) := by
  match avs, l, h with
  | [], [], _ => rfl
  | [a], [v], h => simp only [List.map_cons, List.map_nil, dns, List.cons.injEq, and_true] at h; exact h
  | a :: a2 :: avs, v :: v2 :: l, h => show AV.tuple _ = .tuple _; rw [h]
  | [], _ :: _, h => simp [dns] at h
  | _ :: _, [], h => simp [dns] at h
  | [_], _ :: _ :: _, h => simp [dns] at h
  | _ :: _ :: _, [_], h => simp [dns] at h
theorem fin_spec {β : Type} {P : Program} {n0 : Nat} {rs : List ResultVar} {k : TV → List TOb → Option β} {e : Exit} {fr : List TV} {s : List TOb} {b : β} (h : fin P n0 rs k e fr s = some b) :
    retE e ∧ ∃ r s' m avs, k r s' = some b ∧ rs.mapM (aResult (dns fr) (dnS s) P) = some avs ∧ resT avs = dn r ∧
      n0 ≤ m ∧ m ≤ s.length ∧ ((dn r).refs m = true ∧ cutStore m (dnS s) = some (dnS s') ∨ m = s.length ∧ s' = s) := by
  have main : ∀ {k'}, n0 ≤ s.length → (tResults P fr s rs k' = some b) → (k' = fun l => match tbelow n0 (softT l) && sbelow n0 (s.take n0) with
    | true => k (softT l) (s.take n0)
    | false => k (softT l) s) → ∃ r s' m avs, k r s' = some b ∧ rs.mapM (aResult (dns fr) (dnS s) P) = some avs ∧ resT avs = dn r ∧
      n0 ≤ m ∧ m ≤ s.length ∧ ((dn r).refs m = true ∧ cutStore m (dnS s) = some (dnS s') ∨ m = s.length ∧ s' = s) := by
    intro k' hn h hk
    obtain ⟨l, avs, h1, h2, h3⟩ := tResults_spec rs _ h
    subst hk
    dsimp only at h1
    split at h1
    · rename_i hb
      rw [Bool.and_eq_true] at hb
      refine ⟨softT l, s.take n0, n0, avs, h1, h2, plains_dns h3, Nat.le_refl _, hn, .inl ⟨tbelow_spec _ hb.1, ?_⟩⟩
      unfold cutStore
      have e2 : (dnS s).take n0 = dnS (s.take n0) := by simp [dnS, List.map_take]
      rw [e2, if_pos (sbelow_spec _ hb.2)]
    · exact ⟨softT l, s, s.length, avs, h1, h2, plains_dns h3, hn, Nat.le_refl _, .inr ⟨rfl, rfl⟩⟩
  cases e <;> simp only [fin] at h <;> first
    | (split at h
       · rename_i hn; exact ⟨trivial, main hn h rfl⟩
       · cases h)
    | cases h
/-- a function, by what its body brings about -/
theorem callBody_core {P : Program} {f : FuncId} {fn : Func} {c : Code} (hf : P.funcs[f]? = some fn) (hb : fn.body = some c)
    {args : List TV} {s : List TOb} (hm : ∀ a ∈ args, tmark a = none) {e1 : Exit} {F : List TV} {S : List TOb} {r : AV} {s' : List Ob} (he : retE e1)
    (hw : AW s.length P c (dns (args ++ List.replicate (fn.ntmps - args.length) (.tup []))) (dnS s) (Ex e1 F S))
    (post : ∀ (M : Nat → Prop) (G : Gh) (w : World) (G' : Gh) (w' : World) (a : Act), Sim M G (dnS s) w → Sim (MofS M G (dnS s) w) G' (dnS S) w' → Ext (MofS M G (dnS s) w) G w G' w' → FR (MofS M G (dnS s) w) G' w' (dns F) a →
      ∃ v, (results fn a.tmps).run P w' = .ok v w' ∧ ∃ v' G'', Ending.returned v = .returned v' ∧ VR (MofS M G (dnS s) w) G'' w' r v' ∧ Sim (MofS M G (dnS s) w) G'' s' w' ∧ Ext (MofS M G (dnS s) w) G w G'' w') : Ok P f (dns args) (dnS s) r s' := by
  intro M G w cargs hS hG hargs
  have hlen2 := hargs.length
  have hget : ∀ (k : Nat) (x : AV) (v : Value), (dns args)[k]? = some x → cargs[k]? = some v → VR0 G w x v := by
    intro k x v hx hv
    obtain ⟨u, h1, h2⟩ := hargs.get k x hx
    rw [hv] at h1
    cases h1
    exact h2
  have hla : (dns args).length = args.length := dns_length args
  have hfr : FR (MofS M G (dnS s) w) G w (dns (args ++ List.replicate (fn.ntmps - args.length) (.tup []))) { tmps := cargs.toArray ++ Array.replicate (fn.ntmps - cargs.toArray.size) undef, defers := [] } := by
    rw [dns_append_rep]
    refine ⟨rfl, by simp [hlen2, hla], fun t => ?_⟩
    rw [List.getD_eq_getElem?_getD, Array.getD_eq_getD_getElem?]
    rcases Nat.lt_or_ge t (dns args).length with h1 | h1
    · rw [List.getElem?_append_left h1, Array.getElem?_append_left (by simp; omega)]
      rw [List.getElem?_eq_getElem h1]
      have h2 : t < cargs.length := by omega
      rw [List.getElem?_toArray, List.getElem?_eq_getElem h2]
      refine ⟨hget t _ _ (List.getElem?_eq_getElem h1) (List.getElem?_eq_getElem h2), OwnC.of_plain ?_⟩
      simp only [Option.getD_some]
      have hx : (dns args)[t]? = some ((dns args)[t]) := List.getElem?_eq_getElem h1
      rw [dns_get] at hx
      obtain ⟨v, h3, h4⟩ := map_some_eq hx
      rw [← h4, dn_mark]
      exact hm v (List.mem_of_getElem? h3)
    · rw [List.getElem?_append_right h1, Array.getElem?_append_right (by simp; omega)]
      rw [List.getElem?_replicate, Array.getElem?_replicate]
      simp only [List.size_toArray, hlen2, hla]
      split
      · exact ⟨by simp only [Option.getD_some, VR0]; exact ⟨[], rfl, by simp only [VRs0]⟩, OwnC.of_plain rfl⟩
      · exact ⟨by simp only [Option.getD_none, VR0], OwnC.of_plain rfl⟩
  refine calls_of_wp hf hb (wp_mono (hw (MofS M G (dnS s) w) G w ⟨⟨fun b hb => .inl hb, hG⟩, by rw [hS.n, dnS_length]; exact Nat.le_refl _⟩ _ w ⟨G, Ext.refl _ _ _, hS.toS, hfr⟩) ?_)
  rintro e a w' ⟨_, fr, s1, ⟨rfl, rfl, rfl⟩, G', hE, hS', hf'⟩
  obtain ⟨v, k1, hfin2⟩ := post M G w G' w' a hS hS' hE hf'
  cases e
  case normal => exact ⟨hf'.defers, v, k1, hfin2⟩
  case ret => exact ⟨hf'.defers, v, k1, hfin2⟩
  all_goals exact False.elim he
theorem callBody_fin {P : Program} {f : FuncId} {fn : Func} {c : Code} (hf : P.funcs[f]? = some fn) (hb : fn.body = some c)
    {β : Type} {args : List TV} {s : List TOb} {k : TV → List TOb → Option β} {b : β} (hm : ∀ a ∈ args, tmark a = none) {e1 : Exit} {F : List TV} {S : List TOb} (hfin : fin P s.length fn.results.toList k e1 F S = some b)
    (hw : AW s.length P c (dns (args ++ List.replicate (fn.ntmps - args.length) (.tup []))) (dnS s) (Ex e1 F S)) :
    ∃ r s', Ok P f (dns args) (dnS s) (dn r) (dnS s') ∧ k r s' = some b := by
  obtain ⟨he, r, s', m, avs, hk, hmm, hr, hm1, hm2, hcut⟩ := fin_spec hfin
  refine ⟨r, s', callBody_core hf hb hm he hw ?_, hk⟩
  intro M G w G' w' a hS hS' hE hf'
  have hrm : (dn r).mark = none := by
    rw [← hr]
    match avs with
    | [] => rfl
    | [x] => exact AV.mark_plain x
    | _ :: _ :: _ => rfl
  have hres : ∃ v, (results fn a.tmps).run P w' = .ok v w' ∧ VR0 G' w' (dn r) v := by
    obtain ⟨vs, k1, k2⟩ := mapM_results hS' hf' fn.results.toList avs hmm
    have hrun : (results fn a.tmps).run P w' = .ok (if h : vs.toArray.size = 1 then vs.toArray[0] else .tuple vs.toArray) w' := by
      have e0 : results fn a.tmps = (do
        let vs ← fn.results.mapM (cResult a.tmps)
        pure (if h : vs.size = 1 then vs[0] else .tuple vs)) := rfl
      rw [e0, Sem.run_bind]
      have e1 : (fn.results.mapM (cResult a.tmps)).run P w' = .ok vs.toArray w' := by
        rw [show fn.results = fn.results.toList.toArray by simp, List.mapM_toArray]
        simp only [Sem.run_map, k1, Result.andThen_ok]
      rw [e1]
      rfl
    rw [hrun, ← hr]
    match avs, vs, k2 with
    | [x], vs, k2 =>
      simp only [VRs0] at k2
      obtain ⟨v, vs', rfl, k3, rfl⟩ := k2
      exact ⟨v, rfl, k3.plain⟩
    | [], vs, k2 =>
      simp only [VRs0] at k2
      subst k2
      exact ⟨_, rfl, by simp only [resT, VR0]; exact ⟨[], rfl, by simp only [List.map_nil, VRs0]⟩⟩
    | x :: y :: l, vs, k2 =>
      have hl := k2.length
      rw [dif_neg (by simp [hl])]
      exact ⟨_, rfl, by simp only [resT, VR0]; exact ⟨vs, rfl, k2.plain⟩⟩
  obtain ⟨v, k1, k2⟩ := hres
  have hGn : G.n = s.length := by rw [hS.n, dnS_length]
  have hGn' : G'.n = S.length := by rw [hS'.n, dnS_length]
  have hfin2 : ∃ v' G'', Ending.returned v = .returned v' ∧ VR (MofS M G (dnS s) w) G'' w' (dn r) v' ∧ Sim (MofS M G (dnS s) w) G'' (dnS s') w' ∧ Ext (MofS M G (dnS s) w) G w G'' w' := by
    rcases hcut with ⟨c1, c2⟩ | ⟨c1, rfl⟩
    · refine ⟨v, G'.cut m, rfl, ⟨k2.cut (by omega) _ v c1, OwnC.of_plain hrm⟩, hS'.cut (by omega) c2, ?_⟩
      exact { hE with n := by simp only [Gh.cut]; omega, newobj := fun i k1 k2 => hE.newobj i k1 (by simp only [Gh.cut] at k2; omega), mu := hE.mu, live := hE.live, own := hE.own, phi := hE.phi, keep := hE.keep, cell := hE.cell, row := hE.row }
    · exact ⟨v, G', rfl, ⟨k2, OwnC.of_plain hrm⟩, hS', hE⟩
  exact ⟨v, k1, hfin2⟩
/-- a function that tells a row of its own -/
theorem callBody_own {P : Program} {f : FuncId} {fn : Func} {c : Code} (hf : P.funcs[f]? = some fn) (hb : fn.body = some c)
    {args : List TV} {s : List TOb} (hm : ∀ a ∈ args, tmark a = none) {e1 : Exit} {F : List TV} {S : List TOb} {t : Tmp} (he : retE e1) (hrs : fn.results = #[.tmp t])
    (hw : AW s.length P c (dns (args ++ List.replicate (fn.ntmps - args.length) (.tup []))) (dnS s) (Ex e1 F S)) : Ok P f (dns args) (dnS s) (dn (F.getD t .undef)) (dnS S) := by
  refine callBody_core hf hb hm he hw fun M G w G' w' a hS hS' hE hf' => ?_
  refine ⟨a.tmps.getD t undef, ?_, _, G', rfl, ?_, hS', hE⟩
  · have e0 : results fn a.tmps = (do
        let vs ← fn.results.mapM (cResult a.tmps)
        pure (if h : vs.size = 1 then vs[0] else .tuple vs)) := rfl
    rw [e0, hrs]
    simp [cResult]
  · rw [← dns_getD]
    exact hf'.at_ t
theorem callBody_sound {D : DrawT} (hD : DrawSound D) {P : Program} {N : Nat} {C : CallT} (hC : CallSound P C) {fh : FH} {f : FuncId} {fn : Func} {c : Code} (hf : P.funcs[f]? = some fn) (hb : fn.body = some c)
    {β : Type} {args : List TV} {s : List TOb} {k : TV → List TOb → Option β} {b : β} (hm : ∀ a ∈ args, tmark a = none) (h : callBody D P N C fh fn c β args s k = some b) :
    ∃ r s', Ok P f (dns args) (dnS s) (dn r) (dnS s') ∧ k r s' = some b := by
  unfold callBody at h
  rw [spine_eq] at h
  obtain ⟨e1, F, S, hfin, hw⟩ := run_sound hD (sc := ⟨P, fh.arrs, fh.heads, fh.frz, fh.wrap, fh.rd, fh.joins⟩) (cf := ⟨N, C, s.length⟩) hC c fh.loops _ s _ h
  exact callBody_fin hf hb hm hfin hw
end
end Go.Proofs.YtmacghaihlfcpaaGreat.Abs

namespace Go.Proofs.YtmacghaihlfcpaaGreat.Abs
noncomputable section
open Go Go.ChangeShapes Go.WideShapes Go.ChangeAt Go.RowKit
set_option linter.unusedVariables false
set_option linter.unusedSimpArgs false

def kSeq {β : Type} (D : DrawT) (sc : Sc) (cf : Cfg) (b : Code) (hs : List LH) (k : Exit → List TV → List TOb → Option β) : Exit → List TV → List TOb → Option β := fun e fr s => match e with
  | .normal => run D sc cf b hs fr s k
  | e => k e fr s
def kBlk {β : Type} (id : Nat) (k : Exit → List TV → List TOb → Option β) : Exit → List TV → List TOb → Option β := fun e fr s => match e with
  | .exit i => if i = id then k .normal fr s else k (.exit i) fr s
  | e => k e fr s
def rawL {β : Type} (D : DrawT) (sc : Sc) (cf : Cfg) (c : Code) (h : LH) (hs : List LH) (k : Exit → List TV → List TOb → Option β) (K : List TV → List TOb → Option β) (fr : List TV) (s : List TOb) : Option β :=
  run D sc cf c hs fr s fun e fr s => match e with
      | .normal => canon cf.n0 h fr s fun fr s => K fr s
      | e => k e fr s
def kLoop {β : Type} (cf : Cfg) (h : LH) (k : Exit → List TV → List TOb → Option β) (K : List TV → List TOb → Option β) : Exit → List TV → List TOb → Option β := fun e fr s => match e with
  | .normal => canon cf.n0 h fr s fun fr s => K fr s
  | e => k e fr s
def seqL : Code → Code | .seq a _ => a | _ => .skip
def seqR : Code → Code | .seq _ b => b | _ => .skip
def conL : Code → Code | .cond _ a _ => a | _ => .skip
def conR : Code → Code | .cond _ _ b => b | _ => .skip
def blkB : Code → Code | .block _ c => c | _ => .skip
def lopB : Code → Code | .loop c => c | _ => .skip
def iter {α β : Type} (body : (α → Option β) → α → Option β) : Nat → α → Option β
  | 0, _ => none
  | n + 1, a => body (iter body n) a
theorem loop_iter {α β : Type} {body : (List TV → List TOb → Option β) → List TV → List TOb → Option β} {nb : (α → Option β) → α → Option β} (E : α → List TV) (S : α → List TOb)
    (H : ∀ K a, body K (E a) (S a) = nb (fun a' => K (E a') (S a')) a) : ∀ n a, iterF body n (E a) (S a) = iter nb n a
  | 0, a => rfl
  | n + 1, a => by
    simp only [iterF, iter]
    rw [H]
    congr 1
    funext a'
    exact loop_iter E S H n a'

/-! arguments and results by their types -/
def decA : (ts : List Ty) → List TV → Option (Els ts)
  | [], [] => some ()
  | t :: ts, v :: vs => match decV t v with
    | some x => match decA ts vs with
      | some xs => some (x, xs)
      | none => none
    | none => none
  | _, _ => none
def encA : (ts : List Ty) → Els ts → List TV
  | [], _ => []
  | t :: ts, x => tval t x.1 :: encA ts x.2
/-- one value, or many -/
def RT : List Ty → Type
  | [t] => El t
  | ts => Els ts
def decR : (ts : List Ty) → TV → Option (RT ts)
  | [t], v => decV t v
  | [], .tup [] => some ()
  | t :: u :: ts, .tup vs => decA (t :: u :: ts) vs
  | _, _ => none
def encR : (ts : List Ty) → RT ts → TV
  | [t], x => tval t x
  | [], _ => .tup []
  | t :: u :: ts, x => .tup (encA (t :: u :: ts) x)
end
end Go.Proofs.YtmacghaihlfcpaaGreat.Abs
