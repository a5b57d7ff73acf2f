/- Operations on values, every choice by a recursor whose alternatives are closed. (Printed by gf.py.) -/
import Derived.Test.YtmacghaihlfcpaaGreatFA
namespace Go.Proofs.YtmacghaihlfcpaaGreat.Abs
noncomputable section
open Go Go.ChangeShapes Go.WideShapes Go.ChangeAt Go.RowKit
set_option linter.unusedVariables false
set_option linter.unusedSimpArgs false

/-! numbers, lists -/
def fN : Nat → (β : Type) → (Nat → β) → β := @Nat.rec (fun _ => (β : Type) → (Nat → β) → β) (fun β k => k 0) (fun m _ β k => k (Nat.succ m))
theorem fN_eq (n : Nat) (β : Type) (k : Nat → β) : fN n β k = k n := by cases n <;> rfl
def fI : Int → (β : Type) → (Int → β) → β := @Int.rec (fun _ => (β : Type) → (Int → β) → β) (fun n β k => fN n β fun n => k (.ofNat n)) (fun n β k => fN n β fun n => k (.negSucc n))
theorem fI_eq (n : Int) (β : Type) (k : Int → β) : fI n β k = k n := by
  cases n with
  | ofNat n => exact fN_eq n β fun n => k (.ofNat n)
  | negSucc n => exact fN_eq n β fun n => k (.negSucc n)
def fB : Bool → (β : Type) → (Bool → β) → β := @Bool.rec (fun _ => (β : Type) → (Bool → β) → β) (fun β k => k false) (fun β k => k true)
theorem fB_eq (n : Bool) (β : Type) (k : Bool → β) : fB n β k = k n := by cases n <;> rfl
def natI : Int → (β : Type) → (Nat → Option β) → Option β := @Int.rec (fun _ => (β : Type) → (Nat → Option β) → Option β) (fun n β k => k n) (fun n β k => none)
def hdC (α : Type) : List α → (β : Type) → (α → Option β) → Option β := @List.rec α (fun _ => (β : Type) → (α → Option β) → Option β) (fun β k => none) (fun a l _ β k => k a)
def tlC (α : Type) : List α → List α := @List.rec α (fun _ => List α) [] (fun _ l _ => l)
def dropC (α : Type) (l : List α) (n : Nat) : List α := @Nat.rec (fun _ => List α) l (fun _ ih => tlC α ih) n
def nthL (α : Type) (l : List α) (n : Nat) (β : Type) (k : α → Option β) : Option β := hdC α (dropC α l n) β k
theorem dropC_eq {α : Type} (l : List α) : ∀ n, dropC α l n = l.drop n
  | 0 => rfl
  | n + 1 => by
    show tlC α (dropC α l n) = _
    rw [dropC_eq l n, ← List.tail_drop]
    cases l.drop n <;> rfl
theorem nthL_eq {α β : Type} (l : List α) (n : Nat) (k : α → Option β) : nthL α l n β k = match l[n]? with | some a => k a | none => none := by
  unfold nthL
  rw [dropC_eq]
  cases h : l.drop n with
  | nil =>
    have : l[n]? = none := List.getElem?_eq_none (by simpa using h)
    rw [this]; rfl
  | cons a r =>
    have : l[n]? = some a := by
      have := congrArg List.head? h
      simpa [List.head?_drop] using this
    rw [this]; rfl
def lenC (α : Type) : List α → Nat := @List.rec α (fun _ => Nat) 0 (fun _ _ ih => Nat.add ih 1)
theorem lenC_eq {α : Type} : ∀ l : List α, lenC α l = l.length
  | [] => rfl
  | a :: l => by show Nat.add (lenC α l) 1 = _; rw [lenC_eq l]; rfl
def appC (α : Type) : List α → List α → (β : Type) → (List α → β) → β := @List.rec α (fun _ => List α → (β : Type) → (List α → β) → β) (fun m β k => k m) (fun a _ ih m β k => ih m β fun l => k (a :: l))
theorem appC_eq {α β : Type} : ∀ (l m : List α) (k : List α → β), appC α l m β k = k (l ++ m)
  | [], m, k => rfl
  | a :: l, m, k => by show appC α l m β (fun l => k (a :: l)) = _; rw [appC_eq l]; rfl
def setC (α : Type) (v : α) : List α → Nat → (β : Type) → (List α → Option β) → Option β := @List.rec α (fun _ => Nat → (β : Type) → (List α → Option β) → Option β) (fun _ β k => none) (fun a l ih n => @Nat.rec (fun _ => (β : Type) → (List α → Option β) → Option β) (fun β k => k (v :: l)) (fun m _ β k => ih m β fun r => k (a :: r)) n)
theorem setC_eq {α β : Type} (v : α) : ∀ (l : List α) (n : Nat) (k : List α → Option β), setC α v l n β k = if n < l.length then k (l.set n v) else none
  | [], n, k => by simp [setC]
  | a :: l, 0, k => by show k (v :: l) = _; simp
  | a :: l, n + 1, k => by
    show setC α v l n β (fun r => k (a :: r)) = _
    rw [setC_eq v l n]
    simp
def obC (α : Type) (f : α → (β : Type) → (α → Option β) → Option β) : List α → Nat → (β : Type) → (List α → Option β) → Option β := @List.rec α (fun _ => Nat → (β : Type) → (List α → Option β) → Option β) (fun _ β k => none) (fun a l ih n => @Nat.rec (fun _ => (β : Type) → (List α → Option β) → Option β) (fun β k => f a β fun b => k (b :: l)) (fun m _ β k => ih m β fun r => k (a :: r)) n)
theorem obC_eq {α β : Type} {f : α → (β : Type) → (α → Option β) → Option β} : ∀ (l : List α) (n : Nat) (k : List α → Option β), obC α f l n β k = match l[n]? with | some a => f a β fun b => k (l.set n b) | none => none
  | [], n, k => by simp [obC]
  | a :: l, 0, k => by show f a β (fun b => k (b :: l)) = _; simp
  | a :: l, n + 1, k => by
    show obC α f l n β (fun r => k (a :: r)) = _
    rw [obC_eq l n]
    simp
def eqStrF : List UInt8 → List UInt8 → Bool := @List.rec UInt8 (fun _ => List UInt8 → Bool) (fun b => @List.rec UInt8 (fun _ => Bool) true (fun _ _ _ => false) b) (fun x l ih b => @List.rec UInt8 (fun _ => Bool) false (fun y m _ => @Bool.rec (fun _ => Bool) false (ih m) (Nat.beq x.toNat y.toNat)) b)
theorem eqStrF_eq : ∀ a b : List UInt8, eqStrF a b = (a == b)
  | [], [] => rfl
  | [], _ :: _ => rfl
  | _ :: _, [] => rfl
  | x :: l, y :: m => by
    show @Bool.rec (fun _ => Bool) false (eqStrF l m) (Nat.beq x.toNat y.toNat) = _
    rw [eqStrF_eq l m]
    have e : (x :: l == y :: m) = ((x == y) && (l == m)) := rfl
    rw [e]
    cases h : Nat.beq x.toNat y.toNat with
    | true =>
      have := UInt8.toNat_inj.1 (Nat.eq_of_beq_eq_true h)
      subst this
      simp
    | false =>
      have : (x == y) = false := by
        cases h2 : x == y with
        | false => rfl
        | true =>
          rw [eq_of_beq h2] at h
          have := Nat.beq_refl y.toNat
          rw [this] at h; cases h
      rw [this]; rfl
def ltI (a b : Int) : Bool := @Int.rec (fun _ => Int → Bool) (fun a b => @Int.rec (fun _ => Nat → Bool) (fun b a => Nat.blt a b) (fun _ _ => false) b a) (fun a b => @Int.rec (fun _ => Nat → Bool) (fun _ _ => true) (fun b a => Nat.blt b a) b a) a b
theorem ltI_eq (a b : Int) : ltI a b = decide (a < b) := by
  cases a <;> cases b <;> simp only [ltI] <;> rw [Bool.eq_iff_iff, decide_eq_true_iff]
  · rw [blt_iff]; simp only [Int.ofNat_eq_natCast]; omega
  · exact ⟨fun h => (by cases h), fun h => (by simp only [Int.ofNat_eq_natCast] at h; omega)⟩
  · exact ⟨fun _ => (by simp only [Int.ofNat_eq_natCast]; omega), fun _ => rfl⟩
  · rw [blt_iff]; omega
def leI (a b : Int) : Bool := @Int.rec (fun _ => Int → Bool) (fun a b => @Int.rec (fun _ => Nat → Bool) (fun b a => Nat.ble a b) (fun _ _ => false) b a) (fun a b => @Int.rec (fun _ => Nat → Bool) (fun _ _ => true) (fun b a => Nat.ble b a) b a) a b
theorem leI_eq (a b : Int) : leI a b = decide (a ≤ b) := by
  cases a <;> cases b <;> simp only [leI] <;> rw [Bool.eq_iff_iff, decide_eq_true_iff]
  · rw [Nat.ble_eq]; simp only [Int.ofNat_eq_natCast]; omega
  · exact ⟨fun h => (by cases h), fun h => (by simp only [Int.ofNat_eq_natCast] at h; omega)⟩
  · exact ⟨fun _ => (by simp only [Int.ofNat_eq_natCast]; omega), fun _ => rfl⟩
  · rw [Nat.ble_eq]; omega
def eqF (a b : Int) : Bool := @Int.rec (fun _ => Int → Bool) (fun a b => @Int.rec (fun _ => Nat → Bool) (fun b a => Nat.beq a b) (fun _ _ => false) b a) (fun a b => @Int.rec (fun _ => Nat → Bool) (fun _ _ => false) (fun b a => Nat.beq a b) b a) a b
theorem eqF_eq (a b : Int) : eqF a b = (a == b) := by
  cases a <;> cases b <;> simp only [eqF] <;> rw [Bool.eq_iff_iff, beq_iff_eq]
  · rw [Nat.beq_eq]; simp only [Int.ofNat_eq_natCast]; omega
  · exact ⟨fun h => (by cases h), fun h => (by simp only [Int.ofNat_eq_natCast] at h; omega)⟩
  · exact ⟨fun h => (by cases h), fun h => (by simp only [Int.ofNat_eq_natCast] at h; omega)⟩
  · rw [Nat.beq_eq]; omega
def kNum : IntKind → Nat := @IntKind.rec (fun _ => Nat) 0 1 2 3 4 5 6 7
theorem kNum_inj {a b : IntKind} (h : Nat.beq (kNum a) (kNum b) = true) : a = b := by cases a <;> cases b <;> first | rfl | cases h
theorem wrap64 {n : Int} (h : inI64 n = true) : IntKind.i64.wrap n = n := by
  have h2 := (inI64_iff n).1 h
  rw [IntKind.wrap_i64]
  omega

/-! values -/
def fc : TV → (β : Type) → (TV → β) → β := @TV.rec (fun _ => (β : Type) → (TV → β) → β) (fun _ => PUnit)
    (fun β k => k .undef)
    (fun a b β k => k (.int a b))
    (fun a β k => k (.bool a))
    (fun β k => k .tt)
    (fun β k => k .ff)
    (fun a β k => k (.str a))
    (fun β k => k .nilp)
    (fun a b β k => k (.ref a b))
    (fun a b c β k => k (.tl a b c))
    (fun a b c _ β k => k (.ll a b c))
    (fun a b _ β k => k (.ep a b))
    (fun a b β k => k (.arr a b))
    (fun a b c d β k => k (.ap a b c d))
    (fun β k => k .nilf)
    (fun β k => k .mapn)
    (fun a β k => k (.mapr a))
    (fun a b _ β k => k (.func a b))
    (fun a _ β k => k (.agg a))
    (fun a _ β k => k (.tup a))
    PUnit.unit
    (fun _ _ _ _ => PUnit.unit)
theorem fc_eq (v : TV) (β : Type) (k : TV → β) : fc v β k = k v := by cases v <;> rfl
def plF : TV → (β : Type) → (TV → β) → β := @TV.rec (fun _ => (β : Type) → (TV → β) → β) (fun _ => PUnit)
    (fun β k => k .undef)
    (fun a b β k => k (.int a b))
    (fun a β k => k (.bool a))
    (fun β k => k .tt)
    (fun β k => k .ff)
    (fun a β k => k (.str a))
    (fun β k => k .nilp)
    (fun a b β k => k (.ref a b))
    (fun a b c β k => @Tag.rec (fun _ => (β : Type) → (TV → β) → β) (fun β k => k (.tl a b .full)) (fun β k => k (.tl a b .unk)) (fun _ _ _ β k => k (.tl a b .unk)) c β k)
    (fun a b c _ β k => @Tag.rec (fun _ => (β : Type) → (TV → β) → β) (fun β k => k (.ll a b .full)) (fun β k => k (.ll a b .unk)) (fun _ _ _ β k => k (.ll a b .unk)) c β k)
    (fun a b _ β k => k (.ep a b))
    (fun a b β k => k (.arr a b))
    (fun a b c d β k => k (.ap a b c d))
    (fun β k => k .nilf)
    (fun β k => k .mapn)
    (fun a β k => k (.mapr a))
    (fun a b _ β k => k (.func a b))
    (fun a _ β k => k (.agg a))
    (fun a _ β k => k (.tup a))
    PUnit.unit
    (fun _ _ _ _ => PUnit.unit)
theorem plF_eq (v : TV) (β : Type) (k : TV → β) : plF v β k = k (tplain v) := by
  cases v
  case tl t xs g => cases g <;> rfl
  case ll cs n g => cases g <;> rfl
  all_goals rfl
def fcs : List TV → (β : Type) → (List TV → β) → β := @List.rec TV (fun _ => (β : Type) → (List TV → β) → β) (fun β k => k []) (fun v _ ih β k => fc v β fun v => ih β fun l => k (v :: l))
theorem fcs_eq {β : Type} : ∀ (l : List TV) (k : List TV → β), fcs l β k = k l
  | [], k => rfl
  | v :: l, k => by show fc v β (fun v => fcs l β fun l => k (v :: l)) = _; rw [fc_eq, fcs_eq l]
/-- with a value, if there is one -/
def VC {β : Type} (o : Option (Bool × TV)) (K : TV → Option β) : Option β := match o with
  | some (g, v) => cond g (K v) none
  | none => none
theorem vcX {β : Type} (o : Option (Bool × TV)) (K : TV → Option β) : (VC o fun v => forceX v K) = VC o K := by simp only [forceX_eq]
def takeF : Nat → List TV → (β : Type) → (List TV → Option β) → Option β := @Nat.rec (fun _ => List TV → (β : Type) → (List TV → Option β) → Option β) (fun l β k => k []) (fun m ih l => @List.rec TV (fun _ => (β : Type) → (List TV → Option β) → Option β) (fun β k => none) (fun v l' _ β k => plF v (Option β) fun v => ih l' β fun r => k (v :: r)) l)
theorem takeF_eq {β : Type} : ∀ (n : Nat) (l : List TV) (k : List TV → Option β), takeF n l β k = if n ≤ l.length then k ((l.take n).map tplain) else none
  | 0, l, k => by show k [] = _; simp
  | n + 1, [], k => by simp [takeF]
  | n + 1, v :: l, k => by
    show plF v (Option β) (fun v => takeF n l β fun r => k (v :: r)) = _
    rw [plF_eq, takeF_eq n l]
    simp
def cutF (cs : List TV) (o : Nat) (n : Nat) (β : Type) (k : List TV → Option β) : Option β := @Nat.rec (fun _ => List TV → Nat → (β : Type) → (List TV → Option β) → Option β) (fun cs o β k => @Bool.rec (fun _ => Option β) none (k []) (Nat.ble o (lenC TV cs))) (fun m _ cs o β k => takeF (Nat.succ m) (dropC TV cs o) β k) n cs o β k
theorem cutF_eq {β : Type} (cs : List TV) (o n : Nat) (k : List TV → Option β) : cutF cs o n β k = if o + n ≤ cs.length then k (((cs.drop o).take n).map tplain) else none := by
  cases n with
  | zero =>
    show @Bool.rec (fun _ => Option β) none (k []) (Nat.ble o (lenC TV cs)) = _
    rw [lenC_eq]
    cases h : Nat.ble o cs.length with
    | true => rw [Nat.ble_eq] at h; rw [if_pos (by omega)]; simp
    | false =>
      have : ¬ o ≤ cs.length := fun k => by rw [← Nat.ble_eq] at k; rw [k] at h; cases h
      rw [if_neg (by omega)]
  | succ m =>
    show takeF (m + 1) (dropC TV cs o) β k = _
    rw [takeF_eq, dropC_eq, List.length_drop]
    by_cases h : o + (m + 1) ≤ cs.length
    · rw [if_pos h, if_pos (by omega)]
    · rw [if_neg h, if_neg (by omega)]
def loadC (P : Program) (t : TypeId) (cs : List TV) (o : Nat) (β : Type) (K : TV → Option β) : Option β := @Option.rec (Option Nat) (fun _ => List TV → Nat → (β : Type) → (TV → Option β) → Option β) (fun cs o β K => none) (fun x => @Option.rec Nat (fun _ => List TV → Nat → (β : Type) → (TV → Option β) → Option β) (fun cs o β K => nthL TV cs o β K) (fun n cs o β K => cutF cs o n β fun l => K (.agg l)) x) (aggSize P t) cs o β K
theorem loadC_eq {P : Program} {t : TypeId} {cs : List TV} {o : Nat} {β : Type} {K : TV → Option β} : loadC P t cs o β K = match tLoad P t cs o with | some v => K v | none => none := by
  unfold loadC tLoad
  cases aggSize P t with
  | none => rfl
  | some x =>
    cases x with
    | none => exact (nthL_eq cs o K).trans (by cases cs[o]? <;> rfl)
    | some n =>
      show cutF cs o n β (fun l => K (.agg l)) = _
      rw [cutF_eq]
      by_cases h : o + n ≤ cs.length
      · rw [if_pos h]; dsimp only; rw [if_pos h]
      · rw [if_neg h]; dsimp only; rw [if_neg h]
def obLoad : TOb → Program → TypeId → Nat → (β : Type) → (TV → Option β) → Option β := @TOb.rec (fun _ => Program → TypeId → Nat → (β : Type) → (TV → Option β) → Option β) (fun cs t' l P t k β K => @Bool.rec (fun _ => Option β) none (@Bool.rec (fun _ => Option β) (loadC P t cs k β K) none (Nat.beq t' mapT)) l) (fun _ _ _ _ P t k β K => none)

def loadF : TV → Program → List TOb → TypeId → (β : Type) → (TV → Option β) → Option β := @TV.rec (fun _ => Program → List TOb → TypeId → (β : Type) → (TV → Option β) → Option β) (fun _ => PUnit)
    (fun P s t β K => none)
    (fun a b P s t β K => none)
    (fun a P s t β K => none)
    (fun P s t β K => none)
    (fun P s t β K => none)
    (fun a P s t β K => none)
    (fun P s t β K => none)
    (fun a b P s t β K => nthL TOb s a β fun ob => obLoad ob P t b β K)
    (fun a b c P s t β K => none)
    (fun a b c _ P s t β K => none)
    (fun a b _ P s t β K => loadC P t a b β fun v => plF v (Option β) K)
    (fun a b P s t β K => none)
    (fun a b c d P s t β K => VC (tLoadAt P s t (.ap a b c d)) fun v => forceX v K)
    (fun P s t β K => none)
    (fun P s t β K => none)
    (fun a P s t β K => none)
    (fun a b _ P s t β K => none)
    (fun a _ P s t β K => none)
    (fun a _ P s t β K => none)
    PUnit.unit
    (fun _ _ _ _ => PUnit.unit)
theorem loadF_eq (P : Program) (s : List TOb) (t : TypeId) (x : TV) (β : Type) (K : TV → Option β) : loadF x P s t β K = VC (tLoadAt P s t x) K := by
  cases x
  case ref i k =>
    show nthL TOb s i β (fun ob => obLoad ob P t k β K) = _
    rw [nthL_eq]
    simp only [tLoadAt]
    cases s[i]? with
    | none => rfl
    | some ob =>
      cases ob with
      | tarr => rfl
      | cells cs t' l =>
        cases l with
        | false => rfl
        | true =>
          show @Bool.rec (fun _ => Option β) (loadC P t cs k β K) none (Nat.beq t' mapT) = _
          cases h : Nat.beq t' mapT with
          | true =>
            have := Nat.eq_of_beq_eq_true h
            dsimp only
            rw [if_neg (by intro k; exact k.2 this)]
            rfl
          | false =>
            have : t' ≠ mapT := fun e => by subst e; rw [Nat.beq_refl] at h; cases h
            dsimp only
            rw [if_pos ⟨rfl, this⟩, loadC_eq]
            cases tLoad P t cs k <;> rfl
  case ep cs k =>
    show loadC P t cs k β (fun v => plF v (Option β) K) = _
    rw [loadC_eq]
    simp only [tLoadAt]
    cases tLoad P t cs k with
    | none => rfl
    | some v => exact plF_eq _ _ _
  case ap i ix sz o =>
    show (VC (tLoadAt P s t (.ap i ix sz o)) fun v => forceX v K) = _
    simp only [forceX_eq]
  all_goals rfl

def fieldF : TV → Program → TypeId → Nat → (β : Type) → (TV → Option β) → Option β := @TV.rec (fun _ => Program → TypeId → Nat → (β : Type) → (TV → Option β) → Option β) (fun _ => PUnit)
    (fun P t f β K => none)
    (fun a b P t f β K => none)
    (fun a P t f β K => none)
    (fun P t f β K => none)
    (fun P t f β K => none)
    (fun a P t f β K => none)
    (fun P t f β K => none)
    (fun a b P t f β K => @Option.rec (Nat × TypeId) (fun _ => Option β) none (fun r => fN (b + r.1) (Option β) fun n => K (.ref a n)) (aField P t f))
    (fun a b c P t f β K => none)
    (fun a b c _ P t f β K => none)
    (fun a b _ P t f β K => @Option.rec (Nat × TypeId) (fun _ => Option β) none (fun r => fN (b + r.1) (Option β) fun n => K (.ep a n)) (aField P t f))
    (fun a b P t f β K => none)
    (fun a b c d P t f β K => @Option.rec (Nat × TypeId) (fun _ => Option β) none (fun r => fN (d + r.1) (Option β) fun n => K (.ap a b c n)) (aField P t f))
    (fun P t f β K => none)
    (fun P t f β K => none)
    (fun a P t f β K => none)
    (fun a b _ P t f β K => none)
    (fun a _ P t f β K => none)
    (fun a _ P t f β K => none)
    PUnit.unit
    (fun _ _ _ _ => PUnit.unit)
theorem fieldF_eq (P : Program) (t : TypeId) (x : TV) (f : Nat) (β : Type) (K : TV → Option β) : fieldF x P t f β K = VC (tFieldAddr P t x f) K := by
  cases x
  case ref i k => simp only [fieldF, tFieldAddr]; cases aField P t f <;> first | rfl | exact fN_eq _ _ _
  case ep cs k => simp only [fieldF, tFieldAddr]; cases aField P t f <;> first | rfl | exact fN_eq _ _ _
  case ap i ix sz k => simp only [fieldF, tFieldAddr]; cases aField P t f <;> first | rfl | exact fN_eq _ _ _
  all_goals rfl
/-- a value's cells, ahead of others -/
def cellsF : (t : Ty) → El t → List TV → (β : Type) → (List TV → β) → β := @Ty.rec (fun t => El t → List TV → (β : Type) → (List TV → β) → β) (fun ts => Els ts → List TV → (β : Type) → (List TV → β) → β)
  (fun k n r β c => c (.int k n :: r)) (fun b r β c => c (.bool b :: r)) (fun s r β c => c (.str s :: r)) (fun e _ xs r β c => c (.tl e xs .unk :: r)) (fun fs ih => ih)
  (fun _ r β c => c r) (fun t ts ih1 ih2 x => @Prod.rec (El t) (Els ts) (fun _ => List TV → (β : Type) → (List TV → β) → β) (fun a b r β c => ih2 b r β fun r => ih1 a r β c) x)
def cellsFs (ts : List Ty) (x : Els ts) (r : List TV) (β : Type) (c : List TV → β) : β := cellsF (.st ts) x r β c
mutual
theorem cellsF_eq : ∀ (t : Ty) (x : El t) (r : List TV) (β : Type) (c : List TV → β), cellsF t x r β c = c (tcells t x ++ r)
  | .int k, n, r, β, c => rfl
  | .bool, b, r, β, c => rfl
  | .str, s, r, β, c => rfl
  | .list e, xs, r, β, c => rfl
  | .st fs, x, r, β, c => by
    rw [tcells]
    exact cellsFs_eq fs x r β c
theorem cellsFs_eq : ∀ (ts : List Ty) (x : Els ts) (r : List TV) (β : Type) (c : List TV → β), cellsFs ts x r β c = c (tcellss ts x ++ r)
  | [], x, r, β, c => rfl
  | t :: ts, x, r, β, c => by
    have e : cellsFs (t :: ts) x r β c = cellsFs ts x.2 r β fun r => cellsF t x.1 r β c := rfl
    rw [e, cellsFs_eq ts, cellsF_eq t, tcellss, List.append_assoc]
end
def ixTl (ty : Ty) (xs : List (El ty)) (P : Program) (t : TypeId) (ix : Int) (β : Type) (K : TV → Option β) : Option β := @Option.rec (TypeId × Nat) (fun _ => Option β) none (fun r => @Bool.rec (fun _ => Option β) none (natI ix β fun i => nthL (El ty) xs i β fun x => cellsF ty x [] (Option β) fun cs => K (.ep cs 0)) (Nat.beq r.2 ty.size)) (aElem P t)
def ixLl (cs : List TV) (n : Nat) (P : Program) (t : TypeId) (ix : Int) (β : Type) (K : TV → Option β) : Option β := @Option.rec (TypeId × Nat) (fun _ => Option β) none (fun r => natI ix β fun i => @Bool.rec (fun _ => Option β) none (@Bool.rec (fun _ => Option β) (fN (i * r.2) (Option β) fun o => K (.ep cs o)) none cs.isEmpty) (Nat.blt i n)) (aElem P t)
def ixArr (j n : Nat) (P : Program) (t : TypeId) (ix : Int) (β : Type) (K : TV → Option β) : Option β := @Option.rec (TypeId × Nat) (fun _ => Option β) none (fun r => natI ix β fun i => @Bool.rec (fun _ => Option β) none (fN r.2 (Option β) fun z => K (.ap j ix z 0)) (Nat.blt i n)) (aElem P t)

def ixF : TV → IntKind → Program → TypeId → Int → (β : Type) → (TV → Option β) → Option β := @TV.rec (fun _ => IntKind → Program → TypeId → Int → (β : Type) → (TV → Option β) → Option β) (fun _ => PUnit)
    (fun ik P t ix β K => none)
    (fun a b ik P t ix β K => none)
    (fun a ik P t ix β K => none)
    (fun ik P t ix β K => none)
    (fun ik P t ix β K => none)
    (fun a ik P t ix β K => none)
    (fun ik P t ix β K => none)
    (fun a b ik P t ix β K => VC (tIndexAddr P t (.ref a b) (.int ik ix)) fun v => forceX v K)
    (fun a b c ik P t ix β K => ixTl a b P t ix β K)
    (fun a b c _ ik P t ix β K => ixLl a b P t ix β K)
    (fun a b _ ik P t ix β K => none)
    (fun a b ik P t ix β K => ixArr a b P t ix β K)
    (fun a b c d ik P t ix β K => none)
    (fun ik P t ix β K => none)
    (fun ik P t ix β K => none)
    (fun a ik P t ix β K => none)
    (fun a b _ ik P t ix β K => none)
    (fun a _ ik P t ix β K => none)
    (fun a _ ik P t ix β K => none)
    PUnit.unit
    (fun _ _ _ _ => PUnit.unit)
def indexAddrF (x y : TV) (P : Program) (t : TypeId) (β : Type) (K : TV → Option β) : Option β := (@TV.rec (fun _ => TV → Program → TypeId → (β : Type) → (TV → Option β) → Option β) (fun _ => PUnit)
    (fun x P t β K => none)
    (fun a b x P t β K => ixF x a P t b β K)
    (fun a x P t β K => none)
    (fun x P t β K => none)
    (fun x P t β K => none)
    (fun a x P t β K => none)
    (fun x P t β K => none)
    (fun a b x P t β K => none)
    (fun a b c x P t β K => none)
    (fun a b c _ x P t β K => none)
    (fun a b _ x P t β K => none)
    (fun a b x P t β K => none)
    (fun a b c d x P t β K => none)
    (fun x P t β K => none)
    (fun x P t β K => none)
    (fun a x P t β K => none)
    (fun a b _ x P t β K => none)
    (fun a _ x P t β K => none)
    (fun a _ x P t β K => none)
    PUnit.unit
    (fun _ _ _ _ => PUnit.unit)) y x P t β K
theorem natI_eq {β : Type} (ix : Int) (k : Nat → Option β) : natI ix β k = if 0 ≤ ix then k ix.toNat else none := by
  cases ix with
  | ofNat n => rw [if_pos (by simp only [Int.ofNat_eq_natCast]; omega)]; rfl
  | negSucc n => rw [if_neg (by omega)]; rfl
theorem bool_rec_eq {β : Type} (x y : β) (b : Bool) : @Bool.rec (fun _ => β) x y b = cond b y x := by cases b <;> rfl
theorem indexAddrF_eq (P : Program) (t : TypeId) (x y : TV) (β : Type) (K : TV → Option β) : indexAddrF x y P t β K = VC (tIndexAddr P t x y) K := by
  cases y
  case int ik ix =>
    show ixF x ik P t ix β K = _
    cases x
    case tl ty xs g =>
      show ixTl ty xs P t ix β K = _
      simp only [ixTl, tIndexAddr]
      cases aElem P t with
      | none => rfl
      | some r =>
        obtain ⟨e, size⟩ := r
        dsimp only
        rw [natI_eq]
        cases h : Nat.beq size ty.size with
        | false =>
          have : ¬ size = ty.size := fun e => by subst e; rw [Nat.beq_refl] at h; cases h
          rw [if_neg this]; rfl
        | true =>
          rw [if_pos (Nat.eq_of_beq_eq_true h)]
          dsimp only [VC]
          by_cases h0 : 0 ≤ ix
          · rw [if_pos h0, nthL_eq]
            by_cases h1 : ix < xs.length
            · have h2 : ix.toNat < xs.length := by omega
              rw [List.getElem?_eq_getElem h2, decide_eq_true ⟨h0, h1⟩]
              dsimp only
              rw [cellsF_eq, List.append_nil, List.getD_eq_getElem?_getD, List.getElem?_eq_getElem h2]
              rfl
            · rw [List.getElem?_eq_none (by omega), decide_eq_false (by omega)]; rfl
          · rw [if_neg h0, decide_eq_false (by omega)]; rfl
    case ll cs n g =>
      show ixLl cs n P t ix β K = _
      simp only [ixLl, tIndexAddr]
      cases aElem P t with
      | none => rfl
      | some r =>
        obtain ⟨e, size⟩ := r
        dsimp only
        rw [natI_eq]
        by_cases h0 : 0 ≤ ix
        · rw [if_pos h0]
          cases h : Nat.blt ix.toNat n with
          | false =>
            have : ¬ ix.toNat < n := fun k => by rw [blt_iff.2 k] at h; cases h
            rw [if_neg (by omega)]; rfl
          | true =>
            have h := blt_iff.1 h
            cases hc : cs.isEmpty with
            | true => rw [if_neg (by simp)]; rfl
            | false =>
              rw [if_pos ⟨h0, by omega, rfl⟩]
              exact fN_eq _ _ _
        · rw [if_neg h0, if_neg (by omega)]; rfl
    case arr j n =>
      show ixArr j n P t ix β K = _
      simp only [ixArr, tIndexAddr]
      cases aElem P t with
      | none => rfl
      | some r =>
        obtain ⟨e, size⟩ := r
        dsimp only [VC]
        rw [natI_eq]
        by_cases h0 : 0 ≤ ix
        · rw [if_pos h0]
          cases h : Nat.blt ix.toNat n with
          | false =>
            have : ¬ ix.toNat < n := fun k => by rw [blt_iff.2 k] at h; cases h
            rw [decide_eq_false (by omega)]; rfl
          | true =>
            have h := blt_iff.1 h
            rw [decide_eq_true ⟨h0, by omega⟩]
            exact fN_eq _ _ _
        · rw [if_neg h0, decide_eq_false (by omega)]; rfl
    case ref i k =>
      show (VC (tIndexAddr P t (.ref i k) (.int ik ix)) fun v => forceX v K) = _
      simp only [forceX_eq]
    all_goals rfl
  all_goals (cases x <;> rfl)
def isStr (P : Program) (t : TypeId) : Bool := match P.underlying t with
  | some .string => true
  | _ => false
def isSl (P : Program) (t : TypeId) : Bool := match P.underlying t with
  | some (.slice _) => true
  | _ => false

def chrF (l : List UInt8) (P : Program) (t : TypeId) (y : TV) (β : Type) (K : TV → Option β) : Option β := (@TV.rec (fun _ => List UInt8 → Program → TypeId → (β : Type) → (TV → Option β) → Option β) (fun _ => PUnit)
    (fun l P t β K => none)
    (fun a b l P t β K => @Bool.rec (fun _ => Option β) none (natI b β fun i => nthL UInt8 l i β fun c => fN c.toNat (Option β) fun n => K (.int .u8 (.ofNat n))) (isStr P t))
    (fun a l P t β K => none)
    (fun l P t β K => none)
    (fun l P t β K => none)
    (fun a l P t β K => none)
    (fun l P t β K => none)
    (fun a b l P t β K => none)
    (fun a b c l P t β K => none)
    (fun a b c _ l P t β K => none)
    (fun a b _ l P t β K => none)
    (fun a b l P t β K => none)
    (fun a b c d l P t β K => none)
    (fun l P t β K => none)
    (fun l P t β K => none)
    (fun a l P t β K => none)
    (fun a b _ l P t β K => none)
    (fun a _ l P t β K => none)
    (fun a _ l P t β K => none)
    PUnit.unit
    (fun _ _ _ _ => PUnit.unit)) y l P t β K
def indexF : TV → TV → Program → TypeId → (β : Type) → (TV → Option β) → Option β := @TV.rec (fun _ => TV → Program → TypeId → (β : Type) → (TV → Option β) → Option β) (fun _ => PUnit)
    (fun y P t β K => VC (tIndexA P t .undef y) fun v => forceX v K)
    (fun a b y P t β K => VC (tIndexA P t (.int a b) y) fun v => forceX v K)
    (fun a y P t β K => VC (tIndexA P t (.bool a) y) fun v => forceX v K)
    (fun y P t β K => VC (tIndexA P t .tt y) fun v => forceX v K)
    (fun y P t β K => VC (tIndexA P t .ff y) fun v => forceX v K)
    (fun a y P t β K => chrF a P t y β K)
    (fun y P t β K => VC (tIndexA P t .nilp y) fun v => forceX v K)
    (fun a b y P t β K => VC (tIndexA P t (.ref a b) y) fun v => forceX v K)
    (fun a b c y P t β K => VC (tIndexA P t (.tl a b c) y) fun v => forceX v K)
    (fun a b c _ y P t β K => VC (tIndexA P t (.ll a b c) y) fun v => forceX v K)
    (fun a b _ y P t β K => VC (tIndexA P t (.ep a b) y) fun v => forceX v K)
    (fun a b y P t β K => VC (tIndexA P t (.arr a b) y) fun v => forceX v K)
    (fun a b c d y P t β K => VC (tIndexA P t (.ap a b c d) y) fun v => forceX v K)
    (fun y P t β K => VC (tIndexA P t .nilf y) fun v => forceX v K)
    (fun y P t β K => VC (tIndexA P t .mapn y) fun v => forceX v K)
    (fun a y P t β K => VC (tIndexA P t (.mapr a) y) fun v => forceX v K)
    (fun a b _ y P t β K => VC (tIndexA P t (.func a b) y) fun v => forceX v K)
    (fun a _ y P t β K => VC (tIndexA P t (.agg a) y) fun v => forceX v K)
    (fun a _ y P t β K => VC (tIndexA P t (.tup a) y) fun v => forceX v K)
    PUnit.unit
    (fun _ _ _ _ => PUnit.unit)
theorem indexF_eq (P : Program) (t : TypeId) (x y : TV) (β : Type) (K : TV → Option β) : indexF x y P t β K = VC (tIndexA P t x y) K := by
  cases x
  case str l =>
    cases y
    case int ik ix =>
      show @Bool.rec (fun _ => Option β) none (natI ix β fun i => nthL UInt8 l i β fun c => fN c.toNat (Option β) fun n => K (.int .u8 (.ofNat n))) (isStr P t) = _
      simp only [tIndexA, tIndex, isStr]
      split
      · rename_i hq
        rw [hq]
        dsimp only [VC]
        rw [natI_eq]
        by_cases h0 : 0 ≤ ix
        · rw [if_pos h0, nthL_eq]
          by_cases h1 : ix < l.length
          · have h2 : ix.toNat < l.length := by omega
            rw [List.getElem?_eq_getElem h2, decide_eq_true ⟨h0, h1⟩]
            dsimp only
            rw [fN_eq, List.getD_eq_getElem?_getD, List.getElem?_eq_getElem h2]
            rfl
          · rw [List.getElem?_eq_none (by omega), decide_eq_false (by omega)]; rfl
        · rw [if_neg h0, decide_eq_false (by omega)]; rfl
      · rename_i hq
        split
        · rename_i h2; exact absurd h2 hq
        · rfl
    all_goals rfl
  all_goals (unfold indexF; dsimp only; simp only [forceX_eq])

def extractF : TV → Nat → (β : Type) → (TV → Option β) → Option β := @TV.rec (fun _ => Nat → (β : Type) → (TV → Option β) → Option β) (fun _ => PUnit)
    (fun k β K => none)
    (fun a b k β K => none)
    (fun a k β K => none)
    (fun k β K => none)
    (fun k β K => none)
    (fun a k β K => none)
    (fun k β K => none)
    (fun a b k β K => none)
    (fun a b c k β K => none)
    (fun a b c _ k β K => none)
    (fun a b _ k β K => none)
    (fun a b k β K => none)
    (fun a b c d k β K => none)
    (fun k β K => none)
    (fun k β K => none)
    (fun a k β K => none)
    (fun a b _ k β K => none)
    (fun a _ k β K => none)
    (fun a _ k β K => nthL TV a k β fun v => plF v (Option β) K)
    PUnit.unit
    (fun _ _ _ _ => PUnit.unit)
def tExtract (x : TV) (k : Nat) : Option (Bool × TV) := match x with
  | .tup vs => (vs[k]?).map fun v => (true, tplain v)
  | _ => none
theorem extractF_eq (x : TV) (k : Nat) (β : Type) (K : TV → Option β) : extractF x k β K = VC (tExtract x k) K := by
  cases x
  case tup vs =>
    show nthL TV vs k β (fun v => plF v (Option β) K) = _
    rw [nthL_eq]
    simp only [tExtract]
    cases vs[k]? with
    | none => rfl
    | some v => exact plF_eq _ _ _
  all_goals rfl
/-! two numbers, two texts -/
def wF : IntKind → Bool → Int → (β : Type) → (TV → Option β) → Option β := @IntKind.rec (fun _ => Bool → Int → (β : Type) → (TV → Option β) → Option β)

  (fun wr n β K => cond (tW wr .i8 n).1 (fI (tW wr .i8 n).2 (Option β) fun n => K (.int .i8 n)) none)
  (fun wr n β K => cond (tW wr .i16 n).1 (fI (tW wr .i16 n).2 (Option β) fun n => K (.int .i16 n)) none)
  (fun wr n β K => cond (tW wr .i32 n).1 (fI (tW wr .i32 n).2 (Option β) fun n => K (.int .i32 n)) none)
  (fun wr n β K => @Bool.rec (fun _ => Option β) (cond (tW wr .i64 n).1 (fI (tW wr .i64 n).2 (Option β) fun n => K (.int .i64 n)) none) (fI n (Option β) fun n => K (.int .i64 n)) (inI64 n))
  (fun wr n β K => cond (tW wr .u8 n).1 (fI (tW wr .u8 n).2 (Option β) fun n => K (.int .u8 n)) none)
  (fun wr n β K => cond (tW wr .u16 n).1 (fI (tW wr .u16 n).2 (Option β) fun n => K (.int .u16 n)) none)
  (fun wr n β K => cond (tW wr .u32 n).1 (fI (tW wr .u32 n).2 (Option β) fun n => K (.int .u32 n)) none)
  (fun wr n β K => cond (tW wr .u64 n).1 (fI (tW wr .u64 n).2 (Option β) fun n => K (.int .u64 n)) none)
theorem wF_eq (k : IntKind) (wr : Bool) (n : Int) (β : Type) (K : TV → Option β) : wF k wr n β K = cond (tW wr k n).1 (K (.int k (tW wr k n).2)) none := by
  cases k
  case i64 =>
    show @Bool.rec (fun _ => Option β) (cond (tW wr .i64 n).1 (fI (tW wr .i64 n).2 (Option β) fun n => K (.int .i64 n)) none) (fI n (Option β) fun n => K (.int .i64 n)) (inI64 n) = _
    cases h : inI64 n with
    | true =>
      dsimp only
      rw [fI_eq]
      cases wr with
      | false => simp only [tW, h, cond]
      | true => simp only [tW, cond]; rw [wrap64 h]
    | false => dsimp only; rw [fI_eq]
  all_goals (show cond _ (fI _ (Option β) _) none = _; rw [fI_eq])

def intOpF : BinOp → Program → Bool → TypeId → IntKind → Int → IntKind → Int → (β : Type) → (TV → Option β) → Option β := @BinOp.rec (fun _ => Program → Bool → TypeId → IntKind → Int → IntKind → Int → (β : Type) → (TV → Option β) → Option β)
  (fun P wr t k a k' b β K => @Bool.rec (fun _ => Option β) none (wF k wr (a + b) β K) (Nat.beq (kNum k) (kNum k')))
  (fun P wr t k a k' b β K => @Bool.rec (fun _ => Option β) none (wF k wr (a - b) β K) (Nat.beq (kNum k) (kNum k')))
  (fun P wr t k a k' b β K => @Bool.rec (fun _ => Option β) none (wF k wr (a * b) β K) (Nat.beq (kNum k) (kNum k')))
  (fun P wr t k a k' b β K => VC (tBin P wr t .quo (.int k a) (.int k' b)) fun v => forceX v K)
  (fun P wr t k a k' b β K => VC (tBin P wr t .rem (.int k a) (.int k' b)) fun v => forceX v K)
  (fun P wr t k a k' b β K => VC (tBin P wr t .and (.int k a) (.int k' b)) fun v => forceX v K)
  (fun P wr t k a k' b β K => VC (tBin P wr t .or (.int k a) (.int k' b)) fun v => forceX v K)
  (fun P wr t k a k' b β K => VC (tBin P wr t .xor (.int k a) (.int k' b)) fun v => forceX v K)
  (fun P wr t k a k' b β K => VC (tBin P wr t .shl (.int k a) (.int k' b)) fun v => forceX v K)
  (fun P wr t k a k' b β K => VC (tBin P wr t .shr (.int k a) (.int k' b)) fun v => forceX v K)
  (fun P wr t k a k' b β K => VC (tBin P wr t .andNot (.int k a) (.int k' b)) fun v => forceX v K)
  (fun P wr t k a k' b β K => @Bool.rec (fun _ => Option β) none (fB (eqF a b) (Option β) fun c => K (.bool c)) (Nat.beq (kNum k) (kNum k')))
  (fun P wr t k a k' b β K => @Bool.rec (fun _ => Option β) none (@Bool.rec (fun _ => Option β) (K (.bool true)) (K (.bool false)) (eqF a b)) (Nat.beq (kNum k) (kNum k')))
  (fun P wr t k a k' b β K => @Bool.rec (fun _ => Option β) none (fB (ltI a b) (Option β) fun c => K (.bool c)) (Nat.beq (kNum k) (kNum k')))
  (fun P wr t k a k' b β K => @Bool.rec (fun _ => Option β) none (fB (leI a b) (Option β) fun c => K (.bool c)) (Nat.beq (kNum k) (kNum k')))
  (fun P wr t k a k' b β K => @Bool.rec (fun _ => Option β) none (fB (ltI b a) (Option β) fun c => K (.bool c)) (Nat.beq (kNum k) (kNum k')))
  (fun P wr t k a k' b β K => @Bool.rec (fun _ => Option β) none (fB (leI b a) (Option β) fun c => K (.bool c)) (Nat.beq (kNum k) (kNum k')))
theorem beq_kNum (k k' : IntKind) : Nat.beq (kNum k) (kNum k') = decide (k = k') := by cases k <;> cases k' <;> rfl
theorem intOpF_eq (op : BinOp) (P : Program) (wr : Bool) (t : TypeId) (k : IntKind) (a : Int) (k' : IntKind) (b : Int) (β : Type) (K : TV → Option β) : intOpF op P wr t k a k' b β K = VC (tBin P wr t op (.int k a) (.int k' b)) K := by
  cases op <;> simp only [intOpF, forceX_eq, beq_kNum, wF_eq, fB_eq, eqF_eq, ltI_eq, leI_eq] <;> simp only [tBin, tShift] <;> (by_cases hk : k = k') <;> simp only [hk, decide_true, decide_false, if_true, if_false, tIntOp, VC, cond, reduceCtorEq]
  cases h : a == b <;> simp [bne, h]

def strOpF : BinOp → Program → Bool → TypeId → List UInt8 → List UInt8 → (β : Type) → (TV → Option β) → Option β := @BinOp.rec (fun _ => Program → Bool → TypeId → List UInt8 → List UInt8 → (β : Type) → (TV → Option β) → Option β)
  (fun P wr t a b β K => @Bool.rec (fun _ => Option β) none (appC UInt8 a b (Option β) fun c => K (.str c)) (Nat.ble (lenC UInt8 a + lenC UInt8 b) 9223372036854775807))
  (fun P wr t a b β K => VC (tBin P wr t .sub (.str a) (.str b)) fun v => forceX v K)
  (fun P wr t a b β K => VC (tBin P wr t .mul (.str a) (.str b)) fun v => forceX v K)
  (fun P wr t a b β K => VC (tBin P wr t .quo (.str a) (.str b)) fun v => forceX v K)
  (fun P wr t a b β K => VC (tBin P wr t .rem (.str a) (.str b)) fun v => forceX v K)
  (fun P wr t a b β K => VC (tBin P wr t .and (.str a) (.str b)) fun v => forceX v K)
  (fun P wr t a b β K => VC (tBin P wr t .or (.str a) (.str b)) fun v => forceX v K)
  (fun P wr t a b β K => VC (tBin P wr t .xor (.str a) (.str b)) fun v => forceX v K)
  (fun P wr t a b β K => VC (tBin P wr t .shl (.str a) (.str b)) fun v => forceX v K)
  (fun P wr t a b β K => VC (tBin P wr t .shr (.str a) (.str b)) fun v => forceX v K)
  (fun P wr t a b β K => VC (tBin P wr t .andNot (.str a) (.str b)) fun v => forceX v K)
  (fun P wr t a b β K => fB (eqStrF a b) (Option β) fun c => K (.bool c))
  (fun P wr t a b β K => @Bool.rec (fun _ => Option β) (K (.bool true)) (K (.bool false)) (eqStrF a b))
  (fun P wr t a b β K => VC (tBin P wr t .lss (.str a) (.str b)) fun v => forceX v K)
  (fun P wr t a b β K => VC (tBin P wr t .leq (.str a) (.str b)) fun v => forceX v K)
  (fun P wr t a b β K => VC (tBin P wr t .gtr (.str a) (.str b)) fun v => forceX v K)
  (fun P wr t a b β K => VC (tBin P wr t .geq (.str a) (.str b)) fun v => forceX v K)
theorem strOpF_eq (op : BinOp) (P : Program) (wr : Bool) (t : TypeId) (a b : List UInt8) (β : Type) (K : TV → Option β) : strOpF op P wr t a b β K = VC (tBin P wr t op (.str a) (.str b)) K := by
  cases op
  case add =>
    show @Bool.rec (fun _ => Option β) none (appC UInt8 a b (Option β) fun c => K (.str c)) (Nat.ble (lenC UInt8 a + lenC UInt8 b) 9223372036854775807) = _
    rw [lenC_eq, lenC_eq, appC_eq, bool_rec_eq]
    rfl
  case eql =>
    show fB (eqStrF a b) (Option β) (fun c => K (.bool c)) = _
    rw [fB_eq, eqStrF_eq]; rfl
  case neq =>
    show @Bool.rec (fun _ => Option β) (K (.bool true)) (K (.bool false)) (eqStrF a b) = _
    rw [eqStrF_eq]
    have e : VC (tBin P wr t .neq (.str a) (.str b)) K = K (.bool (!(a == b))) := rfl
    rw [e]
    cases a == b <;> rfl
  all_goals (unfold strOpF; dsimp only; simp only [forceX_eq])

def binI (k : IntKind) (n : Int) (y : TV) (P : Program) (wr : Bool) (t : TypeId) (op : BinOp) (β : Type) (K : TV → Option β) : Option β := (@TV.rec (fun _ => IntKind → Int → Program → Bool → TypeId → BinOp → (β : Type) → (TV → Option β) → Option β) (fun _ => PUnit)
    (fun k n P wr t op β K => VC (tBin P wr t op (.int k n) .undef) fun v => forceX v K)
    (fun a b k n P wr t op β K => intOpF op P wr t k n a b β K)
    (fun a k n P wr t op β K => VC (tBin P wr t op (.int k n) (.bool a)) fun v => forceX v K)
    (fun k n P wr t op β K => VC (tBin P wr t op (.int k n) .tt) fun v => forceX v K)
    (fun k n P wr t op β K => VC (tBin P wr t op (.int k n) .ff) fun v => forceX v K)
    (fun a k n P wr t op β K => VC (tBin P wr t op (.int k n) (.str a)) fun v => forceX v K)
    (fun k n P wr t op β K => VC (tBin P wr t op (.int k n) .nilp) fun v => forceX v K)
    (fun a b k n P wr t op β K => VC (tBin P wr t op (.int k n) (.ref a b)) fun v => forceX v K)
    (fun a b c k n P wr t op β K => VC (tBin P wr t op (.int k n) (.tl a b c)) fun v => forceX v K)
    (fun a b c _ k n P wr t op β K => VC (tBin P wr t op (.int k n) (.ll a b c)) fun v => forceX v K)
    (fun a b _ k n P wr t op β K => VC (tBin P wr t op (.int k n) (.ep a b)) fun v => forceX v K)
    (fun a b k n P wr t op β K => VC (tBin P wr t op (.int k n) (.arr a b)) fun v => forceX v K)
    (fun a b c d k n P wr t op β K => VC (tBin P wr t op (.int k n) (.ap a b c d)) fun v => forceX v K)
    (fun k n P wr t op β K => VC (tBin P wr t op (.int k n) .nilf) fun v => forceX v K)
    (fun k n P wr t op β K => VC (tBin P wr t op (.int k n) .mapn) fun v => forceX v K)
    (fun a k n P wr t op β K => VC (tBin P wr t op (.int k n) (.mapr a)) fun v => forceX v K)
    (fun a b _ k n P wr t op β K => VC (tBin P wr t op (.int k n) (.func a b)) fun v => forceX v K)
    (fun a _ k n P wr t op β K => VC (tBin P wr t op (.int k n) (.agg a)) fun v => forceX v K)
    (fun a _ k n P wr t op β K => VC (tBin P wr t op (.int k n) (.tup a)) fun v => forceX v K)
    PUnit.unit
    (fun _ _ _ _ => PUnit.unit)) y k n P wr t op β K
def binS (l : List UInt8) (y : TV) (P : Program) (wr : Bool) (t : TypeId) (op : BinOp) (β : Type) (K : TV → Option β) : Option β := (@TV.rec (fun _ => List UInt8 → Program → Bool → TypeId → BinOp → (β : Type) → (TV → Option β) → Option β) (fun _ => PUnit)
    (fun l P wr t op β K => VC (tBin P wr t op (.str l) .undef) fun v => forceX v K)
    (fun a b l P wr t op β K => VC (tBin P wr t op (.str l) (.int a b)) fun v => forceX v K)
    (fun a l P wr t op β K => VC (tBin P wr t op (.str l) (.bool a)) fun v => forceX v K)
    (fun l P wr t op β K => VC (tBin P wr t op (.str l) .tt) fun v => forceX v K)
    (fun l P wr t op β K => VC (tBin P wr t op (.str l) .ff) fun v => forceX v K)
    (fun a l P wr t op β K => strOpF op P wr t l a β K)
    (fun l P wr t op β K => VC (tBin P wr t op (.str l) .nilp) fun v => forceX v K)
    (fun a b l P wr t op β K => VC (tBin P wr t op (.str l) (.ref a b)) fun v => forceX v K)
    (fun a b c l P wr t op β K => VC (tBin P wr t op (.str l) (.tl a b c)) fun v => forceX v K)
    (fun a b c _ l P wr t op β K => VC (tBin P wr t op (.str l) (.ll a b c)) fun v => forceX v K)
    (fun a b _ l P wr t op β K => VC (tBin P wr t op (.str l) (.ep a b)) fun v => forceX v K)
    (fun a b l P wr t op β K => VC (tBin P wr t op (.str l) (.arr a b)) fun v => forceX v K)
    (fun a b c d l P wr t op β K => VC (tBin P wr t op (.str l) (.ap a b c d)) fun v => forceX v K)
    (fun l P wr t op β K => VC (tBin P wr t op (.str l) .nilf) fun v => forceX v K)
    (fun l P wr t op β K => VC (tBin P wr t op (.str l) .mapn) fun v => forceX v K)
    (fun a l P wr t op β K => VC (tBin P wr t op (.str l) (.mapr a)) fun v => forceX v K)
    (fun a b _ l P wr t op β K => VC (tBin P wr t op (.str l) (.func a b)) fun v => forceX v K)
    (fun a _ l P wr t op β K => VC (tBin P wr t op (.str l) (.agg a)) fun v => forceX v K)
    (fun a _ l P wr t op β K => VC (tBin P wr t op (.str l) (.tup a)) fun v => forceX v K)
    PUnit.unit
    (fun _ _ _ _ => PUnit.unit)) y l P wr t op β K
def binF : TV → TV → Program → Bool → TypeId → BinOp → (β : Type) → (TV → Option β) → Option β := @TV.rec (fun _ => TV → Program → Bool → TypeId → BinOp → (β : Type) → (TV → Option β) → Option β) (fun _ => PUnit)
    (fun y P wr t op β K => VC (tBin P wr t op .undef y) fun v => forceX v K)
    (fun a b y P wr t op β K => binI a b y P wr t op β K)
    (fun a y P wr t op β K => VC (tBin P wr t op (.bool a) y) fun v => forceX v K)
    (fun y P wr t op β K => VC (tBin P wr t op .tt y) fun v => forceX v K)
    (fun y P wr t op β K => VC (tBin P wr t op .ff y) fun v => forceX v K)
    (fun a y P wr t op β K => binS a y P wr t op β K)
    (fun y P wr t op β K => VC (tBin P wr t op .nilp y) fun v => forceX v K)
    (fun a b y P wr t op β K => VC (tBin P wr t op (.ref a b) y) fun v => forceX v K)
    (fun a b c y P wr t op β K => VC (tBin P wr t op (.tl a b c) y) fun v => forceX v K)
    (fun a b c _ y P wr t op β K => VC (tBin P wr t op (.ll a b c) y) fun v => forceX v K)
    (fun a b _ y P wr t op β K => VC (tBin P wr t op (.ep a b) y) fun v => forceX v K)
    (fun a b y P wr t op β K => VC (tBin P wr t op (.arr a b) y) fun v => forceX v K)
    (fun a b c d y P wr t op β K => VC (tBin P wr t op (.ap a b c d) y) fun v => forceX v K)
    (fun y P wr t op β K => VC (tBin P wr t op .nilf y) fun v => forceX v K)
    (fun y P wr t op β K => VC (tBin P wr t op .mapn y) fun v => forceX v K)
    (fun a y P wr t op β K => VC (tBin P wr t op (.mapr a) y) fun v => forceX v K)
    (fun a b _ y P wr t op β K => VC (tBin P wr t op (.func a b) y) fun v => forceX v K)
    (fun a _ y P wr t op β K => VC (tBin P wr t op (.agg a) y) fun v => forceX v K)
    (fun a _ y P wr t op β K => VC (tBin P wr t op (.tup a) y) fun v => forceX v K)
    PUnit.unit
    (fun _ _ _ _ => PUnit.unit)
theorem binF_eq (P : Program) (wr : Bool) (t : TypeId) (op : BinOp) (x y : TV) (β : Type) (K : TV → Option β) : binF x y P wr t op β K = VC (tBin P wr t op x y) K := by
  cases x
  case int k a =>
    show binI k a y P wr t op β K = _
    cases y
    case int k' b => exact intOpF_eq op P wr t k a k' b β K
    all_goals (unfold binI; dsimp only; simp only [forceX_eq])
  case str a =>
    show binS a y P wr t op β K = _
    cases y
    case str b => exact strOpF_eq op P wr t a b β K
    all_goals (unfold binS; dsimp only; simp only [forceX_eq])
  all_goals (unfold binF; dsimp only; simp only [forceX_eq])

def nilF : TV → (β : Type) → (TV → Option β) → Option β := @TV.rec (fun _ => (β : Type) → (TV → Option β) → Option β) (fun _ => PUnit)
    (fun β K => none)
    (fun a b β K => none)
    (fun a β K => none)
    (fun β K => none)
    (fun β K => none)
    (fun a β K => none)
    (fun β K => none)
    (fun a b β K => K (.ref a b))
    (fun a b c β K => none)
    (fun a b c _ β K => none)
    (fun a b _ β K => K (.ep a b))
    (fun a b β K => none)
    (fun a b c d β K => K (.ap a b c d))
    (fun β K => none)
    (fun β K => none)
    (fun a β K => none)
    (fun a b _ β K => none)
    (fun a _ β K => none)
    (fun a _ β K => none)
    PUnit.unit
    (fun _ _ _ _ => PUnit.unit)
theorem nilF_eq (x : TV) (β : Type) (K : TV → Option β) : nilF x β K = VC (tNil x) K := by cases x <;> rfl
end
end Go.Proofs.YtmacghaihlfcpaaGreat.Abs
