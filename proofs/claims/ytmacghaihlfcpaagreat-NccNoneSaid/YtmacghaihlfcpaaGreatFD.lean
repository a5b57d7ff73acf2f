/- Operations carried out on trees. (Printed by gf3.py.) -/
import Derived.Test.YtmacghaihlfcpaaGreatFC
namespace Go.Proofs.YtmacghaihlfcpaaGreat.Abs
noncomputable section
open Go Go.ChangeShapes Go.WideShapes Go.ChangeAt Go.RowKit
set_option linter.unusedVariables false
set_option linter.unusedSimpArgs false

/-! stores -/

def scal : TV → Bool := @TV.rec (fun _ => Bool) (fun _ => PUnit)
    false
    (fun a b => true)
    (fun a => true)
    true
    true
    (fun a => true)
    true
    (fun a b => true)
    (fun a b c => true)
    (fun a b c _ => true)
    (fun a b _ => true)
    (fun a b => true)
    (fun a b c d => false)
    true
    true
    (fun a => true)
    (fun a b _ => true)
    (fun a _ => false)
    (fun a _ => false)
    PUnit.unit
    (fun _ _ _ _ => PUnit.unit)
def szOne (P : Program) (t : TypeId) : Bool := match P.info? t with
  | some i => Nat.beq i.size 1
  | none => false
def stOb (y : TV) (k : Nat) : TOb → (β : Type) → (TOb → Option β) → Option β := @TOb.rec (fun _ => (β : Type) → (TOb → Option β) → Option β) (fun cs ot l β c => @Bool.rec (fun _ => Option β) none (@Bool.rec (fun _ => Option β) (setC TV y cs k β fun cs => c (.cells cs ot l)) none (Nat.beq ot mapT)) l) (fun _ _ _ _ β c => none)
def stG (P : Program) (s : List TOb) (t : TypeId) (x y : TV) (β : Type) (Ks : List TOb → Option β) : Option β := match tStoreAt P s t x y with
  | some (g, s') => cond g (forceW (fmTgt x) s' Ks) none
  | none => none

def stX : TV → TV → Program → List TOb → TypeId → (β : Type) → (List TOb → Option β) → Option β := @TV.rec (fun _ => TV → Program → List TOb → TypeId → (β : Type) → (List TOb → Option β) → Option β) (fun _ => PUnit)
    (fun y P s t β Ks => stG P s t .undef y β Ks)
    (fun a b y P s t β Ks => stG P s t (.int a b) y β Ks)
    (fun a y P s t β Ks => stG P s t (.bool a) y β Ks)
    (fun y P s t β Ks => stG P s t .tt y β Ks)
    (fun y P s t β Ks => stG P s t .ff y β Ks)
    (fun a y P s t β Ks => stG P s t (.str a) y β Ks)
    (fun y P s t β Ks => stG P s t .nilp y β Ks)
    (fun a b y P s t β Ks => @Bool.rec (fun _ => Option β) none (fc y (Option β) fun y => obC TOb (stOb y b) s a β Ks) (szOne P t))
    (fun a b c y P s t β Ks => stG P s t (.tl a b c) y β Ks)
    (fun a b c _ y P s t β Ks => stG P s t (.ll a b c) y β Ks)
    (fun a b _ y P s t β Ks => stG P s t (.ep a b) y β Ks)
    (fun a b y P s t β Ks => stG P s t (.arr a b) y β Ks)
    (fun a b c d y P s t β Ks => stG P s t (.ap a b c d) y β Ks)
    (fun y P s t β Ks => stG P s t .nilf y β Ks)
    (fun y P s t β Ks => stG P s t .mapn y β Ks)
    (fun a y P s t β Ks => stG P s t (.mapr a) y β Ks)
    (fun a b _ y P s t β Ks => stG P s t (.func a b) y β Ks)
    (fun a _ y P s t β Ks => stG P s t (.agg a) y β Ks)
    (fun a _ y P s t β Ks => stG P s t (.tup a) y β Ks)
    PUnit.unit
    (fun _ _ _ _ => PUnit.unit)
def storeF (x y : TV) (P : Program) (s : List TOb) (t : TypeId) (β : Type) (Ks : List TOb → Option β) : Option β := @Bool.rec (fun _ => Option β) (stG P s t x y β Ks) (stX x y P s t β Ks) (scal y)
def VS {β : Type} (o : Option (Bool × List TOb)) (Ks : List TOb → Option β) : Option β := match o with
  | some (g, s') => cond g (Ks s') none
  | none => none
theorem stG_eq (P : Program) (s : List TOb) (t : TypeId) (x y : TV) (β : Type) (Ks : List TOb → Option β) : stG P s t x y β Ks = VS (tStoreAt P s t x y) Ks := by
  unfold stG VS
  split <;> simp only [forceW_eq]
theorem storeF_eq (P : Program) (s : List TOb) (t : TypeId) (x y : TV) (β : Type) (Ks : List TOb → Option β) : storeF x y P s t β Ks = VS (tStoreAt P s t x y) Ks := by
  unfold storeF
  cases hy : scal y with
  | false => exact stG_eq ..
  | true =>
    show stX x y P s t β Ks = _
    have h1 : tCells y = some [y] ∧ tone y = true := by cases y <;> first | exact ⟨rfl, rfl⟩ | cases hy
    cases x
    case ref j k =>
      show @Bool.rec (fun _ => Option β) none (fc y (Option β) fun y => obC TOb (stOb y k) s j β Ks) (szOne P t) = _
      rw [fc_eq, obC_eq]
      simp only [tStoreAt, h1.1, szOne]
      cases hi : P.info? t with
      | none => rfl
      | some i =>
        dsimp only
        cases hz : Nat.beq i.size 1 with
        | false =>
          have : ¬ (i.size = [y].length ∧ [y].all tone = true) := fun k => by rw [show i.size = 1 from k.1] at hz; cases hz
          rw [if_neg this]; rfl
        | true =>
          have hz := Nat.eq_of_beq_eq_true hz
          rw [if_pos ⟨hz, by simp [h1.2]⟩]
          cases hs : s[j]? with
          | none => rfl
          | some ob =>
            cases ob with
            | tarr => rfl
            | cells cs ot l =>
              cases l with
              | false => rfl
              | true =>
                show @Bool.rec (fun _ => Option β) (setC TV y cs k β fun cs' => Ks (s.set j (.cells cs' ot true))) none (Nat.beq ot mapT) = _
                cases hm : Nat.beq ot mapT with
                | true =>
                  have := Nat.eq_of_beq_eq_true hm
                  dsimp only
                  rw [if_neg (by intro q; exact q.1.2 this)]
                  rfl
                | false =>
                  have : ot ≠ mapT := fun e => by subst e; rw [Nat.beq_refl] at hm; cases hm
                  dsimp only
                  rw [setC_eq]
                  by_cases hk : k < cs.length
                  · rw [if_pos hk, if_pos ⟨⟨rfl, this⟩, hk⟩]
                    have : tsplice cs k [y] = cs.set k y := by
                      unfold tsplice
                      rw [List.set_eq_take_append_cons_drop, if_pos hk]
                      simp
                    rw [this]; rfl
                  · rw [if_neg hk, if_neg (by simp; omega)]; rfl
    all_goals exact stG_eq ..
/-! calls -/

def sfF : TV → (β : Type) → (TV → β) → β := plF
theorem sfF_eq (v : TV) (β : Type) (k : TV → β) : sfF v β k = k (tsoft v) := by
  show plF v β k = _
  rw [plF_eq]
  cases v
  case tl t xs g => cases g <;> rfl
  case ll cs n g => cases g <;> rfl
  all_goals rfl
def argsF (sh : Sh) (T : FT sh) (l : List Operand) (fcs0 : List TV) (β : Type) (k : List TV → β) : β := @List.rec Operand (fun _ => (sh : Sh) → FT sh → List TV → (β : Type) → (List TV → β) → β) (fun sh T r β k => fcs r β k) (fun y _ ih sh T r β k => sfF (evT sh y T) β fun v => ih sh T r β fun l => k (v :: l)) l sh T fcs0 β k
theorem argsF_eq (sh : Sh) (T : FT sh) (r : List TV) (β : Type) : ∀ (l : List Operand) (k : List TV → β), argsF sh T l r β k = k ((l.map fun y => tsoft (tEval (toL sh T) y)) ++ r)
  | [], k => fcs_eq r k
  | y :: l, k => by
    show sfF (evT sh y T) β (fun v => argsF sh T l r β fun l => k (v :: l)) = _
    rw [sfF_eq, argsF_eq sh T r β l, evT_eq]
    rfl

def frR : TV → Bool := @TV.rec (fun _ => Bool) (fun _ => Bool)
    true
    (fun _ _ => true)
    (fun _ => true)
    true
    true
    (fun _ => true)
    true
    (fun _ _ => false)
    (fun _ _ _ => true)
    (fun a b c ih => ih)
    (fun a b ih => @Bool.rec (fun _ => Bool) ih false a.isEmpty)
    (fun _ _ => false)
    (fun _ _ _ _ => false)
    true
    true
    (fun _ => false)
    (fun a b ih => ih)
    (fun a ih => ih)
    (fun a ih => ih)
    true
    (fun _ _ x y => @Bool.rec (fun _ => Bool) false y x)
def frRs : List TV → Bool := @TV.rec_1 (fun _ => Bool) (fun _ => Bool)
    true
    (fun _ _ => true)
    (fun _ => true)
    true
    true
    (fun _ => true)
    true
    (fun _ _ => false)
    (fun _ _ _ => true)
    (fun a b c ih => ih)
    (fun a b ih => @Bool.rec (fun _ => Bool) ih false a.isEmpty)
    (fun _ _ => false)
    (fun _ _ _ _ => false)
    true
    true
    (fun _ => false)
    (fun a b ih => ih)
    (fun a ih => ih)
    (fun a ih => ih)
    true
    (fun _ _ x y => @Bool.rec (fun _ => Bool) false y x)
mutual
theorem frR_eq : ∀ v : TV, frR v = tfree v
  | .undef => rfl
  | .int .. => rfl
  | .bool _ => rfl
  | .tt => rfl
  | .ff => rfl
  | .str _ => rfl
  | .nilp => rfl
  | .nilf => rfl
  | .mapn => rfl
  | .mapr _ => rfl
  | .tl .. => rfl
  | .ref .. => rfl
  | .arr .. => rfl
  | .ap .. => rfl
  | .ll cs _ _ => by rw [tfree, ← frRs_eq cs]; rfl
  | .ep cs _ => by
    rw [tfree, ← frRs_eq cs]
    show @Bool.rec (fun _ => Bool) (frRs cs) false cs.isEmpty = _
    cases cs.isEmpty <;> rfl
  | .func _ cs => by rw [tfree, ← frRs_eq cs]; rfl
  | .agg cs => by rw [tfree, ← frRs_eq cs]; rfl
  | .tup cs => by rw [tfree, ← frRs_eq cs]; rfl
theorem frRs_eq : ∀ l : List TV, frRs l = tfrees l
  | [] => rfl
  | a :: l => by
    show @Bool.rec (fun _ => Bool) false (frRs l) (frR a) = _
    rw [tfrees, frR_eq a, frRs_eq l]
    cases tfree a <;> rfl
end

def mkV : TV → List Nat → List Nat := @TV.rec (fun _ => List Nat → List Nat) (fun _ => PUnit)
    (fun r => r)
    (fun a b r => r)
    (fun a r => r)
    (fun r => r)
    (fun r => r)
    (fun a r => r)
    (fun r => r)
    (fun a b r => r)
    (fun a b c r => @Tag.rec (fun _ => List Nat → List Nat) (fun r => r) (fun r => r) (fun t _ _ r => t :: r) c r)
    (fun a b c _ r => @Tag.rec (fun _ => List Nat → List Nat) (fun r => r) (fun r => r) (fun t _ _ r => t :: r) c r)
    (fun a b _ r => r)
    (fun a b r => r)
    (fun a b c d r => r)
    (fun r => r)
    (fun r => r)
    (fun a r => r)
    (fun a b _ r => r)
    (fun a _ r => r)
    (fun a _ r => r)
    PUnit.unit
    (fun _ _ _ _ => PUnit.unit)
def mkL (l : List TV) (r : List Nat) : List Nat := @List.rec TV (fun _ => List Nat) r (fun v _ ih => mkV v ih) l
def mkS (s : List TOb) : List Nat := @List.rec TOb (fun _ => List Nat) [] (fun o _ ih => @TOb.rec (fun _ => List Nat → List Nat) (fun cs _ _ r => mkL cs r) (fun _ _ _ _ r => r) o ih) s
theorem mkV_eq (v : TV) (r : List Nat) : mkV v r = (tmark v).toList ++ r := by
  cases v
  case tl t xs g => cases g <;> rfl
  case ll cs n g => cases g <;> rfl
  all_goals rfl
theorem mkL_eq : ∀ (l : List TV) (r : List Nat), mkL l r = l.filterMap tmark ++ r
  | [], r => rfl
  | v :: l, r => by
    show mkV v (mkL l r) = _
    rw [mkV_eq, mkL_eq l, List.filterMap_cons]
    cases tmark v <;> simp
theorem mkS_eq : ∀ s : List TOb, mkS s = tmarks s
  | [] => rfl
  | o :: s => by
    have ih := mkS_eq s
    unfold tmarks at ih ⊢
    rw [List.flatMap_cons, ← ih]
    cases o with
    | cells cs t l => exact mkL_eq cs _
    | tarr => rfl
def clrF (sh : Sh) (ts : List Nat) (T : FT sh) (β : Type) (k : FT sh → β) : β := @List.rec Nat (fun _ => (sh : Sh) → FT sh → (β : Type) → (FT sh → β) → β) (fun sh T β k => k T) (fun t ts _ sh T β k => toK sh T [] β fun l => fcs (tclears (t :: ts) l) β fun l => ofK sh l β fun T _ => k T) ts sh T β k
theorem clrF_eq {sh : Sh} {ts : List Nat} {T : FT sh} {β : Type} {k : FT sh → β} {K : List TV → β} (hk : ∀ T, k T = K (toL sh T)) : clrF sh ts T β k = clearK ts (toL sh T) K := by
  rw [clearK_eq]
  cases ts with
  | nil =>
    show k T = _
    rw [hk]
    congr 1
    simp only [tclears]
    rw [show tclear [] = id from funext tclear_nil, List.map_id]
  | cons t ts =>
    show toK sh T [] β (fun l => fcs (tclears (t :: ts) l) β fun l => ofK sh l β fun T _ => k T) = _
    rw [toK_eq, List.append_nil, fcs_eq, ofK_eq, hk, toL_ofL _ _ (by rw [tclears_length, toL_length])]
def callGen (sh : Sh) (cf : Cfg) (dst : Option Tmp) (f : FuncId) (args : List TV) (T : FT sh) (s : List TOb) (β : Type) (k : FT sh → List TOb → Option β) : Option β :=
  cf.C f β args s fun r s' => clrF sh (mkS s) T (Option β) fun T => plF r (Option β) fun r => putF dst sh r T (Option β) fun T => k T s'
def callOwn (sh : Sh) (cf : Cfg) (dst : Option Tmp) (f : FuncId) (args : List TV) (T : FT sh) (s : List TOb) (β : Type) (k : FT sh → List TOb → Option β) : Option β :=
  cf.C f β args s fun r s' => clrF sh (mkS s) T (Option β) fun T => putF dst sh r T (Option β) fun T => k T s'
def callRet (sh : Sh) (dst : Option Tmp) (T : FT sh) (s : List TOb) (β : Type) (k : FT sh → List TOb → Option β) (r : TV) (s' : List TOb) (gen : Option β) : Option β :=
  @List.rec TOb (fun _ => Option β) (@Bool.rec (fun _ => Option β) gen (plF r (Option β) fun r => putF dst sh r T (Option β) fun T => k T s) (frR r)) (fun _ _ _ => gen) s'
def callGo (f : FuncId) (fcs0 : List TV) (c : Call) (sh : Sh) (sc : Sc) (cf : Cfg) (dst : Option Tmp) (T : FT sh) (s : List TOb) (β : Type) (k : FT sh → List TOb → Option β) : Option β :=
  argsF sh T c.args.toList fcs0 (Option β) fun args => @Bool.rec (fun _ => Option β) (@Bool.rec (fun _ => Option β) (callGen sh cf dst f args T s β k) (fbk sh sc cf dst (.call c) T s β k) (inN f sc.rd))
    (@Bool.rec (fun _ => Option β) (cf.C f β args [] fun r s' => callRet sh dst T s β k r s' (callGen sh cf dst f args T s β k)) (callOwn sh cf dst f args T s β k) (inN f sc.rd)) (frRs args)

def fnF (fn : Fn) (fcs0 : List TV) : Call → (sh : Sh) → Sc → Cfg → Option Tmp → FT sh → List TOb → (β : Type) → (FT sh → List TOb → Option β) → Option β := @Fn.rec (fun _ => List TV → Call → (sh : Sh) → Sc → Cfg → Option Tmp → FT sh → List TOb → (β : Type) → (FT sh → List TOb → Option β) → Option β) (fun f fcs0 c sh sc cf dst T s β k => callGo f fcs0 c sh sc cf dst T s β k) (fun _ _ _ _ _ _ _ _ _ _ _ => none) (fun _ _ _ _ _ _ _ _ _ _ _ _ => none) (fun _ _ _ _ _ _ _ _ _ _ _ _ _ _ => none) (fun _ _ _ _ _ _ _ _ _ _ _ => none) fn fcs0
def callV : TV → Call → (sh : Sh) → Sc → Cfg → Option Tmp → FT sh → List TOb → (β : Type) → (FT sh → List TOb → Option β) → Option β := @TV.rec (fun _ => Call → (sh : Sh) → Sc → Cfg → Option Tmp → FT sh → List TOb → (β : Type) → (FT sh → List TOb → Option β) → Option β) (fun _ => PUnit)
    (fun c sh sc cf dst T s β k => none)
    (fun a b c sh sc cf dst T s β k => none)
    (fun a c sh sc cf dst T s β k => none)
    (fun c sh sc cf dst T s β k => none)
    (fun c sh sc cf dst T s β k => none)
    (fun a c sh sc cf dst T s β k => none)
    (fun c sh sc cf dst T s β k => none)
    (fun a b c sh sc cf dst T s β k => none)
    (fun a b c c sh sc cf dst T s β k => none)
    (fun a b c _ c sh sc cf dst T s β k => none)
    (fun a b _ c sh sc cf dst T s β k => none)
    (fun a b c sh sc cf dst T s β k => none)
    (fun a b c d c sh sc cf dst T s β k => none)
    (fun c sh sc cf dst T s β k => none)
    (fun c sh sc cf dst T s β k => none)
    (fun a c sh sc cf dst T s β k => none)
    (fun a b _ c sh sc cf dst T s β k => fnF a b c sh sc cf dst T s β k)
    (fun a _ c sh sc cf dst T s β k => none)
    (fun a _ c sh sc cf dst T s β k => none)
    PUnit.unit
    (fun _ _ _ _ => PUnit.unit)
def isLen : Builtin → Bool := fun b => match b with
  | .len => true
  | _ => false
def lenArg (c : Call) : Option (Operand × TypeId) := match c.args.toList, c.argTypes.toList with
  | [x], [t] => some (x, t)
  | _, _ => none

def lenV : TV → Program → TypeId → (β : Type) → Option β → (TV → Option β) → Option β := @TV.rec (fun _ => Program → TypeId → (β : Type) → Option β → (TV → Option β) → Option β) (fun _ => PUnit)
    (fun P t β d K => d)
    (fun a b P t β d K => d)
    (fun a P t β d K => d)
    (fun P t β d K => d)
    (fun P t β d K => d)
    (fun a P t β d K => @Bool.rec (fun _ => Option β) d (fN (lenC UInt8 a) (Option β) fun n => K (.int .i64 (.ofNat n))) (isStr P t))
    (fun P t β d K => d)
    (fun a b P t β d K => d)
    (fun a b c P t β d K => @Bool.rec (fun _ => Option β) d (fN (lenC (El a) b) (Option β) fun n => K (.int .i64 (.ofNat n))) (isSl P t))
    (fun a b c _ P t β d K => @Bool.rec (fun _ => Option β) d (fN (b) (Option β) fun n => K (.int .i64 (.ofNat n))) (isSl P t))
    (fun a b _ P t β d K => d)
    (fun a b P t β d K => @Bool.rec (fun _ => Option β) d (fN (b) (Option β) fun n => K (.int .i64 (.ofNat n))) (isSl P t))
    (fun a b c d P t β d K => d)
    (fun P t β d K => d)
    (fun P t β d K => d)
    (fun a P t β d K => d)
    (fun a b _ P t β d K => d)
    (fun a _ P t β d K => d)
    (fun a _ P t β d K => d)
    PUnit.unit
    (fun _ _ _ _ => PUnit.unit)
theorem lenV_eq (x : TV) (P : Program) (t : TypeId) (β : Type) (d : Option β) (K : TV → Option β) : lenV x P t β d K = match tLen P t x with | some (g, v) => cond g (K v) none | none => d := by
  cases x
  case str a =>
    show @Bool.rec (fun _ => Option β) d (fN (lenC UInt8 a) (Option β) fun n => K (.int .i64 (.ofNat n))) (isStr P t) = _
    rw [fN_eq, lenC_eq]
    simp only [tLen, isStr]
    split
    · rename_i h; rw [h]; rfl
    · rename_i h
      split
      · rename_i h2; split at h2
        · rename_i h3; exact absurd h3 h
        · cases h2
      · rfl
  case tl ty a g =>
    show @Bool.rec (fun _ => Option β) d (fN (lenC (El ty) a) (Option β) fun n => K (.int .i64 (.ofNat n))) (isSl P t) = _
    rw [fN_eq, lenC_eq]
    simp only [tLen, isSl]
    split
    · rename_i h; rw [h]; rfl
    · rename_i h
      split
      · rename_i h2; split at h2
        · rename_i h3; exact absurd h3 (h _)
        · cases h2
      · rfl
  case ll cs n g =>
    show @Bool.rec (fun _ => Option β) d (fN n (Option β) fun n => K (.int .i64 (.ofNat n))) (isSl P t) = _
    rw [fN_eq]
    simp only [tLen, isSl]
    split
    · rename_i h; rw [h]; rfl
    · rename_i h
      split
      · rename_i h2; split at h2
        · rename_i h3; exact absurd h3 (h _)
        · cases h2
      · rfl
  case arr cs n =>
    show @Bool.rec (fun _ => Option β) d (fN n (Option β) fun n => K (.int .i64 (.ofNat n))) (isSl P t) = _
    rw [fN_eq]
    simp only [tLen, isSl]
    split
    · rename_i h; rw [h]; rfl
    · rename_i h
      split
      · rename_i h2; split at h2
        · rename_i h3; exact absurd h3 (h _)
        · cases h2
      · rfl
  all_goals rfl
/-! append -/
def clT (t0 : Nat) (v : TV) : TV := @List.rec Nat (fun _ => TV → TV) (fun v => v) (fun m _ _ v => @Bool.rec (fun _ => TV) v (tplain v) (Nat.beq m t0)) (mkV v []) v
theorem clT_eq (t0 : Nat) (v : TV) : clT t0 v = tclear [t0] v := by
  unfold clT tclear
  rw [mkV_eq, List.append_nil]
  cases tmark v with
  | none => rfl
  | some m =>
    show @Bool.rec (fun _ => TV) v (tplain v) (Nat.beq m t0) = _
    dsimp only
    cases h : Nat.beq m t0 with
    | true => rw [Nat.eq_of_beq_eq_true h]; simp
    | false =>
      have : m ≠ t0 := fun e => by subst e; rw [Nat.beq_refl] at h; cases h
      simp [this]
def mpT (sh : Sh) (f : TV → TV) : FT sh → (β : Type) → (FT sh → β) → β := Sh.rec (motive := fun sh => FT sh → (β : Type) → (FT sh → β) → β) (fun v β k => fc (f v) β k)
  (fun a b iha ihb T => @Prod.rec (FT a) (FT b) (fun _ => (β : Type) → (FT a × FT b → β) → β) (fun A B β k => iha A β fun A => ihb B β fun B => k (A, B)) T) sh
theorem mpT_ex (f : TV → TV) : ∀ (sh : Sh) (T : FT sh), ∃ T', (∀ (β : Type) (k : FT sh → β), mpT sh f T β k = k T') ∧ toL sh T' = (toL sh T).map f
  | .leaf, v => ⟨f v, fun β k => fc_eq _ β k, rfl⟩
  | .node a b, T => by
    obtain ⟨A, h1, h2⟩ := mpT_ex f a (ftL T)
    obtain ⟨B, h3, h4⟩ := mpT_ex f b (ftR T)
    refine ⟨ftP A B, fun β k => ?_, ?_⟩
    · show mpT a f (ftL T) β (fun A => mpT b f (ftR T) β fun B => k (A, B)) = _
      rw [h1, h3]; rfl
    · show toL a A ++ toL b B = (toL a (ftL T) ++ toL b (ftR T)).map f
      rw [h2, h4, List.map_append]
def mapC (f : TV → TV) (l : List TV) (β : Type) (k : List TV → β) : β := @List.rec TV (fun _ => (List TV → β) → β) (fun k => k []) (fun v _ ih k => fc (f v) β fun v => ih fun l => k (v :: l)) l k
theorem mapC_eq (f : TV → TV) (β : Type) : ∀ (l : List TV) (k : List TV → β), mapC f l β k = k (l.map f)
  | [], k => rfl
  | v :: l, k => by show fc (f v) β (fun v => mapC f l β fun l => k (v :: l)) = _; rw [fc_eq, mapC_eq f β l]; rfl
def clO (t0 : Nat) (o : TOb) (β : Type) (k : TOb → β) : β := @TOb.rec (fun _ => β) (fun cs t l => mapC (clT t0) cs β fun cs => k (.cells cs t l)) (fun ty xs t l => k (.tarr ty xs t l)) o
def clS (t0 : Nat) (s : List TOb) (β : Type) (k : List TOb → β) : β := @List.rec TOb (fun _ => (List TOb → β) → β) (fun k => k []) (fun o _ ih k => clO t0 o β fun o => ih fun l => k (o :: l)) s k
theorem clS_eq (t0 : Nat) (β : Type) : ∀ (s : List TOb) (k : List TOb → β), clS t0 s β k = k (tclearS [t0] s)
  | [], k => rfl
  | o :: s, k => by
    show clO t0 o β (fun o => clS t0 s β fun l => k (o :: l)) = _
    have e : ∀ (j : TOb → β), clO t0 o β j = j (tclearO [t0] o) := by
      intro j
      cases o with
      | tarr => rfl
      | cells cs t l =>
        show mapC (clT t0) cs β (fun cs => j (.cells cs t l)) = _
        rw [mapC_eq, show clT t0 = tclear [t0] from funext (clT_eq t0)]
        rfl
    rw [e, clS_eq t0 β s]
    rfl
def spC (α : Type) (l : List α) (β : Type) (k : List α → β) : β := @List.rec α (fun _ => (List α → β) → β) (fun k => k []) (fun a _ ih k => ih fun l => k (a :: l)) l k
theorem spC_eq {α β : Type} : ∀ (l : List α) (k : List α → β), spC α l β k = k l
  | [], k => rfl
  | a :: l, k => by show spC α l β (fun l => k (a :: l)) = _; rw [spC_eq l]
def fTl : TV → (β : Type) → (TV → β) → β := @TV.rec (fun _ => (β : Type) → (TV → β) → β) (fun _ => PUnit)
    (fun β k => forceX .undef k)
    (fun a b β k => forceX (.int a b) k)
    (fun a β k => forceX (.bool a) k)
    (fun β k => forceX .tt k)
    (fun β k => forceX .ff k)
    (fun a β k => forceX (.str a) k)
    (fun β k => forceX .nilp k)
    (fun a b β k => forceX (.ref a b) k)
    (fun a b c β k => spC (El a) b β fun l => k (.tl a l c))
    (fun a b c _ β k => forceX (.ll a b c) k)
    (fun a b _ β k => forceX (.ep a b) k)
    (fun a b β k => forceX (.arr a b) k)
    (fun a b c d β k => forceX (.ap a b c d) k)
    (fun β k => forceX .nilf k)
    (fun β k => forceX .mapn k)
    (fun a β k => forceX (.mapr a) k)
    (fun a b _ β k => forceX (.func a b) k)
    (fun a _ β k => forceX (.agg a) k)
    (fun a _ β k => forceX (.tup a) k)
    PUnit.unit
    (fun _ _ _ _ => PUnit.unit)
theorem fTl_eq (v : TV) (β : Type) (k : TV → β) : fTl v β k = k v := by
  cases v
  case tl ty xs g => exact spC_eq xs _
  all_goals (unfold fTl; dsimp only; simp only [forceX_eq])
/-- what is appended: whether it fits, the mark, the new row -/
def tA2 (P : Program) (d : Nat) (t : TypeId) (x y : TV) : Option (Bool × Option Nat × TV) :=
  match aElem P t with
  | none => none
  | some (e, size) =>
    match y with
    | .ll [] 0 _ => match x with
      | .tl ty xs g => some (true, none, x)
      | .ll [] 0 g => some (true, none, x)
      | _ => none
    | .tl ty ys _ => if size = ty.size ∧ fitsB P e size 0 = true then
        match tOwned ty e size d x with
        | some (xs, t0) => some (fits (xs.length + ys.length) (fitLim P e), some t0, .tl ty (xs ++ ys) (.own t0 e size))
        | none => none
      else none
    | _ => none
def clM (m : Option Nat) (fr : List TV) : List TV := match m with
  | none => fr
  | some t => tclears [t] fr
def clMS (m : Option Nat) (s : List TOb) : List TOb := match m with
  | none => s
  | some t => tclearS [t] s
theorem tA2_eq (P : Program) (d : Nat) (fr : List TV) (s : List TOb) (t : TypeId) (x y : TV) : tAppend P d fr s t x y = (tA2 P d t x y).map fun r => (r.1, clM r.2.1 fr, r.2.2, clMS r.2.1 s) := by
  unfold tAppend tA2
  cases aElem P t with
  | none => rfl
  | some p =>
    obtain ⟨e, size⟩ := p
    dsimp only
    cases y
    case ll cs n g =>
      cases cs with
      | cons => rfl
      | nil =>
        cases n with
        | succ => rfl
        | zero =>
          cases x
          case ll cs' n' g' => cases cs' <;> cases n' <;> rfl
          all_goals rfl
    case tl ty ys g =>
      dsimp only
      by_cases h : size = ty.size ∧ fitsB P e size 0 = true
      · rw [if_pos h, if_pos h]
        cases tOwned ty e size d x <;> rfl
      · rw [if_neg h, if_neg h]; rfl
    all_goals rfl
def isApp : Builtin → Bool := fun b => match b with
  | .append => true
  | _ => false
def appArg (c : Call) : Option (Operand × Operand × TypeId) := match c.args.toList, c.argTypes.toList with
  | [x, y], [t, t'] => if t = t' then some (x, y, t) else none
  | _, _ => none
def appM (m : Option Nat) (v : TV) (dst : Option Tmp) (sh : Sh) (T : FT sh) (s : List TOb) (β : Type) (k : FT sh → List TOb → Option β) : Option β := @Option.rec Nat (fun _ => Option β) (putF dst sh v T (Option β) fun T => k T s)
  (fun t0 => fN t0 (Option β) fun t0 => mpT sh (clT t0) T (Option β) fun T => putF dst sh v T (Option β) fun T => clS t0 s (Option β) fun s => k T s) m
def appF (c : Call) (sh : Sh) (sc : Sc) (cf : Cfg) (dst : Option Tmp) (T : FT sh) (s : List TOb) (β : Type) (k : FT sh → List TOb → Option β) : Option β := @Option.rec (Operand × Operand × TypeId) (fun _ => Option β) (fbk sh sc cf dst (.call c) T s β k)
  (fun q => match tA2 sc.P (1000 + dst.getD 0) q.2.2 (evT sh q.1 T) (evT sh q.2.1 T) with
    | some (g, m, v) => cond g (fTl v (Option β) fun v => appM m v dst sh T s β k) none
    | none => fbk sh sc cf dst (.call c) T s β k) (appArg c)
theorem appM_eq {m : Option Nat} {v : TV} {dst : Option Tmp} {sh : Sh} {T : FT sh} {s : List TOb} {β : Type} {k : FT sh → List TOb → Option β} {K : List TV → List TOb → Option β} (hk : ∀ T s, k T s = K (toL sh T) s) : appM m v dst sh T s β k = K (tPut (clM m (toL sh T)) dst v) (clMS m s) := by
  cases m with
  | none => exact putF_eq (K := fun fr => K fr s) fun T => hk T s
  | some t0 =>
    show fN t0 (Option β) (fun t0 => mpT sh (clT t0) T (Option β) fun T => putF dst sh v T (Option β) fun T => clS t0 s (Option β) fun s => k T s) = _
    rw [fN_eq]
    obtain ⟨T', h1, h2⟩ := mpT_ex (clT t0) sh T
    rw [h1]
    rw [putF_eq (K := fun fr => K fr (tclearS [t0] s)) fun T => by rw [clS_eq, hk]]
    rw [h2, show clT t0 = tclear [t0] from funext (clT_eq t0)]
    rfl
theorem appF_eq {c : Call} {sh : Sh} {sc : Sc} {cf : Cfg} {dst : Option Tmp} {T : FT sh} {s : List TOb} {β : Type} {k : FT sh → List TOb → Option β} {K : List TV → List TOb → Option β} (hc : c.callee = .builtin .append) (hk : ∀ T s, k T s = K (toL sh T) s) : appF c sh sc cf dst T s β k = execT sc cf dst (.call c) (toL sh T) s K := by
  unfold appF
  cases ha : appArg c with
  | none => exact fbk_eq hk
  | some q =>
    obtain ⟨x, y, t⟩ := q
    dsimp only
    rw [evT_eq, evT_eq, fbk_eq hk]
    split
    · rename_i g m v hv
      simp only [fTl_eq]
      rw [appM_eq hk]
      have h2 : ∃ t', c.args.toList = [x, y] ∧ c.argTypes.toList = [t, t'] ∧ t = t' := by
        unfold appArg at ha
        split at ha
        · rename_i h3 h4
          split at ha
          · rename_i h5; cases ha; exact ⟨_, h3, h4, h5⟩
          · cases ha
        · cases ha
      obtain ⟨t', h3, h4, h5⟩ := h2
      obtain ⟨callee, args, argTypes⟩ := c
      dsimp only at hc h3 h4
      subst hc
      have : tStepX sc.P sc.wrap 1000 (dst.any fun d => sc.arrs.contains d) (toL sh T) s dst (.call ⟨.builtin .append, args, argTypes⟩) = some (g, clM m (toL sh T), v, clMS m s) := by
        simp only [tStepX, tStep, h3, h4]
        rw [if_pos h5, tA2_eq, hv]
        rfl
      simp only [execT, this, forceX_eq, forceL_eq, putK_eq, forceS_eq]
    · rfl
def bltF (b : Builtin) (c : Call) (sh : Sh) (sc : Sc) (cf : Cfg) (dst : Option Tmp) (T : FT sh) (s : List TOb) (β : Type) (k : FT sh → List TOb → Option β) : Option β := @Bool.rec (fun _ => Option β) (@Bool.rec (fun _ => Option β) (fbk sh sc cf dst (.call c) T s β k) (appF c sh sc cf dst T s β k) (isApp b))
  (@Option.rec (Operand × TypeId) (fun _ => Option β) (fbk sh sc cf dst (.call c) T s β k) (fun r => lenV (evT sh r.1 T) sc.P r.2 β (fbk sh sc cf dst (.call c) T s β k) fun v => putF dst sh v T (Option β) fun T => k T s) (lenArg c)) (isLen b)
def callF (c : Call) (sh : Sh) (sc : Sc) (cf : Cfg) (dst : Option Tmp) (T : FT sh) (s : List TOb) (β : Type) (k : FT sh → List TOb → Option β) : Option β :=

  @Callee.rec (fun _ => Call → (sh : Sh) → Sc → Cfg → Option Tmp → FT sh → List TOb → (β : Type) → (FT sh → List TOb → Option β) → Option β) (fun x c sh sc cf dst T s β k => callV (evT sh x T) c sh sc cf dst T s β k) (fun _ _ c sh sc cf dst T s β k => fbk sh sc cf dst (.call c) T s β k) (fun b c sh sc cf dst T s β k => bltF b c sh sc cf dst T s β k) c.callee c sh sc cf dst T s β k
theorem callF_eq {c : Call} {sh : Sh} {sc : Sc} {cf : Cfg} {dst : Option Tmp} {T : FT sh} {s : List TOb} {β : Type} {k : FT sh → List TOb → Option β} {K : List TV → List TOb → Option β} (hk : ∀ T s, k T s = K (toL sh T) s) : callF c sh sc cf dst T s β k = execT sc cf dst (.call c) (toL sh T) s K := by
  obtain ⟨callee, args, argTypes⟩ := c
  cases callee with
  | invoke r m => exact fbk_eq hk
  | builtin b =>
    show bltF b ⟨.builtin b, args, argTypes⟩ sh sc cf dst T s β k = _
    unfold bltF
    cases hb : isLen b with
    | false =>
      cases hb2 : isApp b with
      | false => exact fbk_eq hk
      | true =>
        have hb3 : b = .append := by cases b <;> first | rfl | cases hb2
        subst hb3
        exact appF_eq rfl hk
    | true =>
      have hb : b = .len := by cases b <;> first | rfl | cases hb
      subst hb
      cases hl : lenArg ⟨.builtin .len, args, argTypes⟩ with
      | none => exact fbk_eq hk
      | some r =>
        obtain ⟨x, t⟩ := r
        show lenV (evT sh x T) sc.P t β (fbk sh sc cf dst (.call ⟨.builtin .len, args, argTypes⟩) T s β k) (fun v => putF dst sh v T (Option β) fun T => k T s) = _
        rw [lenV_eq, fbk_eq hk, evT_eq]
        have h2 : args.toList = [x] ∧ argTypes.toList = [t] := by
          simp only [lenArg] at hl
          split at hl
          · rename_i h3 h4; cases hl; exact ⟨h3, h4⟩
          · cases hl
        have e : execT sc cf dst (.call ⟨.builtin .len, args, argTypes⟩) (toL sh T) s K = match tStepX sc.P sc.wrap 1000 (dst.any fun d => sc.arrs.contains d) (toL sh T) s dst (.call ⟨.builtin .len, args, argTypes⟩) with
          | some (g, fr', v, s') => cond g (forceY true v fun v => putK fr' dst v fun fr2 => forceW .no s' fun s => K fr2 s) none
          | none => none := rfl
        split
        · rename_i g v hv
          rw [e]
          have : tStepX sc.P sc.wrap 1000 (dst.any fun d => sc.arrs.contains d) (toL sh T) s dst (.call ⟨.builtin .len, args, argTypes⟩) = some (g, toL sh T, v, s) := by
            simp only [tStepX, tStep, h2.1, h2.2, hv]
          rw [this]
          simp only [forceY_eq, putK_eq, forceW_eq]
          rw [putF_eq (K := fun fr => K fr s) (fun T => hk T s)]
        · rfl
  | value x =>
    show callV (evT sh x T) ⟨.value x, args, argTypes⟩ sh sc cf dst T s β k = _
    rw [evT_eq]
    have e : execT sc cf dst (.call ⟨.value x, args, argTypes⟩) (toL sh T) s K = (match tEval (toL sh T) x with
      | .func (.func f) fcs => forceL ((args.toList.map fun y => tsoft (tEval (toL sh T) y)) ++ fcs) fun args => match tfrees args with
        | true => match inN f sc.rd with
          | true => cf.C f β args s fun r s' => clearK (tmarks s) (toL sh T) fun fr => putK fr dst r fun fr => K fr s'
          | false => cf.C f β args [] fun r s' => match s', tfree r with
            | [], true => putK (toL sh T) dst (tplain r) fun fr => K fr s
            | _, _ => cf.C f β args s fun r s' => clearK (tmarks s) (toL sh T) fun fr => putK fr dst (tplain r) fun fr => K fr s'
        | false => match inN f sc.rd with
          | true => forceL (args.map (snapV s 4)) fun args => match tfrees args with
            | true => cf.C f β args [] fun r s' => match s', tflat r with
              | [], true => putK (toL sh T) dst (tplain r) fun fr => K fr s
              | _, _ => none
            | false => none
          | false => cf.C f β args s fun r s' => clearK (tmarks s) (toL sh T) fun fr => putK fr dst (tplain r) fun fr => K fr s'
      | _ => none) := rfl
    have gen : ∀ f as, callGen sh cf dst f as T s β k = cf.C f β as s fun r s' => clearK (tmarks s) (toL sh T) fun fr => putK fr dst (tplain r) fun fr => K fr s' := by
      intro f as
      unfold callGen
      congr 1
      funext r s'
      rw [mkS_eq]
      refine clrF_eq (K := fun fr => putK fr dst (tplain r) fun fr => K fr s') fun T => ?_
      rw [plF_eq, putF_eq (K := fun fr => K fr s') (fun T => hk T s'), putK_eq]
    cases hx : tEval (toL sh T) x
    case func fn fcs0 =>
      cases fn with
      | func f =>
        show callGo f fcs0 ⟨.value x, args, argTypes⟩ sh sc cf dst T s β k = _
        have e2 := e
        rw [hx] at e2
        rw [e2]
        dsimp only
        unfold callGo
        rw [argsF_eq, forceL_eq, frRs_eq]
        cases hfree : tfrees ((args.toList.map fun y => tsoft (tEval (toL sh T) y)) ++ fcs0) with
        | true =>
          dsimp only
          cases hn : inN f sc.rd with
          | true =>
            dsimp only
            unfold callOwn
            congr 1
            funext r s'
            rw [mkS_eq]
            refine clrF_eq (K := fun fr => putK fr dst r fun fr => K fr s') fun T => ?_
            rw [putF_eq (K := fun fr => K fr s') (fun T => hk T s'), putK_eq]
          | false =>
          dsimp only
          congr 1
          funext r s'
          unfold callRet
          rw [gen]
          cases s' with
          | nil =>
            dsimp only
            rw [frR_eq]
            cases tfree r with
            | true =>
              dsimp only
              rw [plF_eq, putF_eq (K := fun fr => K fr s) (fun T => hk T s), putK_eq]
            | false => rfl
          | cons o s' => rfl
        | false =>
          dsimp only
          cases hn : inN f sc.rd with
          | false => exact gen _ _
          | true =>
            dsimp only
            rw [fbk_eq hk, e2]
            dsimp only
            rw [forceL_eq]
            rw [hfree]
            simp only [hn]
      | _ => rw [e, hx]; rfl
    all_goals (rw [e, hx]; rfl)

end
end Go.Proofs.YtmacghaihlfcpaaGreat.Abs
