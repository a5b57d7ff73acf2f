/- Operations in order, on trees. (Printed by gf4.py.) -/
import Derived.Test.YtmacghaihlfcpaaGreatFD
namespace Go.Proofs.YtmacghaihlfcpaaGreat.Abs
noncomputable section
open Go Go.ChangeShapes Go.WideShapes Go.ChangeAt Go.RowKit
set_option linter.unusedVariables false
set_option linter.unusedSimpArgs false

def zeroA (P : Program) (t : TypeId) : Option (List TV) := if t = mapT then none else tZero P t
def allocF (t : TypeId) (dst : Option Tmp) (sh : Sh) (sc : Sc) (T : FT sh) (s : List TOb) (β : Type) (k : FT sh → List TOb → Option β) : Option β := @Option.rec (List TV) (fun _ => Option β) none (fun cs => fcs cs (Option β) fun cs => fN (lenC TOb s) (Option β) fun n => appC TOb s [.cells cs t true] (Option β) fun s => putF dst sh (.ref n 0) T (Option β) fun T => k T s) (zeroA sc.P t)

def tcF : TV → (β : Type) → (List TV → Option β) → Option β := @TV.rec (fun _ => (β : Type) → (List TV → Option β) → Option β) (fun _ => PUnit)
    (fun β k => none)
    (fun a b β k => k [(.int a b)])
    (fun a β k => k [(.bool a)])
    (fun β k => k [.tt])
    (fun β k => k [.ff])
    (fun a β k => k [(.str a)])
    (fun β k => k [.nilp])
    (fun a b β k => k [(.ref a b)])
    (fun a b c β k => k [(.tl a b c)])
    (fun a b c _ β k => k [(.ll a b c)])
    (fun a b _ β k => k [(.ep a b)])
    (fun a b β k => k [(.arr a b)])
    (fun a b c d β k => none)
    (fun β k => k [.nilf])
    (fun β k => k [.mapn])
    (fun a β k => k [(.mapr a)])
    (fun a b _ β k => k [(.func a b)])
    (fun a _ β k => mapC tplain a (Option β) k)
    (fun a _ β k => none)
    PUnit.unit
    (fun _ _ _ _ => PUnit.unit)
theorem tcF_eq (v : TV) (β : Type) (k : List TV → Option β) : tcF v β k = match tCells v with | some cs => k cs | none => none := by
  cases v
  case agg cs => exact mapC_eq tplain _ cs k
  all_goals rfl
def boxF (t : TypeId) (x : TV) (dst : Option Tmp) (sh : Sh) (T : FT sh) (s : List TOb) (β : Type) (k : FT sh → List TOb → Option β) : Option β := @Bool.rec (fun _ => Option β) (tcF x β fun cs => fN (lenC TOb s) (Option β) fun n => appC TOb s [.cells cs t true] (Option β) fun s => putF dst sh (.ref n 0) T (Option β) fun T => k T s) none (Nat.beq t mapT)

def pickV : TV → Operand → Operand → Operand → Option Tmp → (sh : Sh) → FT sh → (β : Type) → (FT sh → Option β) → Option β := @TV.rec (fun _ => Operand → Operand → Operand → Option Tmp → (sh : Sh) → FT sh → (β : Type) → (FT sh → Option β) → Option β) (fun _ => PUnit)
    (fun c x y dst sh T β k => none)
    (fun a b c x y dst sh T β k => none)
    (fun a c x y dst sh T β k => @Operand.rec (fun _ => Option β) (fun t => @Bool.rec (fun _ => Option β) ((setG sh t).un (Option β) .ff T fun T => putF dst sh (evT sh y T) T (Option β) k) ((setG sh t).un (Option β) .tt T fun T => putF dst sh (evT sh x T) T (Option β) k) a) (fun _ => none) (fun _ => none) (fun _ => none) c)
    (fun c x y dst sh T β k => putF dst sh (evT sh x T) T (Option β) k)
    (fun c x y dst sh T β k => putF dst sh (evT sh y T) T (Option β) k)
    (fun a c x y dst sh T β k => none)
    (fun c x y dst sh T β k => none)
    (fun a b c x y dst sh T β k => none)
    (fun a b c c x y dst sh T β k => none)
    (fun a b c _ c x y dst sh T β k => none)
    (fun a b _ c x y dst sh T β k => none)
    (fun a b c x y dst sh T β k => none)
    (fun a b c d c x y dst sh T β k => none)
    (fun c x y dst sh T β k => none)
    (fun c x y dst sh T β k => none)
    (fun a c x y dst sh T β k => none)
    (fun a b _ c x y dst sh T β k => none)
    (fun a _ c x y dst sh T β k => none)
    (fun a _ c x y dst sh T β k => none)
    PUnit.unit
    (fun _ _ _ _ => PUnit.unit)
def binX : TV → TV → Program → Bool → TypeId → BinOp → Operand → (β : Type) → (TV → Option β) → Option β := @TV.rec (fun _ => TV → Program → Bool → TypeId → BinOp → Operand → (β : Type) → (TV → Option β) → Option β) (fun _ => PUnit)
    (fun y P wr t op yo β K => binF .undef y P wr t op β K)
    (fun a b y P wr t op yo β K => binF (.int a b) y P wr t op β K)
    (fun a y P wr t op yo β K => binF (.bool a) y P wr t op β K)
    (fun y P wr t op yo β K => binF .tt y P wr t op β K)
    (fun y P wr t op yo β K => binF .ff y P wr t op β K)
    (fun a y P wr t op yo β K => binF (.str a) y P wr t op β K)
    (fun y P wr t op yo β K => binF .nilp y P wr t op β K)
    (fun a b y P wr t op yo β K => binF (.ref a b) y P wr t op β K)
    (fun a b c y P wr t op yo β K => VO (notnil P t op (.tl a b c) yo) K)
    (fun a b c _ y P wr t op yo β K => VO (notnil P t op (.ll a b c) yo) K)
    (fun a b _ y P wr t op yo β K => binF (.ep a b) y P wr t op β K)
    (fun a b y P wr t op yo β K => binF (.arr a b) y P wr t op β K)
    (fun a b c d y P wr t op yo β K => binF (.ap a b c d) y P wr t op β K)
    (fun y P wr t op yo β K => binF .nilf y P wr t op β K)
    (fun y P wr t op yo β K => binF .mapn y P wr t op β K)
    (fun a y P wr t op yo β K => binF (.mapr a) y P wr t op β K)
    (fun a b _ y P wr t op yo β K => binF (.func a b) y P wr t op β K)
    (fun a _ y P wr t op yo β K => binF (.agg a) y P wr t op β K)
    (fun a _ y P wr t op yo β K => binF (.tup a) y P wr t op β K)
    PUnit.unit
    (fun _ _ _ _ => PUnit.unit)
theorem binX_eq (P : Program) (wr : Bool) (t : TypeId) (op : BinOp) (x y : TV) (yo : Operand) (β : Type) (K : TV → Option β) : binX x y P wr t op yo β K = match tBin P wr t op x y with
    | some (g, v) => cond g (K v) none
    | none => match notnil P t op x yo with
      | some v => K v
      | none => none := by
  have other : (∀ l, tListOf x ≠ some l) → binF x y P wr t op β K = match tBin P wr t op x y with
    | some (g, v) => cond g (K v) none
    | none => match notnil P t op x yo with
      | some v => K v
      | none => none := by
    intro hn
    rw [binF_eq]
    cases tBin P wr t op x y with
    | some r => rfl
    | none =>
      have : notnil P t op x yo = none := by
        unfold notnil
        split
        · rename_i h; exact absurd h (hn _)
        · rename_i h; exact absurd h (hn _)
        · rfl
      rw [this]; rfl
  have lst : tBin P wr t op x y = none → VO (notnil P t op x yo) K = match tBin P wr t op x y with
    | some (g, v) => cond g (K v) none
    | none => match notnil P t op x yo with
      | some v => K v
      | none => none := by
    intro h
    rw [h]
    cases notnil P t op x yo <;> rfl
  cases x
  case tl ty xs g => exact lst (by cases y <;> rfl)
  case ll cs n g => exact lst (by cases y <;> rfl)
  all_goals exact other (fun l h => by cases h)

def execF : Op → Option Tmp → (sh : Sh) → Sc → Cfg → FT sh → List TOb → (β : Type) → (FT sh → List TOb → Option β) → Option β := @Op.rec (fun _ => Option Tmp → (sh : Sh) → Sc → Cfg → FT sh → List TOb → (β : Type) → (FT sh → List TOb → Option β) → Option β)
    (fun a dst sh sc cf T s β k => putF dst sh (evT sh a T) T (Option β) fun T => k T s)
    (fun a dst sh sc cf T s β k => putF dst sh (evT sh a T) T (Option β) fun T => k T s)
    (fun a b c dst sh sc cf T s β k => pickV (evT sh a T) a b c dst sh T β fun T => k T s)
    (fun a dst sh sc cf T s β k => allocF a dst sh sc T s β k)
    (fun a b dst sh sc cf T s β k => boxF a (evT sh b T) dst sh T s β k)
    (fun a b dst sh sc cf T s β k => VC (tBuild sc.P a (partsF sh T b.toList)) fun v => fA v (Option β) (fun v => putF dst sh v T (Option β) fun T => k T s))
    (fun a b c dst sh sc cf T s β k => VC (tBuildSlice sc.P a b (partsF sh T c.toList)) fun v => forceX v (fun v => putF dst sh v T (Option β) fun T => k T s))
    (fun a b c d dst sh sc cf T s β k => fbk sh sc cf dst (.insert a b c d) T s β k)
    (fun a b dst sh sc cf T s β k => loadF (evT sh b T) sc.P s a β (fun v => putF dst sh v T (Option β) fun T => k T s))
    (fun a b c dst sh sc cf T s β k => storeF (evT sh b T) (evT sh c T) sc.P s a β fun s => putF dst sh (.tup []) T (Option β) fun T => k T s)
    (fun a dst sh sc cf T s β k => fbk sh sc cf dst (.ready a) T s β k)
    (fun a dst sh sc cf T s β k => fbk sh sc cf dst (.waits a) T s β k)
    (fun a dst sh sc cf T s β k => nilF (evT sh a T) β (fun v => putF dst sh v T (Option β) fun T => k T s))
    (fun a b c d e dst sh sc cf T s β k => binX (evT sh c T) (evT sh d T) sc.P sc.wrap b a d β (fun v => putF dst sh v T (Option β) fun T => k T s))
    (fun a b c dst sh sc cf T s β k => VC (tUn sc.wrap a (evT sh c T)) fun v => forceX v (fun v => putF dst sh v T (Option β) fun T => k T s))
    (fun a b c dst sh sc cf T s β k => VC (tConv sc.P sc.wrap a b (evT sh c T)) fun v => forceX v (fun v => putF dst sh v T (Option β) fun T => k T s))
    (fun a b dst sh sc cf T s β k => fbk sh sc cf dst (.sliceToArrayPointer a b) T s β k)
    (fun a b dst sh sc cf T s β k => fbk sh sc cf dst (.makeInterface a b) T s β k)
    (fun a b c dst sh sc cf T s β k => fbk sh sc cf dst (.makeFunc a b c) T s β k)
    (fun a b dst sh sc cf T s β k => fbk sh sc cf dst (.makeMap a b) T s β k)
    (fun a b dst sh sc cf T s β k => fbk sh sc cf dst (.makeChan a b) T s β k)
    (fun a b c dst sh sc cf T s β k => fbk sh sc cf dst (.makeSlice a b c) T s β k)
    (fun a b c d e dst sh sc cf T s β k => @Option.rec Operand (fun _ => Option β) (VC (tSlice sc.P a (evT sh b T) (evO sh c T) (evO sh d T)) fun v => forceX v (fun v => putF dst sh v T (Option β) fun T => k T s)) (fun _ => fbk sh sc cf dst (.slice a b c d e) T s β k) e)
    (fun a b c dst sh sc cf T s β k => fieldF (evT sh b T) sc.P a c β (fun v => putF dst sh v T (Option β) fun T => k T s))
    (fun a b c dst sh sc cf T s β k => fbk sh sc cf dst (.field a b c) T s β k)
    (fun a b c dst sh sc cf T s β k => indexAddrF (evT sh b T) (evT sh c T) sc.P a β (fun v => putF dst sh v T (Option β) fun T => k T s))
    (fun a b c dst sh sc cf T s β k => indexF (evT sh b T) (evT sh c T) sc.P a β (fun v => putF dst sh v T (Option β) fun T => k T s))
    (fun a b c d dst sh sc cf T s β k => VO (tLookup sc.P s a (evT sh b T) (evT sh c T) d) fun v => forceX v (fun v => putF dst sh v T (Option β) fun T => k T s))
    (fun a b c d dst sh sc cf T s β k => fbk sh sc cf dst (.mapUpdate a b c d) T s β k)
    (fun a b c dst sh sc cf T s β k => fbk sh sc cf dst (.mapEntry a b c) T s β k)
    (fun a b c d dst sh sc cf T s β k => fbk sh sc cf dst (.entryStore a b c d) T s β k)
    (fun a b dst sh sc cf T s β k => fbk sh sc cf dst (.range a b) T s β k)
    (fun a b dst sh sc cf T s β k => fbk sh sc cf dst (.next a b) T s β k)
    (fun a dst sh sc cf T s β k => fbk sh sc cf dst (.entry a) T s β k)
    (fun a b c d dst sh sc cf T s β k => fbk sh sc cf dst (.typeAssert a b c d) T s β k)
    (fun a b dst sh sc cf T s β k => extractF (evT sh a T) b β (fun v => putF dst sh v T (Option β) fun T => k T s))
    (fun a dst sh sc cf T s β k => callF a sh sc cf dst T s β k)
    (fun a dst sh sc cf T s β k => fbk sh sc cf dst (.go a) T s β k)
    (fun a dst sh sc cf T s β k => fbk sh sc cf dst (.defer a) T s β k)
    (fun a dst sh sc cf T s β k => fbk sh sc cf dst (.panic a) T s β k)
    (fun a b dst sh sc cf T s β k => fbk sh sc cf dst (.send a b) T s β k)
    (fun a b c dst sh sc cf T s β k => fbk sh sc cf dst (.recv a b c) T s β k)
    (fun a b dst sh sc cf T s β k => fbk sh sc cf dst (.select a b) T s β k)
theorem pickV_eq {v : TV} {c x y : Operand} {dst : Option Tmp} {sh : Sh} {T : FT sh} {β : Type} {k : FT sh → Option β} {K : List TV → Option β} (hk : ∀ T, k T = K (toL sh T)) : pickV v c x y dst sh T β k = match v with
    | .tt => putK (toL sh T) dst (tEval (toL sh T) x) K
    | .ff => putK (toL sh T) dst (tEval (toL sh T) y) K
    | .bool b => match c with
      | .tmp t => cond b (setK (toL sh T) t .tt fun fr => putK fr dst (tEval fr x) K) (setK (toL sh T) t .ff fun fr => putK fr dst (tEval fr y) K)
      | _ => none
    | _ => none := by
  have hs : ∀ (t : Nat) (z : Operand) (v : TV), ((setG sh t).un (Option β) v T fun T => putF dst sh (evT sh z T) T (Option β) k) = setK (toL sh T) t v fun fr => putK fr dst (tEval fr z) K := by
    intro t z v
    rw [setK_eq]
    refine setF_eq (K := fun fr => putK fr dst (tEval fr z) K) fun T => ?_
    rw [putF_eq hk, putK_eq, evT_eq]
  cases v
  case tt => show putF dst sh (evT sh x T) T (Option β) k = _; rw [putF_eq hk, putK_eq, evT_eq]
  case ff => show putF dst sh (evT sh y T) T (Option β) k = putK (toL sh T) dst (tEval (toL sh T) y) K; rw [putF_eq hk, putK_eq, evT_eq]
  case bool b =>
    cases c with
    | tmp t =>
      cases b with
      | true => exact hs t x .tt
      | false => exact hs t y .ff
    | _ => rfl
  all_goals rfl
theorem execF_eq {op : Op} {dst : Option Tmp} {sh : Sh} {sc : Sc} {cf : Cfg} {T : FT sh} {s : List TOb} {β : Type} {k : FT sh → List TOb → Option β} {K : List TV → List TOb → Option β} (hk : ∀ T s, k T s = K (toL sh T) s) : execF op dst sh sc cf T s β k = execT sc cf dst op (toL sh T) s K := by
  have hput : ∀ v s, (putF dst sh v T (Option β) fun T => k T s) = K (tPut (toL sh T) dst v) s := fun v s => putF_eq (K := fun fr => K fr s) fun T => hk T s
  have pure : pureF op sh sc.P sc.wrap T s β (fun v => putF dst sh v T (Option β) fun T => k T s) = VC (tPure sc.P sc.wrap (toL sh T) s op) fun v => K (tPut (toL sh T) dst v) s := by
    rw [pureF_eq]
    simp only [hput]
  cases op
  case pick c x y =>
    show pickV (evT sh c T) c x y dst sh T β (fun T => k T s) = _
    rw [pickV_eq (K := fun fr => K fr s) (fun T => hk T s), evT_eq]
    rfl
  case alloc t =>
    show allocF t dst sh sc T s β k = _
    have e : execT sc cf dst (.alloc t) (toL sh T) s K = match (match (match zeroA sc.P t with | some cs => some (true, toL sh T, TV.ref s.length 0, s ++ [TOb.cells cs t true]) | none => none) with | some r => some r | none => none) with
        | some (g, fr', v, s') => cond g (forceY true v fun v => putK fr' dst v fun fr2 => forceW (.one s.length) s' fun s => K fr2 s) none
        | none => none := by
      unfold zeroA
      by_cases ht : t = mapT
      · rw [if_pos ht]; subst ht; simp only [execT, tStepX, tStep, tMore, if_true]
      · rw [if_neg ht]
        simp only [execT, tStepX, tStep, tMore, if_neg ht]
        cases tZero sc.P t <;> rfl
    rw [e]
    unfold allocF
    cases zeroA sc.P t with
    | none => rfl
    | some cs =>
      dsimp only [cond]
      simp only [fcs_eq, fN_eq, lenC_eq, appC_eq, hput, forceY_eq, putK_eq, forceW_eq]
  case store t x y =>
    show storeF (evT sh x T) (evT sh y T) sc.P s t β (fun s => putF dst sh (.tup []) T (Option β) fun T => k T s) = _
    rw [storeF_eq, evT_eq, evT_eq]
    simp only [hput]
    have e : execT sc cf dst (.store t x y) (toL sh T) s K = match (match (match tStoreAt sc.P s t (tEval (toL sh T) x) (tEval (toL sh T) y) with | some (g, s') => some (g, toL sh T, TV.tup [], s') | none => none) with | some r => some r | none => none) with
        | some (g, fr', v, s') => cond g (forceY true v fun v => putK fr' dst v fun fr2 => forceW (fmTgt (tEval (toL sh T) x)) s' fun s => K fr2 s) none
        | none => none := rfl
    rw [e]
    cases tStoreAt sc.P s t (tEval (toL sh T) x) (tEval (toL sh T) y) with
    | none => rfl
    | some r =>
      obtain ⟨g, s'⟩ := r
      simp only [VS, forceY_eq, putK_eq, forceW_eq]
  case call c => exact callF_eq hk
  case box t x =>
    show boxF t (evT sh x T) dst sh T s β k = _
    have e : execT sc cf dst (.box t x) (toL sh T) s K = match (match (if t = mapT then none else match tCells (tEval (toL sh T) x) with | some cs => some (true, toL sh T, TV.ref s.length 0, s ++ [TOb.cells cs t true]) | none => none) with | some r => some r | none => none) with
        | some (g, fr', v, s') => cond g (forceY true v fun v => putK fr' dst v fun fr2 => forceW (.one s.length) s' fun s => K fr2 s) none
        | none => none := rfl
    rw [e]
    unfold boxF
    cases hm : Nat.beq t mapT with
    | true => rw [if_pos (Nat.eq_of_beq_eq_true hm)]
    | false =>
      have : t ≠ mapT := fun e => by subst e; rw [Nat.beq_refl] at hm; cases hm
      rw [if_neg this]
      dsimp only
      rw [tcF_eq, evT_eq]
      cases tCells (tEval (toL sh T) x) with
      | none => rfl
      | some cs =>
        dsimp only [cond]
        simp only [fN_eq, lenC_eq, appC_eq, hput, forceY_eq, putK_eq, forceW_eq]
  case move x =>
    show (putF dst sh (evT sh x T) T (Option β) fun T => k T s) = _
    rw [hput, evT_eq, execT_pure trivial]
    rfl
  case assign x =>
    show (putF dst sh (evT sh x T) T (Option β) fun T => k T s) = _
    rw [hput, evT_eq, execT_pure trivial]
    rfl
  case binOp op t x y yt =>
    show binX (evT sh x T) (evT sh y T) sc.P sc.wrap t op y β (fun v => putF dst sh v T (Option β) fun T => k T s) = _
    rw [binX_eq, evT_eq, evT_eq]
    simp only [hput, execT, tStepX, tStep, tPure, tMore]
    cases tBin sc.P sc.wrap t op (tEval (toL sh T) x) (tEval (toL sh T) y) with
    | some r => obtain ⟨g, v⟩ := r; simp only [forceY_eq, putK_eq, forceW_eq]
    | none =>
      cases notnil sc.P t op (tEval (toL sh T) x) y with
      | none => rfl
      | some v => simp only [cond, forceY_eq, putK_eq, forceW_eq]
  case lookup t x y ok =>
    show VO (tLookup sc.P s t (evT sh x T) (evT sh y T) ok) (fun v => forceX v fun v => putF dst sh v T (Option β) fun T => k T s) = _
    rw [evT_eq, evT_eq]
    simp only [forceX_eq, hput, execT, tStepX, tStep, tPure, tMore]
    cases tLookup sc.P s t (tEval (toL sh T) x) (tEval (toL sh T) y) ok with
    | none => rfl
    | some v => simp only [VO, cond, forceY_eq, putK_eq, forceW_eq]
  case slice a b c d e =>
    cases e with
    | none => exact (show _ = pureF (.slice a b c d none) sh sc.P sc.wrap T s β (fun v => putF dst sh v T (Option β) fun T => k T s) from rfl).trans (pure.trans (execT_pure trivial).symm)
    | some e => exact fbk_eq hk

  case build a b => exact (show _ = pureF (.build a b) sh sc.P sc.wrap T s β (fun v => putF dst sh v T (Option β) fun T => k T s) from rfl).trans (pure.trans (execT_pure trivial).symm)
  case buildSlice a b c => exact (show _ = pureF (.buildSlice a b c) sh sc.P sc.wrap T s β (fun v => putF dst sh v T (Option β) fun T => k T s) from rfl).trans (pure.trans (execT_pure trivial).symm)
  case load a b => exact (show _ = pureF (.load a b) sh sc.P sc.wrap T s β (fun v => putF dst sh v T (Option β) fun T => k T s) from rfl).trans (pure.trans (execT_pure trivial).symm)
  case nilCheck a => exact (show _ = pureF (.nilCheck a) sh sc.P sc.wrap T s β (fun v => putF dst sh v T (Option β) fun T => k T s) from rfl).trans (pure.trans (execT_pure trivial).symm)
  case unOp a b c => exact (show _ = pureF (.unOp a b c) sh sc.P sc.wrap T s β (fun v => putF dst sh v T (Option β) fun T => k T s) from rfl).trans (pure.trans (execT_pure trivial).symm)
  case convert a b c => exact (show _ = pureF (.convert a b c) sh sc.P sc.wrap T s β (fun v => putF dst sh v T (Option β) fun T => k T s) from rfl).trans (pure.trans (execT_pure trivial).symm)
  case fieldAddr a b c => exact (show _ = pureF (.fieldAddr a b c) sh sc.P sc.wrap T s β (fun v => putF dst sh v T (Option β) fun T => k T s) from rfl).trans (pure.trans (execT_pure trivial).symm)
  case indexAddr a b c => exact (show _ = pureF (.indexAddr a b c) sh sc.P sc.wrap T s β (fun v => putF dst sh v T (Option β) fun T => k T s) from rfl).trans (pure.trans (execT_pure trivial).symm)
  case index a b c => exact (show _ = pureF (.index a b c) sh sc.P sc.wrap T s β (fun v => putF dst sh v T (Option β) fun T => k T s) from rfl).trans (pure.trans (execT_pure trivial).symm)
  case extract a b => exact (show _ = pureF (.extract a b) sh sc.P sc.wrap T s β (fun v => putF dst sh v T (Option β) fun T => k T s) from rfl).trans (pure.trans (execT_pure trivial).symm)
  all_goals exact fbk_eq hk
/-! in order -/

def doG (yes : Bool) (o : Oper) (sh : Sh) (sc : Sc) (cf : Cfg) (T : FT sh) (s : List TOb) (β : Type) (k : FT sh → List TOb → Option β) : Option β := @Bool.rec (fun _ => Oper → (sh : Sh) → Sc → Cfg → FT sh → List TOb → (β : Type) → (FT sh → List TOb → Option β) → Option β) (fun o sh sc cf T s β k => putF o.dst sh (.tup []) T (Option β) fun T => k T s) (fun o sh sc cf T s β k => execF o.op o.dst sh sc cf T s β k) yes o sh sc cf T s β k
def gdV : TV → Nat → Bool → Oper → (sh : Sh) → Sc → Cfg → FT sh → List TOb → (β : Type) → (FT sh → List TOb → Option β) → Option β := @TV.rec (fun _ => Nat → Bool → Oper → (sh : Sh) → Sc → Cfg → FT sh → List TOb → (β : Type) → (FT sh → List TOb → Option β) → Option β) (fun _ => PUnit)
    (fun t w o sh sc cf T s β k => none)
    (fun a b t w o sh sc cf T s β k => none)
    (fun a t w o sh sc cf T s β k => @Bool.rec (fun _ => Option β) ((setG sh t).un (Option β) .ff T fun T => doG (!w) o sh sc cf T s β k) ((setG sh t).un (Option β) .tt T fun T => doG w o sh sc cf T s β k) a)
    (fun t w o sh sc cf T s β k => doG w o sh sc cf T s β k)
    (fun t w o sh sc cf T s β k => doG (!w) o sh sc cf T s β k)
    (fun a t w o sh sc cf T s β k => none)
    (fun t w o sh sc cf T s β k => none)
    (fun a b t w o sh sc cf T s β k => none)
    (fun a b c t w o sh sc cf T s β k => none)
    (fun a b c _ t w o sh sc cf T s β k => none)
    (fun a b _ t w o sh sc cf T s β k => none)
    (fun a b t w o sh sc cf T s β k => none)
    (fun a b c d t w o sh sc cf T s β k => none)
    (fun t w o sh sc cf T s β k => none)
    (fun t w o sh sc cf T s β k => none)
    (fun a t w o sh sc cf T s β k => none)
    (fun a b _ t w o sh sc cf T s β k => none)
    (fun a _ t w o sh sc cf T s β k => none)
    (fun a _ t w o sh sc cf T s β k => @List.rec TV (fun _ => Option β) (doG false o sh sc cf T s β k) (fun _ _ _ => none) a)
    PUnit.unit
    (fun _ _ _ _ => PUnit.unit)
def operF (A : Array Oper) (o : Oper) (sh : Sh) (sc : Sc) (cf : Cfg) (T : FT sh) (s : List TOb) (β : Type) (k : FT sh → List TOb → Option β) : Option β := @Option.rec (Nat × Bool) (fun _ => Array Oper → Oper → (sh : Sh) → Sc → Cfg → FT sh → List TOb → (β : Type) → (FT sh → List TOb → Option β) → Option β) (fun A o sh sc cf T s β k => execF o.op o.dst sh sc cf T s β k)
  (fun gw A o sh sc cf T s β k => @Option.rec Tmp (fun _ => Option β) none (fun t => gdV ((getG sh t).un T) t gw.2 o sh sc cf T s β k) (guardSlot A gw.1)) o.guard A o sh sc cf T s β k
def runOpsF (A : Array Oper) (l : List Oper) (sh : Sh) (sc : Sc) (cf : Cfg) (T : FT sh) (s : List TOb) (β : Type) (k : FT sh → List TOb → Option β) : Option β := @List.rec Oper (fun _ => Array Oper → (sh : Sh) → Sc → Cfg → FT sh → List TOb → (β : Type) → (FT sh → List TOb → Option β) → Option β) (fun A sh sc cf T s β k => k T s) (fun o _ ih A sh sc cf T s β k => operF A o sh sc cf T s β fun T s => ih A sh sc cf T s β k) l A sh sc cf T s β k
section
variable {sh : Sh} {sc : Sc} {cf : Cfg} {β : Type} {A : Array Oper}
theorem doG_eq {yes : Bool} {o : Oper} {T : FT sh} {s : List TOb} {k : FT sh → List TOb → Option β} {K : List TV → List TOb → Option β} (hk : ∀ T s, k T s = K (toL sh T) s) : doG yes o sh sc cf T s β k = cond yes (execT sc cf o.dst o.op (toL sh T) s K) (putK (toL sh T) o.dst (.tup []) fun fr => K fr s) := by
  cases yes with
  | true => exact execF_eq hk
  | false =>
    show (putF o.dst sh (.tup []) T (Option β) fun T => k T s) = _
    rw [putF_eq (K := fun fr => K fr s) fun T => hk T s, cond, putK_eq]
/-- an operation, with its guard -/
def operL (sc : Sc) (cf : Cfg) (A : Array Oper) (o : Oper) (fr : List TV) (s : List TOb) (K : List TV → List TOb → Option β) : Option β := match o.guard with
    | none => execT sc cf o.dst o.op fr s K
    | some (g, want) => match guardSlot A g with
      | none => none
      | some t => match fr.getD t .undef with
        | .tt => if want = true then execT sc cf o.dst o.op fr s K else putK fr o.dst (.tup []) fun fr => K fr s
        | .ff => if want = true then putK fr o.dst (.tup []) fun fr => K fr s else execT sc cf o.dst o.op fr s K
        | .tup [] => putK fr o.dst (.tup []) fun fr => K fr s
        | .bool b => cond b
          (setK fr t .tt fun fr => if want = true then execT sc cf o.dst o.op fr s K else putK fr o.dst (.tup []) fun fr => K fr s)
          (setK fr t .ff fun fr => if want = true then putK fr o.dst (.tup []) fun fr => K fr s else execT sc cf o.dst o.op fr s K)
        | _ => none
theorem operF_eq {o : Oper} {T : FT sh} {s : List TOb} {k : FT sh → List TOb → Option β} {K : List TV → List TOb → Option β} (hk : ∀ T s, k T s = K (toL sh T) s) : operF A o sh sc cf T s β k = operL sc cf A o (toL sh T) s K := by
  obtain ⟨dst, op, type, pos, after, guard⟩ := o
  unfold operL
  cases guard with
  | none => exact execF_eq hk
  | some gw =>
    obtain ⟨g, w⟩ := gw
    dsimp only
    show @Option.rec Tmp (fun _ => Option β) none (fun t => gdV ((getG sh t).un T) t w ⟨dst, op, type, pos, after, some (g, w)⟩ sh sc cf T s β k) (guardSlot A g) = _
    cases guardSlot A g with
    | none => rfl
    | some t =>
      show gdV ((getG sh t).un T) t w ⟨dst, op, type, pos, after, some (g, w)⟩ sh sc cf T s β k = _
      rw [get_eq]
      dsimp only
      have hs : ∀ (v : TV) (yes : Bool), ((setG sh t).un (Option β) v T fun T => doG yes ⟨dst, op, type, pos, after, some (g, w)⟩ sh sc cf T s β k) = setK (toL sh T) t v fun fr => cond yes (execT sc cf dst op fr s K) (putK fr dst (.tup []) fun fr => K fr s) := by
        intro v yes
        rw [setK_eq]
        exact setF_eq (K := fun fr => cond yes (execT sc cf dst op fr s K) (putK fr dst (.tup []) fun fr => K fr s)) fun T => doG_eq hk
      cases (toL sh T).getD t .undef
      case tt =>
        show doG w _ sh sc cf T s β k = _
        rw [doG_eq hk]
        cases w <;> rfl
      case ff =>
        show doG (!w) _ sh sc cf T s β k = _
        rw [doG_eq hk]
        cases w <;> rfl
      case bool b =>
        cases b with
        | true =>
          refine (hs .tt w).trans ?_
          cases w <;> rfl
        | false =>
          refine (hs .ff (!w)).trans ?_
          cases w <;> rfl
      case tup vs =>
        cases vs with
        | nil => exact (doG_eq (sc := sc) (cf := cf) (yes := false) (o := ⟨dst, op, type, pos, after, some (g, w)⟩) hk)
        | cons => rfl
      all_goals rfl
theorem runOpsF_eq : ∀ (l : List Oper) {T : FT sh} {s : List TOb} {k : FT sh → List TOb → Option β} {K : List TV → List TOb → Option β}, (∀ T s, k T s = K (toL sh T) s) → runOpsF A l sh sc cf T s β k = runOps sc cf A l (toL sh T) s K
  | [], T, s, k, K, hk => hk T s
  | o :: l, T, s, k, K, hk => by
    show operF A o sh sc cf T s β (fun T s => runOpsF A l sh sc cf T s β k) = _
    rw [operF_eq (K := fun fr s => runOps sc cf A l fr s K) fun T s => runOpsF_eq l hk]
    rfl
end
end
end Go.Proofs.YtmacghaihlfcpaaGreat.Abs
