/- Regions whose order is open, on trees. (Printed by gf6.py.) -/
import Derived.Test.YtmacghaihlfcpaaGreatFF
namespace Go.Proofs.YtmacghaihlfcpaaGreat.Abs
noncomputable section
open Go Go.ChangeShapes Go.WideShapes Go.ChangeAt Go.RowKit
set_option linter.unusedVariables false
set_option linter.unusedSimpArgs false

def fV : TV → (β : Type) → (TV → β) → β := @TV.rec (fun _ => (β : Type) → (TV → β) → β) (fun _ => PUnit)
    (fun β k => k .undef)
    (fun a b β k => fI b β fun b => k (.int a b))
    (fun a β k => fB a β fun a => k (.bool a))
    (fun β k => k .tt)
    (fun β k => k .ff)
    (fun a β k => k (.str a))
    (fun β k => k .nilp)
    (fun a b β k => fN a β fun a => fN b β fun b => k (.ref a b))
    (fun a b c β k => k (.tl a b c))
    (fun a b c _ β k => fcs a β fun a => fN b β fun b => k (.ll a b c))
    (fun a b _ β k => fcs a β fun a => fN b β fun b => k (.ep a b))
    (fun a b β k => fN a β fun a => fN b β fun b => k (.arr a b))
    (fun a b c d β k => fN a β fun a => fI b β fun b => fN d β fun d => k (.ap a b c d))
    (fun β k => k .nilf)
    (fun β k => k .mapn)
    (fun a β k => fN a β fun a => k (.mapr a))
    (fun a b _ β k => fcs b β fun b => k (.func a b))
    (fun a _ β k => fcs a β fun a => k (.agg a))
    (fun a _ β k => fcs a β fun a => k (.tup a))
    PUnit.unit
    (fun _ _ _ _ => PUnit.unit)
theorem fV_eq (v : TV) (β : Type) (k : TV → β) : fV v β k = k v := by
  cases v <;> simp only [fV, fcs_eq, fN_eq, fI_eq, fB_eq]
def fVs (l : List TV) (β : Type) (k : List TV → β) : β := @List.rec TV (fun _ => (List TV → β) → β) (fun k => k []) (fun v _ ih k => fV v β fun v => ih fun l => k (v :: l)) l k
theorem fVs_eq (β : Type) : ∀ (l : List TV) (k : List TV → β), fVs l β k = k l
  | [], k => rfl
  | v :: l, k => by show fV v β (fun v => fVs l β fun l => k (v :: l)) = _; rw [fV_eq, fVs_eq β l]
def fO (o : TOb) (β : Type) (k : TOb → β) : β := @TOb.rec (fun _ => β) (fun cs t l => fcs cs β fun cs => k (.cells cs t l)) (fun ty xs t l => forceO (.tarr ty xs t l) k) o
theorem fO_eq (o : TOb) (β : Type) (k : TOb → β) : fO o β k = k o := by
  cases o with
  | cells cs t l => exact fcs_eq cs _
  | tarr ty xs t l => show forceO (.tarr ty xs t l) k = _; exact forceO_eq _ _
def fS (s : List TOb) (β : Type) (k : List TOb → β) : β := @List.rec TOb (fun _ => (List TOb → β) → β) (fun k => k []) (fun o _ ih k => fO o β fun o => ih fun l => k (o :: l)) s k
theorem fS_eq (β : Type) : ∀ (l : List TOb) (k : List TOb → β), fS l β k = k l
  | [], k => rfl
  | v :: l, k => by show fO v β (fun v => fS l β fun l => k (v :: l)) = _; rw [fO_eq, fS_eq β l]
def setU (v : TOb) : List TOb → Nat → (β : Type) → (List TOb → β) → β := @List.rec TOb (fun _ => Nat → (β : Type) → (List TOb → β) → β) (fun _ β k => k []) (fun a l ih n => @Nat.rec (fun _ => (β : Type) → (List TOb → β) → β) (fun β k => k (v :: l)) (fun m _ β k => ih m β fun r => k (a :: r)) n)
theorem setU_eq {β : Type} (v : TOb) : ∀ (l : List TOb) (n : Nat) (k : List TOb → β), setU v l n β k = k (l.set n v)
  | [], n, k => rfl
  | a :: l, 0, k => rfl
  | a :: l, n + 1, k => by show setU v l n β (fun r => k (a :: r)) = _; rw [setU_eq v l n]; rfl
/-! the head's operations -/

def pickH : TV → Operand → Operand → Operand → (sh : Sh) → FT sh → FT sh → (β : Type) → (FT sh → TV → Option β) → Option β := @TV.rec (fun _ => Operand → Operand → Operand → (sh : Sh) → FT sh → FT sh → (β : Type) → (FT sh → TV → Option β) → Option β) (fun _ => PUnit)
    (fun c x y sh Tv T β kv => none)
    (fun a b c x y sh Tv T β kv => none)
    (fun a c x y sh Tv T β kv => @Operand.rec (fun _ => Option β) (fun t => @Bool.rec (fun _ => Option β) ((setG sh t).un (Option β) .ff T fun T => kv T (evT sh y Tv)) ((setG sh t).un (Option β) .tt T fun T => kv T (evT sh x Tv)) a) (fun _ => none) (fun _ => none) (fun _ => none) c)
    (fun c x y sh Tv T β kv => kv T (evT sh x Tv))
    (fun c x y sh Tv T β kv => kv T (evT sh y Tv))
    (fun a c x y sh Tv T β kv => none)
    (fun c x y sh Tv T β kv => none)
    (fun a b c x y sh Tv T β kv => none)
    (fun a b c c x y sh Tv T β kv => none)
    (fun a b c _ c x y sh Tv T β kv => none)
    (fun a b _ c x y sh Tv T β kv => none)
    (fun a b c x y sh Tv T β kv => none)
    (fun a b c d c x y sh Tv T β kv => none)
    (fun c x y sh Tv T β kv => none)
    (fun c x y sh Tv T β kv => none)
    (fun a c x y sh Tv T β kv => none)
    (fun a b _ c x y sh Tv T β kv => none)
    (fun a _ c x y sh Tv T β kv => none)
    (fun a _ c x y sh Tv T β kv => none)
    PUnit.unit
    (fun _ _ _ _ => PUnit.unit)
def retH (b : Bool) (r : TV) (s' : List TOb) (β : Type) (K : TV → Option β) : Option β := @List.rec TOb (fun _ => Option β) (@Bool.rec (fun _ => Option β) none (plF r (Option β) K) b) (fun _ _ _ => none) s'
def goH (f : FuncId) (fcs0 : List TV) (c : Call) (sh : Sh) (cf : Cfg) (Tv : FT sh) (sv : List TOb) (β : Type) (K : TV → Option β) : Option β :=
  argsF sh Tv c.args.toList fcs0 (Option β) fun args => @Bool.rec (fun _ => Option β)
    (fVs (args.map (snapV sv 4)) (Option β) fun args => @Bool.rec (fun _ => Option β) none (cf.C f β args [] fun r s' => retH (tflat r) r s' β K) (frRs args))
    (cf.C f β args [] fun r s' => retH (frR r) r s' β K) (frRs args)

def fnH (fn : Fn) (fcs0 : List TV) : Call → (sh : Sh) → Cfg → FT sh → List TOb → (β : Type) → (TV → Option β) → Option β := @Fn.rec (fun _ => List TV → Call → (sh : Sh) → Cfg → FT sh → List TOb → (β : Type) → (TV → Option β) → Option β) (fun f fcs0 c sh cf Tv sv β K => goH f fcs0 c sh cf Tv sv β K) (fun _ _ _ _ _ _ _ _ _ => none) (fun _ _ _ _ _ _ _ _ _ _ => none) (fun _ _ _ _ _ _ _ _ _ _ _ _ => none) (fun _ _ _ _ _ _ _ _ _ => none) fn fcs0
def callHV : TV → Call → (sh : Sh) → Cfg → FT sh → List TOb → (β : Type) → (TV → Option β) → Option β := @TV.rec (fun _ => Call → (sh : Sh) → Cfg → FT sh → List TOb → (β : Type) → (TV → Option β) → Option β) (fun _ => PUnit)
    (fun c sh cf Tv sv β K => none)
    (fun a b c sh cf Tv sv β K => none)
    (fun a c sh cf Tv sv β K => none)
    (fun c sh cf Tv sv β K => none)
    (fun c sh cf Tv sv β K => none)
    (fun a c sh cf Tv sv β K => none)
    (fun c sh cf Tv sv β K => none)
    (fun a b c sh cf Tv sv β K => none)
    (fun a b c c sh cf Tv sv β K => none)
    (fun a b c _ c sh cf Tv sv β K => none)
    (fun a b _ c sh cf Tv sv β K => none)
    (fun a b c sh cf Tv sv β K => none)
    (fun a b c d c sh cf Tv sv β K => none)
    (fun c sh cf Tv sv β K => none)
    (fun c sh cf Tv sv β K => none)
    (fun a c sh cf Tv sv β K => none)
    (fun a b _ c sh cf Tv sv β K => fnH a b c sh cf Tv sv β K)
    (fun a _ c sh cf Tv sv β K => none)
    (fun a _ c sh cf Tv sv β K => none)
    PUnit.unit
    (fun _ _ _ _ => PUnit.unit)
def callH (c : Call) (sh : Sh) (sc : Sc) (cf : Cfg) (Tv : FT sh) (sv : List TOb) (β : Type) (K : TV → Option β) : Option β := @Callee.rec (fun _ => Option β) (fun x => callHV (evT sh x Tv) c sh cf Tv sv β K)
  (fun _ _ => toK sh Tv [] (Option β) fun fr => VC (tPure sc.P sc.wrap fr sv (.call c)) K)
  (fun b => @Bool.rec (fun _ => Option β) (toK sh Tv [] (Option β) fun fr => VC (tPure sc.P sc.wrap fr sv (.call c)) K) (@Option.rec (Operand × TypeId) (fun _ => Option β) none (fun r => lenV (evT sh r.1 Tv) sc.P r.2 β none K) (lenArg c)) (isLen b)) c.callee

def execHF : Op → (sh : Sh) → Sc → Cfg → FT sh → List TOb → FT sh → (β : Type) → (FT sh → TV → Option β) → Option β := @Op.rec (fun _ => (sh : Sh) → Sc → Cfg → FT sh → List TOb → FT sh → (β : Type) → (FT sh → TV → Option β) → Option β)
    (fun a sh sc cf Tv sv T β kv => fc (evT sh a Tv) (Option β) (fun v => kv T v))
    (fun a sh sc cf Tv sv T β kv => fc (evT sh a Tv) (Option β) (fun v => kv T v))
    (fun a b c sh sc cf Tv sv T β kv => pickH (evT sh a Tv) a b c sh Tv T β kv)
    (fun a sh sc cf Tv sv T β kv => toK sh Tv [] (Option β) fun l => VC (tPure sc.P sc.wrap l sv (.alloc a)) fun v => kv T v)
    (fun a b sh sc cf Tv sv T β kv => toK sh Tv [] (Option β) fun l => VC (tPure sc.P sc.wrap l sv (.box a b)) fun v => kv T v)
    (fun a b sh sc cf Tv sv T β kv => VC (tBuild sc.P a (partsF sh Tv b.toList)) fun v => fA v (Option β) (fun v => kv T v))
    (fun a b c sh sc cf Tv sv T β kv => VC (tBuildSlice sc.P a b (partsF sh Tv c.toList)) fun v => forceX v fun v => kv T v)
    (fun a b c d sh sc cf Tv sv T β kv => toK sh Tv [] (Option β) fun l => VC (tPure sc.P sc.wrap l sv (.insert a b c d)) fun v => kv T v)
    (fun a b sh sc cf Tv sv T β kv => loadF (evT sh b Tv) sc.P sv a β (fun v => kv T v))
    (fun a b c sh sc cf Tv sv T β kv => toK sh Tv [] (Option β) fun l => VC (tPure sc.P sc.wrap l sv (.store a b c)) fun v => kv T v)
    (fun a sh sc cf Tv sv T β kv => toK sh Tv [] (Option β) fun l => VC (tPure sc.P sc.wrap l sv (.ready a)) fun v => kv T v)
    (fun a sh sc cf Tv sv T β kv => toK sh Tv [] (Option β) fun l => VC (tPure sc.P sc.wrap l sv (.waits a)) fun v => kv T v)
    (fun a sh sc cf Tv sv T β kv => nilF (evT sh a Tv) β (fun v => kv T v))
    (fun a b c d e sh sc cf Tv sv T β kv => binF (evT sh c Tv) (evT sh d Tv) sc.P sc.wrap b a β (fun v => kv T v))
    (fun a b c sh sc cf Tv sv T β kv => VC (tUn sc.wrap a (evT sh c Tv)) fun v => forceX v fun v => kv T v)
    (fun a b c sh sc cf Tv sv T β kv => VC (tConv sc.P sc.wrap a b (evT sh c Tv)) fun v => forceX v fun v => kv T v)
    (fun a b sh sc cf Tv sv T β kv => toK sh Tv [] (Option β) fun l => VC (tPure sc.P sc.wrap l sv (.sliceToArrayPointer a b)) fun v => kv T v)
    (fun a b sh sc cf Tv sv T β kv => toK sh Tv [] (Option β) fun l => VC (tPure sc.P sc.wrap l sv (.makeInterface a b)) fun v => kv T v)
    (fun a b c sh sc cf Tv sv T β kv => toK sh Tv [] (Option β) fun l => VC (tPure sc.P sc.wrap l sv (.makeFunc a b c)) fun v => kv T v)
    (fun a b sh sc cf Tv sv T β kv => toK sh Tv [] (Option β) fun l => VC (tPure sc.P sc.wrap l sv (.makeMap a b)) fun v => kv T v)
    (fun a b sh sc cf Tv sv T β kv => toK sh Tv [] (Option β) fun l => VC (tPure sc.P sc.wrap l sv (.makeChan a b)) fun v => kv T v)
    (fun a b c sh sc cf Tv sv T β kv => toK sh Tv [] (Option β) fun l => VC (tPure sc.P sc.wrap l sv (.makeSlice a b c)) fun v => kv T v)
    (fun a b c d e sh sc cf Tv sv T β kv => @Option.rec Operand (fun _ => Option β) (VC (tSlice sc.P a (evT sh b Tv) (evO sh c Tv) (evO sh d Tv)) fun v => forceX v fun v => kv T v) (fun _ => toK sh Tv [] (Option β) fun l => VC (tPure sc.P sc.wrap l sv (.slice a b c d e)) (fun v => kv T v)) e)
    (fun a b c sh sc cf Tv sv T β kv => fieldF (evT sh b Tv) sc.P a c β (fun v => kv T v))
    (fun a b c sh sc cf Tv sv T β kv => toK sh Tv [] (Option β) fun l => VC (tPure sc.P sc.wrap l sv (.field a b c)) fun v => kv T v)
    (fun a b c sh sc cf Tv sv T β kv => indexAddrF (evT sh b Tv) (evT sh c Tv) sc.P a β (fun v => kv T v))
    (fun a b c sh sc cf Tv sv T β kv => indexF (evT sh b Tv) (evT sh c Tv) sc.P a β (fun v => kv T v))
    (fun a b c d sh sc cf Tv sv T β kv => VO (tLookup sc.P sv a (evT sh b Tv) (evT sh c Tv) d) fun v => kv T v)
    (fun a b c d sh sc cf Tv sv T β kv => toK sh Tv [] (Option β) fun l => VC (tPure sc.P sc.wrap l sv (.mapUpdate a b c d)) fun v => kv T v)
    (fun a b c sh sc cf Tv sv T β kv => toK sh Tv [] (Option β) fun l => VC (tPure sc.P sc.wrap l sv (.mapEntry a b c)) fun v => kv T v)
    (fun a b c d sh sc cf Tv sv T β kv => toK sh Tv [] (Option β) fun l => VC (tPure sc.P sc.wrap l sv (.entryStore a b c d)) fun v => kv T v)
    (fun a b sh sc cf Tv sv T β kv => toK sh Tv [] (Option β) fun l => VC (tPure sc.P sc.wrap l sv (.range a b)) fun v => kv T v)
    (fun a b sh sc cf Tv sv T β kv => toK sh Tv [] (Option β) fun l => VC (tPure sc.P sc.wrap l sv (.next a b)) fun v => kv T v)
    (fun a sh sc cf Tv sv T β kv => toK sh Tv [] (Option β) fun l => VC (tPure sc.P sc.wrap l sv (.entry a)) fun v => kv T v)
    (fun a b c d sh sc cf Tv sv T β kv => toK sh Tv [] (Option β) fun l => VC (tPure sc.P sc.wrap l sv (.typeAssert a b c d)) fun v => kv T v)
    (fun a b sh sc cf Tv sv T β kv => extractF (evT sh a Tv) b β (fun v => kv T v))
    (fun a sh sc cf Tv sv T β kv => callH a sh sc cf Tv sv β fun v => kv T v)
    (fun a sh sc cf Tv sv T β kv => toK sh Tv [] (Option β) fun l => VC (tPure sc.P sc.wrap l sv (.go a)) fun v => kv T v)
    (fun a sh sc cf Tv sv T β kv => toK sh Tv [] (Option β) fun l => VC (tPure sc.P sc.wrap l sv (.defer a)) fun v => kv T v)
    (fun a sh sc cf Tv sv T β kv => toK sh Tv [] (Option β) fun l => VC (tPure sc.P sc.wrap l sv (.panic a)) fun v => kv T v)
    (fun a b sh sc cf Tv sv T β kv => toK sh Tv [] (Option β) fun l => VC (tPure sc.P sc.wrap l sv (.send a b)) fun v => kv T v)
    (fun a b c sh sc cf Tv sv T β kv => toK sh Tv [] (Option β) fun l => VC (tPure sc.P sc.wrap l sv (.recv a b c)) fun v => kv T v)
    (fun a b sh sc cf Tv sv T β kv => toK sh Tv [] (Option β) fun l => VC (tPure sc.P sc.wrap l sv (.select a b)) fun v => kv T v)
theorem callH_eq {c : Call} {sh : Sh} {sc : Sc} {cf : Cfg} {Tv : FT sh} {sv : List TOb} {T : FT sh} {β : Type} {kv : FT sh → TV → Option β} {KV : List TV → TV → Option β} (hk : ∀ T v, kv T v = KV (toL sh T) v) : callH c sh sc cf Tv sv β (fun v => kv T v) = execH3 sc cf (.call c) (toL sh Tv) sv (toL sh T) KV := by
  obtain ⟨callee, args, argTypes⟩ := c
  have hkf : (fun v => kv T v) = fun v => KV (toL sh T) v := funext (hk T)
  rw [hkf]
  have hvc : ∀ (o : Option (Bool × TV)), VC o (fun v => KV (toL sh T) v) = match o with | some (g, v) => cond g (KV (toL sh T) v) none | none => none := fun o => rfl
  cases callee with
  | invoke r m =>
    show toK sh Tv [] (Option β) (fun fr => VC (tPure sc.P sc.wrap fr sv (.call ⟨.invoke r m, args, argTypes⟩)) _) = _
    rw [toK_eq, List.append_nil, hvc]; rfl
  | builtin b =>
    cases hb : isLen b with
    | false =>
      show @Bool.rec (fun _ => Option β) (toK sh Tv [] (Option β) fun fr => VC (tPure sc.P sc.wrap fr sv (.call ⟨.builtin b, args, argTypes⟩)) _) _ (isLen b) = _
      rw [hb]
      dsimp only
      rw [toK_eq, List.append_nil, hvc]; rfl
    | true =>
      have hb : b = .len := by cases b <;> first | rfl | cases hb
      subst hb
      show @Option.rec (Operand × TypeId) (fun _ => Option β) none (fun r => lenV (evT sh r.1 Tv) sc.P r.2 β none fun v => KV (toL sh T) v) (lenArg ⟨.builtin .len, args, argTypes⟩) = _
      have e : execH3 sc cf (.call ⟨.builtin .len, args, argTypes⟩) (toL sh Tv) sv (toL sh T) KV = VC (match args.toList, argTypes.toList with
        | [x], [t] => tLen sc.P t (tEval (toL sh Tv) x)
        | _, _ => none) fun v => KV (toL sh T) v := rfl
      rw [e]
      unfold lenArg
      dsimp only
      generalize args.toList = la
      generalize argTypes.toList = lt
      rcases la with _ | ⟨x, _ | ⟨y, la⟩⟩
      · rfl
      · rcases lt with _ | ⟨t, _ | ⟨t2, lt⟩⟩
        · rfl
        · dsimp only
          rw [lenV_eq, evT_eq]
          rfl
        · rfl
      · rfl
  | value x =>
    show callHV (evT sh x Tv) ⟨.value x, args, argTypes⟩ sh cf Tv sv β (fun v => KV (toL sh T) v) = _
    rw [evT_eq]
    have e : execH3 sc cf (.call ⟨.value x, args, argTypes⟩) (toL sh Tv) sv (toL sh T) KV = (match tEval (toL sh Tv) x with
      | .func (.func f) fcs => forceL ((args.toList.map fun y => tsoft (tEval (toL sh Tv) y)) ++ fcs) fun args => match tfrees args with
        | true => cf.C f β args [] fun r s' => match s', tfree r with
          | [], true => KV (toL sh T) (tplain r)
          | _, _ => none
        | false => forceL (args.map (snapV sv 4)) fun args => match tfrees args with
          | true => cf.C f β args [] fun r s' => match s', tflat r with
            | [], true => KV (toL sh T) (tplain r)
            | _, _ => none
          | false => none
      | _ => none) := rfl
    have ret : ∀ (b : Bool) (r : TV) (s' : List TOb), retH b r s' β (fun v => KV (toL sh T) v) = match s', b with | [], true => KV (toL sh T) (tplain r) | _, _ => none := by
      intro b r s'
      unfold retH
      cases s' with
      | nil =>
        cases b with
        | true => exact plF_eq _ _ _
        | false => rfl
      | cons => rfl
    cases hx : tEval (toL sh Tv) x
    case func fn fcs0 =>
      cases fn with
      | func f =>
        show goH f fcs0 ⟨.value x, args, argTypes⟩ sh cf Tv sv β (fun v => KV (toL sh T) v) = _
        rw [hx] at e
        rw [e]
        dsimp only
        unfold goH
        rw [argsF_eq, forceL_eq, frRs_eq]
        cases tfrees ((args.toList.map fun y => tsoft (tEval (toL sh Tv) y)) ++ fcs0) with
        | true =>
          dsimp only
          congr 1
          funext r s'
          rw [ret, frR_eq]
        | false =>
          dsimp only
          rw [fVs_eq, forceL_eq, frRs_eq]
          cases tfrees (List.map (snapV sv 4) ((args.toList.map fun y => tsoft (tEval (toL sh Tv) y)) ++ fcs0)) with
          | true =>
            dsimp only
            congr 1
            funext r s'
            rw [ret]
          | false => rfl
      | _ => rw [e, hx]; rfl
    all_goals (rw [e, hx]; rfl)
theorem execHF_eq {op : Op} {sh : Sh} {sc : Sc} {cf : Cfg} {Tv : FT sh} {sv : List TOb} {T : FT sh} {β : Type} {kv : FT sh → TV → Option β} {KV : List TV → TV → Option β} (hk : ∀ T v, kv T v = KV (toL sh T) v) : execHF op sh sc cf Tv sv T β kv = execH3 sc cf op (toL sh Tv) sv (toL sh T) KV := by
  have hkf : (fun v => kv T v) = fun v => KV (toL sh T) v := funext (hk T)
  have pure : pureF op sh sc.P sc.wrap Tv sv β (fun v => kv T v) = VC (tPure sc.P sc.wrap (toL sh Tv) sv op) fun v => KV (toL sh T) v := by rw [pureF_eq, hkf]
  have dflt : toK sh Tv [] (Option β) (fun l => VC (tPure sc.P sc.wrap l sv op) fun v => kv T v) = VC (tPure sc.P sc.wrap (toL sh Tv) sv op) fun v => KV (toL sh T) v := by rw [toK_eq, List.append_nil, hkf]
  cases op
  case call c => exact callH_eq hk
  case pick c x y =>
    show pickH (evT sh c Tv) c x y sh Tv T β kv = _
    rw [evT_eq]
    clear pure dflt
    have e : execH3 sc cf (.pick c x y) (toL sh Tv) sv (toL sh T) KV = (match tEval (toL sh Tv) c with
      | .tt => KV (toL sh T) (tEval (toL sh Tv) x)
      | .ff => KV (toL sh T) (tEval (toL sh Tv) y)
      | .bool b => match c with
        | .tmp t => cond b (setK (toL sh T) t .tt fun fr => KV fr (tEval (toL sh Tv) x)) (setK (toL sh T) t .ff fun fr => KV fr (tEval (toL sh Tv) y))
        | _ => none
      | _ => none) := rfl
    rw [e]
    have hs : ∀ (t : Nat) (z : Operand) (v : TV), ((setG sh t).un (Option β) v T fun T => kv T (evT sh z Tv)) = setK (toL sh T) t v fun fr => KV fr (tEval (toL sh Tv) z) := by
      intro t z v
      rw [setK_eq]
      exact setF_eq (K := fun fr => KV fr (tEval (toL sh Tv) z)) fun T => by rw [hk, evT_eq]
    cases tEval (toL sh Tv) c
    case tt => show kv T (evT sh x Tv) = _; rw [hk, evT_eq]
    case ff => show kv T (evT sh y Tv) = _; rw [hk, evT_eq]
    case bool b =>
      cases c with
      | tmp t =>
        cases b with
        | true => exact hs t x .tt
        | false => exact hs t y .ff
      | _ => rfl
    all_goals rfl
  case lookup t x y ok =>
    show VO (tLookup sc.P sv t (evT sh x Tv) (evT sh y Tv) ok) (fun v => kv T v) = _
    rw [evT_eq, evT_eq, hkf]
    have e : execH3 sc cf (.lookup t x y ok) (toL sh Tv) sv (toL sh T) KV = match tLookup sc.P sv t (tEval (toL sh Tv) x) (tEval (toL sh Tv) y) ok with | some v => KV (toL sh T) v | none => none := rfl
    rw [e]
    cases tLookup sc.P sv t (tEval (toL sh Tv) x) (tEval (toL sh Tv) y) ok <;> rfl
  case slice a b c d e =>
    cases e with
    | none => exact (show _ = pureF (.slice a b c d none) sh sc.P sc.wrap Tv sv β (fun v => kv T v) from rfl).trans pure
    | some e => exact dflt

  case move a => exact (show _ = pureF (.move a) sh sc.P sc.wrap Tv sv β (fun v => kv T v) from rfl).trans pure
  case assign a => exact (show _ = pureF (.assign a) sh sc.P sc.wrap Tv sv β (fun v => kv T v) from rfl).trans pure
  case build a b => exact (show _ = pureF (.build a b) sh sc.P sc.wrap Tv sv β (fun v => kv T v) from rfl).trans pure
  case buildSlice a b c => exact (show _ = pureF (.buildSlice a b c) sh sc.P sc.wrap Tv sv β (fun v => kv T v) from rfl).trans pure
  case load a b => exact (show _ = pureF (.load a b) sh sc.P sc.wrap Tv sv β (fun v => kv T v) from rfl).trans pure
  case nilCheck a => exact (show _ = pureF (.nilCheck a) sh sc.P sc.wrap Tv sv β (fun v => kv T v) from rfl).trans pure
  case binOp a b c d e => exact (show _ = pureF (.binOp a b c d e) sh sc.P sc.wrap Tv sv β (fun v => kv T v) from rfl).trans pure
  case unOp a b c => exact (show _ = pureF (.unOp a b c) sh sc.P sc.wrap Tv sv β (fun v => kv T v) from rfl).trans pure
  case convert a b c => exact (show _ = pureF (.convert a b c) sh sc.P sc.wrap Tv sv β (fun v => kv T v) from rfl).trans pure
  case fieldAddr a b c => exact (show _ = pureF (.fieldAddr a b c) sh sc.P sc.wrap Tv sv β (fun v => kv T v) from rfl).trans pure
  case indexAddr a b c => exact (show _ = pureF (.indexAddr a b c) sh sc.P sc.wrap Tv sv β (fun v => kv T v) from rfl).trans pure
  case index a b c => exact (show _ = pureF (.index a b c) sh sc.P sc.wrap Tv sv β (fun v => kv T v) from rfl).trans pure
  case extract a b => exact (show _ = pureF (.extract a b) sh sc.P sc.wrap Tv sv β (fun v => kv T v) from rfl).trans pure
  all_goals exact dflt
def putBF (nb : Nat) (d : Option Tmp) (sh : Sh) (v : TV) (T : FT sh) (β : Type) (k : FT sh → Option β) : Option β := fV v (Option β) fun v => @Bool.rec (fun _ => Option β) none (putF d sh v T (Option β) k) (blw v nb)
theorem putBF_eq {nb : Nat} {d : Option Tmp} {sh : Sh} {v : TV} {T : FT sh} {β : Type} {k : FT sh → Option β} {K : List TV → Option β} (hk : ∀ T, k T = K (toL sh T)) : putBF nb d sh v T β k = putB nb (toL sh T) d v K := by
  unfold putBF putB
  rw [fV_eq, forceV_eq, blw_eq, putF_eq hk, putK_eq]
  cases tbelow nb v <;> rfl
/-! what turns something -/
def callWF (nb idx : Nat) (c : Call) (sh : Sh) (cf : Cfg) (Tv : FT sh) (sv : List TOb) (s : List TOb) (β : Type) (kv : TV → List TOb → Option β) : Option β := match c.callee with
  | .value x => match evT sh x Tv with
    | .func (.func f) fs => argsF sh Tv c.args.toList fs (Option β) fun args => match obAt (sv.map tplainO) idx with
      | .cells cs t true => cond (args.all tsolid && (cs.all plainC && Nat.blt idx (sv.map tplainO).length))
        (fS (onlyS idx 0 (sv.map tplainO)) (Option β) fun so => cf.C f β args so fun r s' => match obAt (s'.map tplainO) idx with
          | .cells cs' t' l' => cond (Nat.beq (s'.map tplainO).length (sv.map tplainO).length && (cs'.all plainC && (tsolid r && tbelows nb cs')))
            (fcs cs' (Option β) fun cs' => setU (.cells cs' t' l') s idx (Option β) fun s => kv (tplain r) s) none
          | _ => none) none
      | _ => none
    | _ => none
  | _ => none

theorem callWF_eq {nb idx : Nat} {dst : Option Tmp} {c : Call} {sh : Sh} {cf : Cfg} {Tv : FT sh} {sv : List TOb} {T : FT sh} {s : List TOb} {β : Type} {k : FT sh → List TOb → Option β} {K : List TV → List TOb → Option β} (hk : ∀ T s, k T s = K (toL sh T) s) :
    callWF nb idx c sh cf Tv sv s β (fun v s => putBF nb dst sh v T β fun T => k T s) = callW cf nb idx dst c (toL sh Tv) sv (toL sh T) s K := by
  have hp : ∀ v s, (putBF nb dst sh v T β fun T => k T s) = putB nb (toL sh T) dst v fun fr => K fr s := fun v s => putBF_eq (K := fun fr => K fr s) fun T => hk T s
  unfold callWF callW
  simp only [evT_eq, argsF_eq, forceL_eq, fS_eq, forceS_eq, fcs_eq, setU_eq, hp]
  rfl
def wrF (bd K nb n0 : Nat) (w : TW) (dst : Option Tmp) (op : Op) (sh : Sh) (sc : Sc) (cf : Cfg) (Tv : FT sh) (sv : List TOb) (T : FT sh) (s : List TOb) (β : Type) (k : FT sh → List TOb → Option β) : Option β :=
  match w, op with
  | .alloc r, .alloc t => match tZero sc.P t with
    | some cs => match Nat.blt r K with
      | true => fcs cs (Option β) fun cs => setU (.cells cs t true) s (nb + r) (Option β) fun s => fN (nb + r) (Option β) fun n => putF dst sh (.ref n 0) T (Option β) fun T => k T s
      | false => none
    | none => none
  | .alloc r, .box t x => if t = mapT then none else match tCells (evT sh x Tv) with
    | some cs => match Nat.blt r K && (tbelows nb cs && cs.all fun c => (tmark c).isNone) with
      | true => fcs cs (Option β) fun cs => setU (.cells cs t true) s (nb + r) (Option β) fun s => fN (nb + r) (Option β) fun n => putF dst sh (.ref n 0) T (Option β) fun T => k T s
      | false => none
    | none => none
  | .store o i, .store t x y => match tStoreAt sc.P sv t (evT sh x Tv) (evT sh y Tv) with
    | some (g, s') => match tgtOf (evT sh x Tv) with
      | some idx => match Nat.beq idx (idxOf nb n0 (.store o i)) && Nat.blt idx s'.length with
        | true => fO (obAt s' idx) (Option β) fun ob => match belowO nb ob with
          | true => cond g (setU ob s idx (Option β) fun s => putF dst sh (.tup []) T (Option β) fun T => k T s) none
          | false => none
        | false => none
      | none => none
    | none => none
  | .app t0, .call c => match c.callee with
    | .builtin .append => match c.args.toList, c.argTypes.toList with
      | [x, y], [t, t'] => if t = t' then match tAppX sc.P (1000 + dst.getD 0) (toL sh Tv) sv t (evT sh x Tv) (evT sh y Tv) with
          | some (g, _, v, _) => match tmark v with
            | some m => match Nat.beq m t0 with
              | true => cond g (fS (tclearS [t0] s) (Option β) fun s => fTl (tren (fun _ => 4000 + dst.getD 0) v) (Option β) fun v => putBF bd dst sh v T β fun T => k T s) none
              | false => none
            | none => none
          | none => none
        else none
      | _, _ => none
    | _ => none
  | .store o i, .call c => callWF nb (idxOf nb n0 (.store o i)) c sh cf Tv sv s β fun v s => putBF nb dst sh v T β fun T => k T s
  | _, _ => none
theorem wrF_eq {bd K nb n0 : Nat} {w : TW} {dst : Option Tmp} {op : Op} {sh : Sh} {sc : Sc} {cf : Cfg} {Tv : FT sh} {sv : List TOb} {T : FT sh} {s : List TOb} {β : Type} {k : FT sh → List TOb → Option β} {KL : List TV → List TOb → Option β} (hk : ∀ T s, k T s = KL (toL sh T) s) :
    wrF bd K nb n0 w dst op sh sc cf Tv sv T s β k = writeH sc cf bd K nb n0 w dst op (toL sh Tv) sv (toL sh T) s KL := by
  have hp : ∀ nb v s, (putBF nb dst sh v T β fun T => k T s) = putB nb (toL sh T) dst v fun fr => KL fr s := fun nb v s => putBF_eq (K := fun fr => KL fr s) fun T => hk T s
  have hq : ∀ v s, (putF dst sh v T (Option β) fun T => k T s) = putK (toL sh T) dst v fun fr => KL fr s := fun v s => by
    rw [putK_eq]
    exact putF_eq (K := fun fr => KL fr s) fun T => hk T s
  have hc : ∀ idx c, callWF nb idx c sh cf Tv sv s β (fun v s => putB nb (toL sh T) dst v fun fr => KL fr s) = callW cf nb idx dst c (toL sh Tv) sv (toL sh T) s KL := by
    intro idx c
    rw [← callWF_eq hk]
    simp only [hp]
  unfold wrF writeH
  simp only [evT_eq, fcs_eq, setU_eq, fN_eq, hq, fO_eq, forceO_eq, forceS_eq, fS_eq, fTl_eq, hp, hc]
  rfl
/-! a head, and the whole region -/
def mskF (dead ts : List Nat) (s : List TOb) (β : Type) (k : List TOb → β) : β := @List.rec Nat (fun _ => β) (@List.rec Nat (fun _ => β) (k s) (fun _ _ _ => fS (tmskS dead ts 0 s) β k) ts) (fun _ _ _ => fS (tmskS dead ts 0 s) β k) dead
theorem mskF_eq (dead ts : List Nat) (s : List TOb) (β : Type) (k : List TOb → β) : mskF dead ts s β k = mskK dead ts s k := by
  cases dead with
  | nil =>
    cases ts with
    | nil => rfl
    | cons => show fS _ β k = _; rw [fS_eq]; simp only [mskK, forceS_eq]
  | cons => show fS _ β k = _; rw [fS_eq]; simp only [mskK, forceS_eq]
def hPlain (o : Oper) (nb : Nat) (sh : Sh) (sc : Sc) (cf : Cfg) (Tv : FT sh) (sv : List TOb) (T : FT sh) (s : List TOb) (β : Type) (k : FT sh → List TOb → Option β) : Option β := execHF o.op sh sc cf Tv sv T β fun T v => putBF nb o.dst sh v T β fun T => k T s
def hDo (yes : Bool) (o : Oper) (nb : Nat) (sh : Sh) (sc : Sc) (cf : Cfg) (Tv : FT sh) (sv : List TOb) (T : FT sh) (s : List TOb) (β : Type) (k : FT sh → List TOb → Option β) : Option β := @Bool.rec (fun _ => Option β) (putF o.dst sh (.tup []) T (Option β) fun T => k T s) (hPlain o nb sh sc cf Tv sv T s β k) yes

def hGd : TV → Nat → Bool → Oper → Nat → (sh : Sh) → Sc → Cfg → FT sh → List TOb → FT sh → List TOb → (β : Type) → (FT sh → List TOb → Option β) → Option β := @TV.rec (fun _ => Nat → Bool → Oper → Nat → (sh : Sh) → Sc → Cfg → FT sh → List TOb → FT sh → List TOb → (β : Type) → (FT sh → List TOb → Option β) → Option β) (fun _ => PUnit)
    (fun t w o nb sh sc cf Tv sv T s β k => none)
    (fun a b t w o nb sh sc cf Tv sv T s β k => none)
    (fun a t w o nb sh sc cf Tv sv T s β k => @Bool.rec (fun _ => Option β) ((setG sh t).un (Option β) .ff T fun T => hDo (!w) o nb sh sc cf Tv sv T s β k) ((setG sh t).un (Option β) .tt T fun T => hDo w o nb sh sc cf Tv sv T s β k) a)
    (fun t w o nb sh sc cf Tv sv T s β k => hDo w o nb sh sc cf Tv sv T s β k)
    (fun t w o nb sh sc cf Tv sv T s β k => hDo (!w) o nb sh sc cf Tv sv T s β k)
    (fun a t w o nb sh sc cf Tv sv T s β k => none)
    (fun t w o nb sh sc cf Tv sv T s β k => none)
    (fun a b t w o nb sh sc cf Tv sv T s β k => none)
    (fun a b c t w o nb sh sc cf Tv sv T s β k => none)
    (fun a b c _ t w o nb sh sc cf Tv sv T s β k => none)
    (fun a b _ t w o nb sh sc cf Tv sv T s β k => none)
    (fun a b t w o nb sh sc cf Tv sv T s β k => none)
    (fun a b c d t w o nb sh sc cf Tv sv T s β k => none)
    (fun t w o nb sh sc cf Tv sv T s β k => none)
    (fun t w o nb sh sc cf Tv sv T s β k => none)
    (fun a t w o nb sh sc cf Tv sv T s β k => none)
    (fun a b _ t w o nb sh sc cf Tv sv T s β k => none)
    (fun a _ t w o nb sh sc cf Tv sv T s β k => none)
    (fun a _ t w o nb sh sc cf Tv sv T s β k => @List.rec TV (fun _ => Option β) (hDo false o nb sh sc cf Tv sv T s β k) (fun _ _ _ => none) a)
    PUnit.unit
    (fun _ _ _ _ => PUnit.unit)
def hOp (A : Array Oper) (hd : HDat) (n0 : Nat) (o : Oper) (i nb : Nat) (sh : Sh) (sc : Sc) (cf : Cfg) (Tv : FT sh) (sv : List TOb) (T : FT sh) (s : List TOb) (β : Type) (k : FT sh → List TOb → Option β) : Option β :=
  @Option.rec TW (fun _ => Option β) (@Option.rec (Nat × Bool) (fun _ => Option β) (hPlain o (bdOf nb hd.K A i hd.ws) sh sc cf Tv sv T s β k) (fun gw => @Option.rec Tmp (fun _ => Option β) none (fun t => hGd ((getG sh t).un Tv) t gw.2 o (bdOf nb hd.K A i hd.ws) sh sc cf Tv sv T s β k) (guardSlot A gw.1)) o.guard)
    (fun w => @Option.rec (Nat × Bool) (fun _ => Option β) (wrF (bdOf nb hd.K A i hd.ws) hd.K nb n0 w o.dst o.op sh sc cf Tv sv T s β k) (fun _ => none) o.guard) (lookN hd.ws i)
def head3F (sc : Sc) (cf : Cfg) (hd : HDat) (A : Array Oper) (nb n0 : Nat) (sh : Sh) (β : Type) (l : List Oper) : Nat → FT sh → List TOb → (FT sh → List TOb → Option β) → Option β := @List.rec Oper (fun _ => Nat → FT sh → List TOb → (FT sh → List TOb → Option β) → Option β) (fun i T s k => k T s)
  (fun o _ ih i T s k => clrF sh (tsOf A i hd.ws) T (Option β) fun Tv => mskF (deadOf nb n0 A i hd.ws) (tsOf A i hd.ws) s (Option β) fun sv => hOp A hd n0 o i nb sh sc cf Tv sv T s β fun T s => fN (i + 1) (Option β) fun i => ih i T s k) l
section
variable {sh : Sh} {sc : Sc} {cf : Cfg} {β : Type} {A : Array Oper} {hd : HDat} {nb n0 : Nat}
theorem hPlain_eq {o : Oper} {Tv T : FT sh} {sv s : List TOb} {k : FT sh → List TOb → Option β} {K : List TV → List TOb → Option β} (hk : ∀ T s, k T s = K (toL sh T) s) : hPlain o nb sh sc cf Tv sv T s β k = execH3 sc cf o.op (toL sh Tv) sv (toL sh T) fun fr v => putB nb fr o.dst v fun fr => K fr s :=
  execHF_eq (KV := fun fr v => putB nb fr o.dst v fun fr => K fr s) fun T v => putBF_eq (K := fun fr => K fr s) fun T => hk T s
theorem hDo_eq {yes : Bool} {o : Oper} {Tv T : FT sh} {sv s : List TOb} {k : FT sh → List TOb → Option β} {K : List TV → List TOb → Option β} (hk : ∀ T s, k T s = K (toL sh T) s) : hDo yes o nb sh sc cf Tv sv T s β k = cond yes (execH3 sc cf o.op (toL sh Tv) sv (toL sh T) fun fr v => putB nb fr o.dst v fun fr => K fr s) (putK (toL sh T) o.dst (.tup []) fun fr => K fr s) := by
  cases yes with
  | true => exact hPlain_eq hk
  | false =>
    show (putF o.dst sh (.tup []) T (Option β) fun T => k T s) = _
    rw [putF_eq (K := fun fr => K fr s) fun T => hk T s, cond, putK_eq]
def operH (sc : Sc) (cf : Cfg) (A : Array Oper) (hd : HDat) (nb n0 : Nat) (o : Oper) (i : Nat) (frv : List TV) (sv : List TOb) (fr : List TV) (s : List TOb) (K : List TV → List TOb → Option β) : Option β := match lookN hd.ws i with
    | some w => match o.guard with
      | none => writeH sc cf (bdOf nb hd.K A i hd.ws) hd.K nb n0 w o.dst o.op frv sv fr s K
      | some _ => none
    | none => match o.guard with
      | none => execH3 sc cf o.op frv sv fr fun fr v => putB (bdOf nb hd.K A i hd.ws) fr o.dst v fun fr => K fr s
      | some (g, want) => match guardSlot A g with
        | none => none
        | some t => match frv.getD t .undef with
          | .tt => if want = true then execH3 sc cf o.op frv sv fr fun fr v => putB (bdOf nb hd.K A i hd.ws) fr o.dst v fun fr => K fr s else putK fr o.dst (.tup []) fun fr => K fr s
          | .ff => if want = true then putK fr o.dst (.tup []) fun fr => K fr s else execH3 sc cf o.op frv sv fr fun fr v => putB (bdOf nb hd.K A i hd.ws) fr o.dst v fun fr => K fr s
          | .tup [] => putK fr o.dst (.tup []) fun fr => K fr s
          | .bool b => cond b
            (setK fr t .tt fun fr => if want = true then execH3 sc cf o.op frv sv fr fun fr v => putB (bdOf nb hd.K A i hd.ws) fr o.dst v fun fr => K fr s else putK fr o.dst (.tup []) fun fr => K fr s)
            (setK fr t .ff fun fr => if want = true then putK fr o.dst (.tup []) fun fr => K fr s else execH3 sc cf o.op frv sv fr fun fr v => putB (bdOf nb hd.K A i hd.ws) fr o.dst v fun fr => K fr s)
          | _ => none
theorem hOp_eq {o : Oper} {i : Nat} {Tv T : FT sh} {sv s : List TOb} {k : FT sh → List TOb → Option β} {K : List TV → List TOb → Option β} (hk : ∀ T s, k T s = K (toL sh T) s) : hOp A hd n0 o i nb sh sc cf Tv sv T s β k = operH sc cf A hd nb n0 o i (toL sh Tv) sv (toL sh T) s K := by
  obtain ⟨dst, op, type, pos, after, guard⟩ := o
  unfold hOp operH
  cases lookN hd.ws i with
  | some w =>
    cases guard with
    | none => exact wrF_eq hk
    | some gw => rfl
  | none =>
    cases guard with
    | none => exact hPlain_eq hk
    | some gw =>
      obtain ⟨g, w⟩ := gw
      dsimp only
      cases guardSlot A g with
      | none => rfl
      | some t =>
        dsimp only
        rw [get_eq]
        have hs : ∀ (v : TV) (yes : Bool), ((setG sh t).un (Option β) v T fun T => hDo yes ⟨dst, op, type, pos, after, some (g, w)⟩ (bdOf nb hd.K A i hd.ws) sh sc cf Tv sv T s β k) = setK (toL sh T) t v fun fr => cond yes (execH3 sc cf op (toL sh Tv) sv fr fun fr v => putB (bdOf nb hd.K A i hd.ws) fr dst v fun fr => K fr s) (putK fr dst (.tup []) fun fr => K fr s) := by
          intro v yes
          rw [setK_eq]
          exact setF_eq (K := fun fr => cond yes (execH3 sc cf op (toL sh Tv) sv fr fun fr v => putB (bdOf nb hd.K A i hd.ws) fr dst v fun fr => K fr s) (putK fr dst (.tup []) fun fr => K fr s)) fun T => hDo_eq hk
        cases (toL sh Tv).getD t .undef
        case tt =>
          show hDo w _ (bdOf nb hd.K A i hd.ws) sh sc cf Tv sv T s β k = _
          rw [hDo_eq hk]
          cases w <;> rfl
        case ff =>
          show hDo (!w) _ (bdOf nb hd.K A i hd.ws) sh sc cf Tv sv T s β k = _
          rw [hDo_eq hk]
          cases w <;> rfl
        case bool b =>
          cases b with
          | true =>
            refine (hs .tt w).trans ?_
            cases w <;> rfl
          | false =>
            refine (hs .ff (!w)).trans ?_
            cases w <;> rfl
        case tup vs =>
          cases vs with
          | nil => exact hDo_eq (sc := sc) (cf := cf) (nb := bdOf nb hd.K A i hd.ws) (yes := false) (o := ⟨dst, op, type, pos, after, some (g, w)⟩) (Tv := Tv) (sv := sv) hk
          | cons => rfl
        all_goals rfl
theorem head3F_eq {k : FT sh → List TOb → Option β} {K : List TV → List TOb → Option β} (hk : ∀ T s, k T s = K (toL sh T) s) : ∀ (l : List Oper) (i : Nat) (T : FT sh) (s : List TOb), head3F sc cf hd A nb n0 sh β l i T s k = head3 sc cf hd A nb n0 l i (toL sh T) s K
  | [], i, T, s => hk T s
  | o :: l, i, T, s => by
    show clrF sh (tsOf A i hd.ws) T (Option β) (fun Tv => mskF (deadOf nb n0 A i hd.ws) (tsOf A i hd.ws) s (Option β) fun sv => hOp A hd n0 o i nb sh sc cf Tv sv T s β fun T s => fN (i + 1) (Option β) fun i => head3F sc cf hd A nb n0 sh β l i T s k) = _
    have e : head3 sc cf hd A nb n0 (o :: l) i (toL sh T) s K = clearK (tsOf A i hd.ws) (toL sh T) fun frv => mskK (deadOf nb n0 A i hd.ws) (tsOf A i hd.ws) s fun sv => operH sc cf A hd nb n0 o i frv sv (toL sh T) s fun fr s => head3 sc cf hd A nb n0 l (i + 1) fr s K := by
      simp only [head3]
      rfl
    rw [e]
    refine clrF_eq (K := fun frv => mskK (deadOf nb n0 A i hd.ws) (tsOf A i hd.ws) s fun sv => operH sc cf A hd nb n0 o i frv sv (toL sh T) s fun fr s => head3 sc cf hd A nb n0 l (i + 1) fr s K) fun Tv => ?_
    rw [mskF_eq]
    congr 1
    funext sv
    refine hOp_eq fun T s => ?_
    rw [fN_eq, head3F_eq hk l]
def draw3F (hd : HDat) (sh : Sh) (sc : Sc) (cf : Cfg) (A : Array Oper) (T : FT sh) (s : List TOb) (β : Type) (k : FT sh → List TOb → Option β) : Option β :=
  @Bool.rec (fun _ => Option β) none (@Bool.rec (fun _ => Option β) none (@Bool.rec (fun _ => Option β) none
    (fN (lenC TOb s) (Option β) fun nb => @Bool.rec (fun _ => Option β) none
      (fS (deads hd.K) (Option β) fun ds => appC TOb s ds (Option β) fun s1 => head3F sc cf hd A nb cf.n0 sh β (A.toList.take hd.n) 0 T s1 fun T s => clrF sh (tsAll hd.ws) T (Option β) fun T => runOpsF A (A.toList.drop hd.n) sh sc cf T s β k)
      (wsOK A hd.n nb cf.n0 hd.ws))
    (Nat.beq sh.size hd.L)) (sc.P.follows .mixedOrders)) (drawOK A hd.n hd.L)
theorem draw3F_eq {T : FT sh} {s : List TOb} {k : FT sh → List TOb → Option β} {K : List TV → List TOb → Option β} (hk : ∀ T s, k T s = K (toL sh T) s) : draw3F hd sh sc cf A T s β k = draw3 sc cf hd A (toL sh T) s K := by
  unfold draw3F draw3
  cases drawOK A hd.n hd.L with
  | false => rfl
  | true =>
    cases sc.P.follows .mixedOrders with
    | false => cases wsOK A hd.n s.length cf.n0 hd.ws <;> rfl
    | true =>
      dsimp only
      rw [fN_eq, lenC_eq, toL_length]
      cases hb : Nat.beq sh.size hd.L with
      | false =>
        have : sh.size ≠ hd.L := fun e => by rw [e, Nat.beq_refl] at hb; cases hb
        rw [if_neg this]
        cases wsOK A hd.n s.length cf.n0 hd.ws <;> rfl
      | true =>
        rw [if_pos (Nat.eq_of_beq_eq_true hb)]
        cases wsOK A hd.n s.length cf.n0 hd.ws with
        | false => rfl
        | true =>
          dsimp only [cond, Bool.and_true]
          rw [fS_eq, appC_eq, forceS_eq]
          refine head3F_eq (K := fun fr s => clearK (tsAll hd.ws) fr fun fr => runOps sc cf A (A.toList.drop hd.n) fr s K) (fun T s => ?_) _ _ _ _
          exact clrF_eq (K := fun fr => runOps sc cf A (A.toList.drop hd.n) fr s K) fun T => runOpsF_eq _ hk
end
/-! what a head will turn: guessed -/
def kindH (W : List Nat) (o : Oper) : Nat := match o.op with
  | .alloc _ => 1
  | .box _ _ => 1
  | .store _ _ _ => 2
  | .call c => match c.callee with
    | .builtin .append => 3
    | .value (.func f) => match inN f W with
      | true => 4
      | false => 5
    | .value _ => 5
    | _ => 0
  | _ => 0
def opX (o : Oper) : Operand := match o.op with
  | .store _ x _ => x
  | .call c => match c.args.toList with
    | x :: _ => x
    | [] => .global 0
  | _ => .global 0
def refI (v : TV) : Option Nat := match v with
  | .ref i _ => some i
  | .ap i _ _ _ => some i
  | _ => none
def hCons (w : Nat × TW) (o : Option (List (Nat × TW))) : Option (List (Nat × TW)) := match o with
  | some l => some (w :: l)
  | none => none
def hSkip (o : Oper) (sh : Sh) (T : FT sh) (k : FT sh → Option (List (Nat × TW))) : Option (List (Nat × TW)) := putF o.dst sh .undef T (Option (List (Nat × TW))) k
def hRun (A : Array Oper) (o : Oper) (sh : Sh) (sc : Sc) (cf : Cfg) (T : FT sh) (s : List TOb) (k : FT sh → List TOb → Option (List (Nat × TW))) : Option (List (Nat × TW)) := match operF A o sh sc cf T s (FT sh × List TOb) fun T s => some (T, s) with
  | some (T, s) => k T s
  | none => hSkip o sh T fun T => k T s
def hintF (W : List Nat) (A : Array Oper) (sh : Sh) (sc : Sc) (cf : Cfg) (l : List Oper) : Nat → Nat → FT sh → List TOb → Option (List (Nat × TW)) := @List.rec Oper (fun _ => Nat → Nat → FT sh → List TOb → Option (List (Nat × TW))) (fun _ _ _ _ => some [])
  (fun o _ ih i r T s => match kindH W o with
    | 0 => hRun A o sh sc cf T s fun T s => fN (i + 1) (Option (List (Nat × TW))) fun i => ih i r T s
    | 1 => hCons (i, .alloc r) (hRun A o sh sc cf T s fun T s => fN (i + 1) (Option (List (Nat × TW))) fun i => fN (r + 1) (Option (List (Nat × TW))) fun r => ih i r T s)
    | 2 => match refI (evT sh (opX o) T) with
      | some idx => hCons (i, .store false idx) (hRun A o sh sc cf T s fun T s => fN (i + 1) (Option (List (Nat × TW))) fun i => ih i r T s)
      | none => none
    | 3 => fN ((tmark (evT sh (opX o) T)).getD (1000 + o.dst.getD 0)) (Option (List (Nat × TW))) fun t0 => hCons (i, .app t0) (hRun A o sh sc cf T s fun T s => fN (i + 1) (Option (List (Nat × TW))) fun i => ih i r T s)
    | 4 => match refI (evT sh (opX o) T) with
      | some idx => hCons (i, .store false idx) (hSkip o sh T fun T => fN (i + 1) (Option (List (Nat × TW))) fun i => ih i r T s)
      | none => none
    | _ => hSkip o sh T fun T => fN (i + 1) (Option (List (Nat × TW))) fun i => ih i r T s) l
def withW (hd : HDat) (A : Array Oper) (ws : List (Nat × TW)) : HDat := { hd with ws := ws, K := (allocW (A.toList.take hd.n) 0 0).length }
/-! a head with one call that looks at objects as they stand -/
def refsV : TV → List Nat
  | .ref i _ => [i]
  | .mapr i => [i]
  | .arr i _ => [i]
  | .ap i _ _ _ => [i]
  | _ => []
def refsO (s : List TOb) (i : Nat) : List Nat := match s[i]? with
  | some (.cells cs _ _) => cs.flatMap refsV
  | _ => []
def reachA (s : List TOb) (a : List Nat) : List Nat := a ++ a.flatMap (refsO s) ++ (a.flatMap (refsO s)).flatMap (refsO s)
def argsOp (o : Oper) : List Operand := match o.op with
  | .call c => c.args.toList
  | _ => []
def isCall (o : Oper) : Bool := match o.op with
  | .call c => match c.callee with
    | .value _ => true
    | _ => false
  | _ => false
def preF (A : Array Oper) (sh : Sh) (sc : Sc) (cf : Cfg) (β : Type) : List Oper → FT sh → List TOb → (FT sh → Option β) → Option β
  | [], T, s, k => k T
  | o :: l, T, s, k => match isCall o with
    | true => preF A sh sc cf β l T s k
    | false => match operF A o sh sc cf T s (FT sh × List TOb) fun T s => some (T, s) with
      | some (T, s) => preF A sh sc cf β l T s k
      | none => preF A sh sc cf β l T s k
theorem preF_some {A : Array Oper} {sh : Sh} {sc : Sc} {cf : Cfg} {β : Type} {b : β} : ∀ (l : List Oper) (T : FT sh) (s : List TOb) (k : FT sh → Option β), preF A sh sc cf β l T s k = some b → ∃ T', k T' = some b
  | [], T, s, k, h => ⟨T, h⟩
  | o :: l, T, s, k, h => by
    unfold preF at h
    split at h
    · exact preF_some l T s k h
    · split at h <;> exact preF_some l _ _ k h
def natsF (l : List Nat) (β : Type) (k : List Nat → β) : β := @List.rec Nat (fun _ => (List Nat → β) → β) (fun k => k []) (fun n _ ih k => fN n β fun n => ih fun l => k (n :: l)) l k
theorem natsF_eq (β : Type) : ∀ (l : List Nat) (k : List Nat → β), natsF l β k = k l
  | [], k => rfl
  | n :: l, k => by show fN n β (fun n => natsF l β fun l => k (n :: l)) = _; rw [fN_eq, natsF_eq β l]
def drawCF (hd : HDat) (e : Nat) (sh : Sh) (sc : Sc) (cf : Cfg) (A : Array Oper) (T : FT sh) (s : List TOb) (β : Type) (k : FT sh → List TOb → Option β) : Option β :=
  preF A sh sc cf β (A.toList.take e) T s fun Tp => natsF (reachA s (((A[e]?).elim [] argsOp).flatMap fun x => refsV (evT sh x Tp))) (Option β) fun π => toK sh T [] (Option β) fun fr => drawC sc cf hd e π A fr s fun fr s => @Bool.rec (fun _ => Option β) none (ofK sh fr (Option β) fun T _ => k T s) (Nat.beq (lenC TV fr) sh.size)
def DRf (W : List Nat) : DrawF := fun sh sc cf id A T s β k => @Option.rec HDat (fun _ => Option β) none (fun hd => @Bool.rec (fun _ => Option β) (drawCF { hd with n := hd.n % 1000 } (hd.n / 1000 - 1) sh sc cf A T s β k) (@Bool.rec (fun _ => Option β) (draw3F (withW hd A (allocW (A.toList.take hd.n) 0 0)) sh sc cf A T s β k)
  (@Option.rec (List (Nat × TW)) (fun _ => Option β) none (fun ws => draw3F (withW hd A ws) sh sc cf A T s β k) (hintF W A sh sc cf (A.toList.take hd.n) 0 0 T s)) (hasW W (A.toList.take hd.n))) (Nat.blt hd.n 1000)) (lookN sc.heads id)
theorem DRf_sound (W : List Nat) : DrawFSound (DRf W) := by
  intro sh sc cf id A T s β k b hC h
  have main : ∀ hd, draw3F hd sh sc cf A T s β k = some b → ∃ F S, k F S = some b ∧ AW cf.n0 sc.P (.region id A true) (dns (toL sh T)) (dnS s) (Ex .normal (toL sh F) S) := by
    intro hd h
    rw [draw3F_eq (K := Kof sh k) (fun T s => Kof_toL T s)] at h
    obtain ⟨F, S, h1, h2⟩ := draw3_sound (id := id) hC h
    obtain ⟨F', h3, rfl⟩ := Kof_some h1
    exact ⟨F', S, h3, h2⟩
  have main2 : ∀ hd e, drawCF hd e sh sc cf A T s β k = some b → ∃ F S, k F S = some b ∧ AW cf.n0 sc.P (.region id A true) (dns (toL sh T)) (dnS s) (Ex .normal (toL sh F) S) := by
    intro hd e h
    unfold drawCF at h
    obtain ⟨Tp, h⟩ := preF_some _ _ _ _ h
    rw [natsF_eq, toK_eq, List.append_nil] at h
    obtain ⟨F, S, h1, h2⟩ := drawC_sound (id := id) hC h
    rw [lenC_eq] at h1
    cases hl : Nat.beq F.length sh.size with
    | false => rw [hl] at h1; cases h1
    | true =>
      rw [hl] at h1
      dsimp only at h1
      rw [ofK_eq] at h1
      refine ⟨_, S, h1, ?_⟩
      rw [toL_ofL sh F (Nat.eq_of_beq_eq_true hl)]
      exact h2
  unfold DRf at h
  cases hl : lookN sc.heads id with
  | none => rw [hl] at h; cases h
  | some hd =>
    rw [hl] at h
    dsimp only at h
    cases hs : Nat.blt hd.n 1000 with
    | false => rw [hs] at h; exact main2 _ _ h
    | true =>
      rw [hs] at h
      dsimp only at h
      cases hw : hasW W (A.toList.take hd.n) with
      | false => rw [hw] at h; exact main _ h
      | true =>
        rw [hw] at h
        dsimp only at h
        cases hh : hintF W A sh sc cf (A.toList.take hd.n) 0 0 T s with
        | none => rw [hh] at h; cases h
        | some ws => rw [hh] at h; exact main _ h
end
end Go.Proofs.YtmacghaihlfcpaaGreat.Abs
