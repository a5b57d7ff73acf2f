/- Operations on frames that are trees. (Printed by gf2.py.) -/
import Derived.Test.YtmacghaihlfcpaaGreatFB
import Derived.Test.YtmacghaihlfcpaaGreatLD
namespace Go.Proofs.YtmacghaihlfcpaaGreat.Abs
noncomputable section
open Go Go.ChangeShapes Go.WideShapes Go.ChangeAt Go.RowKit
set_option linter.unusedVariables false
set_option linter.unusedSimpArgs false

def evT (sh : Sh) (x : Operand) (T : FT sh) : TV := @Operand.rec (fun _ => (sh : Sh) → FT sh → TV) (fun t sh T => (getG sh t).un T) (fun v sh T => tAbs v) (fun g sh T => .undef) (fun f sh T => .func (.func f) []) x sh T
theorem evT_eq (sh : Sh) (x : Operand) (T : FT sh) : evT sh x T = tEval (toL sh T) x := by
  cases x with
  | tmp t => exact (get_eq sh t T).trans (nthR_eq _ _).symm
  | _ => rfl
def putF (d : Option Tmp) (sh : Sh) (v : TV) (T : FT sh) (β : Type) (k : FT sh → β) : β := @Option.rec Tmp (fun _ => (sh : Sh) → TV → FT sh → (β : Type) → (FT sh → β) → β) (fun sh v T β k => k T) (fun d sh v T β k => fc v β fun v => (setG sh d).un β v T k) d sh v T β k
theorem setF_eq {sh : Sh} {d : Nat} {v : TV} {T : FT sh} {β : Type} {k : FT sh → β} {K : List TV → β} (hk : ∀ T, k T = K (toL sh T)) : (setG sh d).un β v T k = K ((toL sh T).set d v) := by
  obtain ⟨T', h1, h2⟩ := set_ex sh d v T
  rw [h1, hk, h2]
theorem putF_eq {sh : Sh} {d : Option Tmp} {v : TV} {T : FT sh} {β : Type} {k : FT sh → β} {K : List TV → β} (hk : ∀ T, k T = K (toL sh T)) : putF d sh v T β k = K (tPut (toL sh T) d v) := by
  cases d with
  | none => exact hk T
  | some d =>
    show fc v β (fun v => (setG sh d).un β v T k) = _
    rw [fc_eq, setF_eq hk]
    rfl
def partsF (sh : Sh) (T : FT sh) (l : List (Nat × Operand)) : List (Nat × TV) := @List.rec (Nat × Operand) (fun _ => List (Nat × TV)) [] (fun p _ ih => (p.1, evT sh p.2 T) :: ih) l
theorem partsF_eq (sh : Sh) (T : FT sh) : ∀ l : List (Nat × Operand), partsF sh T l = l.map fun p => (p.1, tEval (toL sh T) p.2)
  | [] => rfl
  | p :: l => by
    show (p.1, evT sh p.2 T) :: partsF sh T l = _
    rw [evT_eq, partsF_eq sh T l]; rfl

def fA : TV → (β : Type) → (TV → β) → β := @TV.rec (fun _ => (β : Type) → (TV → β) → β) (fun _ => PUnit)
    (fun β k => forceX .undef k)
    (fun a b β k => forceX (.int a b) k)
    (fun a β k => forceX (.bool a) k)
    (fun β k => forceX .tt k)
    (fun β k => forceX .ff k)
    (fun a β k => forceX (.str a) k)
    (fun β k => forceX .nilp k)
    (fun a b β k => forceX (.ref a b) k)
    (fun a b c β k => forceX (.tl a b c) k)
    (fun a b c _ β k => forceX (.ll a b c) k)
    (fun a b _ β k => forceX (.ep a b) k)
    (fun a b β k => forceX (.arr a b) k)
    (fun a b c d β k => forceX (.ap a b c d) k)
    (fun β k => forceX .nilf k)
    (fun β k => forceX .mapn k)
    (fun a β k => forceX (.mapr a) k)
    (fun a b _ β k => forceX (.func a b) k)
    (fun a _ β k => fcs a β fun l => k (.agg l))
    (fun a _ β k => forceX (.tup a) k)
    PUnit.unit
    (fun _ _ _ _ => PUnit.unit)
theorem fA_eq (v : TV) (β : Type) (k : TV → β) : fA v β k = k v := by
  cases v
  case agg cs => exact fcs_eq cs _
  all_goals (unfold fA; dsimp only; simp only [forceX_eq])

def VO {β : Type} (o : Option TV) (K : TV → Option β) : Option β := @Option.rec TV (fun _ => Option β) none (fun v => K v) o

def evO (sh : Sh) (x : Option Operand) (T : FT sh) : Option TV := @Option.rec Operand (fun _ => Option TV) none (fun x => some (evT sh x T)) x
theorem evO_eq (sh : Sh) (x : Option Operand) (T : FT sh) : evO sh x T = x.map (tEval (toL sh T)) := by
  cases x with
  | none => rfl
  | some x => show some (evT sh x T) = _; rw [evT_eq]; rfl

def pureF : Op → (sh : Sh) → Program → Bool → FT sh → List TOb → (β : Type) → (TV → Option β) → Option β := @Op.rec (fun _ => (sh : Sh) → Program → Bool → FT sh → List TOb → (β : Type) → (TV → Option β) → Option β)
    (fun a sh P wr T s β K => fc (evT sh a T) (Option β) K)
    (fun a sh P wr T s β K => fc (evT sh a T) (Option β) K)
    (fun a b c sh P wr T s β K => toK sh T [] (Option β) fun l => VC (tPure P wr l s (.pick a b c)) fun v => forceX v K)
    (fun a sh P wr T s β K => toK sh T [] (Option β) fun l => VC (tPure P wr l s (.alloc a)) fun v => forceX v K)
    (fun a b sh P wr T s β K => toK sh T [] (Option β) fun l => VC (tPure P wr l s (.box a b)) fun v => forceX v K)
    (fun a b sh P wr T s β K => VC (tBuild P a (partsF sh T b.toList)) fun v => fA v (Option β) K)
    (fun a b c sh P wr T s β K => VC (tBuildSlice P a b (partsF sh T c.toList)) fun v => forceX v K)
    (fun a b c d sh P wr T s β K => toK sh T [] (Option β) fun l => VC (tPure P wr l s (.insert a b c d)) fun v => forceX v K)
    (fun a b sh P wr T s β K => loadF (evT sh b T) P s a β K)
    (fun a b c sh P wr T s β K => toK sh T [] (Option β) fun l => VC (tPure P wr l s (.store a b c)) fun v => forceX v K)
    (fun a sh P wr T s β K => toK sh T [] (Option β) fun l => VC (tPure P wr l s (.ready a)) fun v => forceX v K)
    (fun a sh P wr T s β K => toK sh T [] (Option β) fun l => VC (tPure P wr l s (.waits a)) fun v => forceX v K)
    (fun a sh P wr T s β K => nilF (evT sh a T) β K)
    (fun a b c d e sh P wr T s β K => binF (evT sh c T) (evT sh d T) P wr b a β K)
    (fun a b c sh P wr T s β K => VC (tUn wr a (evT sh c T)) fun v => forceX v K)
    (fun a b c sh P wr T s β K => VC (tConv P wr a b (evT sh c T)) fun v => forceX v K)
    (fun a b sh P wr T s β K => toK sh T [] (Option β) fun l => VC (tPure P wr l s (.sliceToArrayPointer a b)) fun v => forceX v K)
    (fun a b sh P wr T s β K => toK sh T [] (Option β) fun l => VC (tPure P wr l s (.makeInterface a b)) fun v => forceX v K)
    (fun a b c sh P wr T s β K => toK sh T [] (Option β) fun l => VC (tPure P wr l s (.makeFunc a b c)) fun v => forceX v K)
    (fun a b sh P wr T s β K => toK sh T [] (Option β) fun l => VC (tPure P wr l s (.makeMap a b)) fun v => forceX v K)
    (fun a b sh P wr T s β K => toK sh T [] (Option β) fun l => VC (tPure P wr l s (.makeChan a b)) fun v => forceX v K)
    (fun a b c sh P wr T s β K => toK sh T [] (Option β) fun l => VC (tPure P wr l s (.makeSlice a b c)) fun v => forceX v K)
    (fun a b c d e sh P wr T s β K => @Option.rec Operand (fun _ => Option β) (VC (tSlice P a (evT sh b T) (evO sh c T) (evO sh d T)) fun v => forceX v K) (fun _ => toK sh T [] (Option β) fun l => VC (tPure P wr l s (.slice a b c d e)) fun v => forceX v K) e)
    (fun a b c sh P wr T s β K => fieldF (evT sh b T) P a c β K)
    (fun a b c sh P wr T s β K => toK sh T [] (Option β) fun l => VC (tPure P wr l s (.field a b c)) fun v => forceX v K)
    (fun a b c sh P wr T s β K => indexAddrF (evT sh b T) (evT sh c T) P a β K)
    (fun a b c sh P wr T s β K => indexF (evT sh b T) (evT sh c T) P a β K)
    (fun a b c d sh P wr T s β K => toK sh T [] (Option β) fun l => VC (tPure P wr l s (.lookup a b c d)) fun v => forceX v K)
    (fun a b c d sh P wr T s β K => toK sh T [] (Option β) fun l => VC (tPure P wr l s (.mapUpdate a b c d)) fun v => forceX v K)
    (fun a b c sh P wr T s β K => toK sh T [] (Option β) fun l => VC (tPure P wr l s (.mapEntry a b c)) fun v => forceX v K)
    (fun a b c d sh P wr T s β K => toK sh T [] (Option β) fun l => VC (tPure P wr l s (.entryStore a b c d)) fun v => forceX v K)
    (fun a b sh P wr T s β K => toK sh T [] (Option β) fun l => VC (tPure P wr l s (.range a b)) fun v => forceX v K)
    (fun a b sh P wr T s β K => toK sh T [] (Option β) fun l => VC (tPure P wr l s (.next a b)) fun v => forceX v K)
    (fun a sh P wr T s β K => toK sh T [] (Option β) fun l => VC (tPure P wr l s (.entry a)) fun v => forceX v K)
    (fun a b c d sh P wr T s β K => toK sh T [] (Option β) fun l => VC (tPure P wr l s (.typeAssert a b c d)) fun v => forceX v K)
    (fun a b sh P wr T s β K => extractF (evT sh a T) b β K)
    (fun a sh P wr T s β K => toK sh T [] (Option β) fun l => VC (tPure P wr l s (.call a)) fun v => forceX v K)
    (fun a sh P wr T s β K => toK sh T [] (Option β) fun l => VC (tPure P wr l s (.go a)) fun v => forceX v K)
    (fun a sh P wr T s β K => toK sh T [] (Option β) fun l => VC (tPure P wr l s (.defer a)) fun v => forceX v K)
    (fun a sh P wr T s β K => toK sh T [] (Option β) fun l => VC (tPure P wr l s (.panic a)) fun v => forceX v K)
    (fun a b sh P wr T s β K => toK sh T [] (Option β) fun l => VC (tPure P wr l s (.send a b)) fun v => forceX v K)
    (fun a b c sh P wr T s β K => toK sh T [] (Option β) fun l => VC (tPure P wr l s (.recv a b c)) fun v => forceX v K)
    (fun a b sh P wr T s β K => toK sh T [] (Option β) fun l => VC (tPure P wr l s (.select a b)) fun v => forceX v K)
theorem pureF_eq (op : Op) (sh : Sh) (P : Program) (wr : Bool) (T : FT sh) (s : List TOb) (β : Type) (K : TV → Option β) : pureF op sh P wr T s β K = VC (tPure P wr (toL sh T) s op) K := by
  cases op
  case move x => show fc _ _ _ = _; rw [fc_eq, evT_eq]; rfl
  case assign x => show fc _ _ _ = _; rw [fc_eq, evT_eq]; rfl
  case load t x => show loadF _ _ _ _ _ _ = _; rw [loadF_eq, evT_eq]; rfl
  case nilCheck x => show nilF _ _ _ = _; rw [nilF_eq, evT_eq]; rfl
  case binOp a b c d e => show binF _ _ _ _ _ _ _ _ = _; rw [binF_eq, evT_eq, evT_eq]; rfl
  case unOp a b c => unfold pureF; dsimp only; simp only [forceX_eq]; rw [evT_eq]; rfl
  case convert a b c => unfold pureF; dsimp only; simp only [forceX_eq]; rw [evT_eq]; rfl
  case fieldAddr a b c => show fieldF _ _ _ _ _ _ = _; rw [fieldF_eq, evT_eq]; rfl
  case indexAddr a b c => show indexAddrF _ _ _ _ _ _ = _; rw [indexAddrF_eq, evT_eq, evT_eq]; rfl
  case index a b c => show indexF _ _ _ _ _ _ = _; rw [indexF_eq, evT_eq, evT_eq]; rfl
  case extract a b => show extractF _ _ _ _ = _; rw [extractF_eq, evT_eq]; rfl
  case build a b => unfold pureF; dsimp only; simp only [fA_eq]; rw [partsF_eq]; rfl
  case buildSlice a b c => unfold pureF; dsimp only; simp only [forceX_eq]; rw [partsF_eq]; rfl
  case slice a b c d e =>
    cases e with
    | none => unfold pureF; dsimp only; simp only [forceX_eq]; rw [evT_eq, evO_eq, evO_eq]; rfl
    | some e => unfold pureF; dsimp only; rw [toK_eq, List.append_nil]; simp only [forceX_eq]
  all_goals (unfold pureF; dsimp only; rw [toK_eq, List.append_nil]; simp only [forceX_eq])
/-! the older function, said plainly -/
theorem execT_pure {β : Type} {sc : Sc} {cf : Cfg} {dst : Option Tmp} {op : Op} {fr : List TV} {s : List TOb} {k : List TV → List TOb → Option β}
    (hop : match op with | .move _ | .assign _ | .build _ _ | .buildSlice _ _ _ | .load _ _ | .nilCheck _ | .unOp _ _ _ | .convert _ _ _ | .fieldAddr _ _ _ | .indexAddr _ _ _ | .index _ _ _ | .extract _ _ | .slice _ _ _ _ none => True | _ => False) :
    execT sc cf dst op fr s k = VC (tPure sc.P sc.wrap fr s op) fun v => k (tPut fr dst v) s := by
  have main : ∀ (b : Bool) (w : FM) (o : Option (Bool × TV)), (match (match (match o with | some (g, v) => some (g, fr, v, s) | none => none) with | some r => some r | none => none) with
      | some (g, fr', v, s') => cond g (forceY b v fun v => putK fr' dst v fun fr2 => forceW w s' fun s => k fr2 s) none
      | none => none) = VC o fun v => k (tPut fr dst v) s := by
    intro b w o
    cases o with
    | none => rfl
    | some r =>
      obtain ⟨g, v⟩ := r
      simp only [forceY_eq, putK_eq, forceW_eq, VC]
  cases op
  case slice a b c d e =>
    cases e with
    | none => cases d <;> exact main _ _ (tPure sc.P sc.wrap fr s (.slice a b c _ none))
    | some e => exact hop.elim
  all_goals first | exact hop.elim | exact main _ _ _ | simp only [execT, tStepX, tStep, tPure, VC, forceY_eq, putK_eq, forceW_eq]
theorem tPut_length (fr : List TV) (d : Option Nat) (v : TV) : (tPut fr d v).length = fr.length := by
  cases d with
  | none => rfl
  | some d => simp [tPut]
theorem tclears_length (ts : List Nat) (fr : List TV) : (tclears ts fr).length = fr.length := by simp [tclears]
theorem tAppend_len {P : Program} {d : Nat} {fr fr' : List TV} {s s' : List TOb} {t : TypeId} {x y v : TV} {g : Bool} (h : tAppend P d fr s t x y = some (g, fr', v, s')) : fr'.length = fr.length := by
  unfold tAppend at h
  split at h
  · cases h
  split at h
  · split at h <;> cases h <;> rfl
  · split at h
    · split at h <;> cases h
      exact tclears_length _ _
    · cases h
  · cases h
theorem tAppL_len {P : Program} {d : Nat} {fr fr' : List TV} {s s' : List TOb} {t : TypeId} {x y v : TV} {g : Bool} (h : tAppL P d fr s t x y = some (g, fr', v, s')) : fr'.length = fr.length := by
  unfold tAppL at h
  split at h
  · split at h
    · split at h
      · split at h <;> cases h
        exact tclears_length _ _
      · split at h <;> cases h
        exact tclears_length _ _
      · cases h
    · cases h
  · cases h
theorem tStepX_len {P : Program} {wr : Bool} {tb : Nat} {arr : Bool} {fr fr' : List TV} {s s' : List TOb} {dst : Option Tmp} {op : Op} {g : Bool} {v : TV} (h : tStepX P wr tb arr fr s dst op = some (g, fr', v, s')) : fr'.length = fr.length := by
  have pure : ∀ {o : Option (Bool × TV)}, (match o with | some (g, v) => some (g, fr, v, s) | none => none) = some (g, fr', v, s') → fr'.length = fr.length := by
    intro o h
    split at h <;> cases h
    rfl
  unfold tStepX at h
  split at h
  · rename_i r h1
    cases h
    unfold tStep at h1
    split at h1
    · split at h1
      · cases h1
      · split at h1 <;> cases h1
        rfl
    · split at h1
      · cases h1
      · split at h1 <;> cases h1
        rfl
    · split at h1 <;> cases h1
      rfl
    · split at h1
      · split at h1
        · split at h1
          · split at h1 <;> cases h1
            rfl
          · cases h1; rfl
        · cases h1
      · cases h1
    · split at h1
      · split at h1
        · split at h1
          · exact tAppend_len h1
          · cases h1
        · cases h1
      · split at h1
        · exact pure h1
        · cases h1
      · exact pure h1
      · exact pure h1
      · cases h1
    · exact pure h1
  · unfold tMore at h
    split at h
    · cases h; rfl
    · split at h <;> cases h
      rfl
    · split at h <;> cases h
      rfl
    · split at h <;> cases h
      rfl
    · split at h <;> cases h
      rfl
    · split at h <;> cases h
      rfl
    · split at h <;> cases h
      rfl
    · split at h <;> cases h
      rfl
    · split at h
      · split at h <;> cases h
        rfl
      · cases h
    · split at h
      · split at h
        · split at h <;> cases h
          rfl
        · cases h
      · split at h
        · split at h <;> cases h
          rfl
        · cases h
      · split at h
        · split at h
          · exact tAppL_len h
          · cases h
        · cases h
      · cases h
    · cases h
theorem execT_congr {β : Type} {sc : Sc} {cf : Cfg} {dst : Option Tmp} {op : Op} {fr : List TV} {s : List TOb} {k1 k2 : List TV → List TOb → Option β} (h : ∀ fr' s', fr'.length = fr.length → k1 fr' s' = k2 fr' s') : execT sc cf dst op fr s k1 = execT sc cf dst op fr s k2 := by
  have hp : ∀ (fr2 : List TV) v s', fr2.length = fr.length → k1 (tPut fr2 dst v) s' = k2 (tPut fr2 dst v) s' := fun fr2 v s' e => h _ _ ((tPut_length ..).trans e)
  have viaStep : ∀ {arr w1 : Bool} {w : FM}, (match tStepX sc.P sc.wrap 1000 arr fr s dst op with
      | some (g, fr', v, s') => cond g (forceY w1 v fun v => putK fr' dst v fun fr => forceW w s' fun s => k1 fr s) none
      | none => none) = (match tStepX sc.P sc.wrap 1000 arr fr s dst op with
      | some (g, fr', v, s') => cond g (forceY w1 v fun v => putK fr' dst v fun fr => forceW w s' fun s => k2 fr s) none
      | none => none) := by
    intro arr w1 w
    split
    · rename_i g fr' v s' h1
      simp only [forceY_eq, putK_eq, forceW_eq]
      rw [hp _ _ _ (tStepX_len h1)]
    · rfl
  have viaStep2 : ∀ {arr : Bool}, (match tStepX sc.P sc.wrap 1000 arr fr s dst op with
      | some (g, fr', v, s') => cond g (forceX v fun v => forceL fr' fun fr => putK fr dst v fun fr => forceS s' fun s => k1 fr s) none
      | none => none) = (match tStepX sc.P sc.wrap 1000 arr fr s dst op with
      | some (g, fr', v, s') => cond g (forceX v fun v => forceL fr' fun fr => putK fr dst v fun fr => forceS s' fun s => k2 fr s) none
      | none => none) := by
    intro arr
    split
    · rename_i g fr' v s' h1
      simp only [forceX_eq, putK_eq, forceS_eq, forceL_eq]
      rw [hp _ _ _ (tStepX_len h1)]
    · rfl
  unfold execT
  split
  · rename_i c x y
    simp only [putK_eq, setK_eq]
    split
    · exact hp _ _ _ rfl
    · exact hp _ _ _ rfl
    · split
      · rw [hp _ _ _ (by simp), hp _ _ _ (by simp)]
      · rfl
    · rfl
  · rename_i c
    split
    · split
      · rename_i x hx f fcs hf
        simp only [forceL_eq, clearK_eq, putK_eq]
        have gen : ∀ args, (cf.C f β args s fun r s' => k1 (tPut (tclears (tmarks s) fr) dst (tplain r)) s') = (cf.C f β args s fun r s' => k2 (tPut (tclears (tmarks s) fr) dst (tplain r)) s') := by
          intro args
          congr 1
          funext r s'
          exact hp _ _ _ (tclears_length _ _)
        split
        · split
          · congr 1
            funext r s'
            exact hp _ _ _ (tclears_length _ _)
          · congr 1
            funext r s'
            split
            · exact hp _ _ _ rfl
            · exact gen _
        · split
          · split
            · congr 1
              funext r s'
              split
              · exact hp _ _ _ rfl
              · rfl
            · rfl
          · exact gen _
      · rfl
    · exact viaStep
    · exact viaStep2
  · exact viaStep
/-- on lists, for a while -/
def fbk (sh : Sh) (sc : Sc) (cf : Cfg) (dst : Option Tmp) (op : Op) (T : FT sh) (s : List TOb) (β : Type) (k : FT sh → List TOb → Option β) : Option β := toK sh T [] (Option β) fun fr => execT sc cf dst op fr s fun fr s => ofK sh fr (Option β) fun T _ => k T s
theorem fbk_eq {sh : Sh} {sc : Sc} {cf : Cfg} {dst : Option Tmp} {op : Op} {T : FT sh} {s : List TOb} {β : Type} {k : FT sh → List TOb → Option β} {K : List TV → List TOb → Option β} (hk : ∀ T s, k T s = K (toL sh T) s) : fbk sh sc cf dst op T s β k = execT sc cf dst op (toL sh T) s K := by
  unfold fbk
  rw [toK_eq, List.append_nil]
  refine execT_congr fun fr' s' e => ?_
  rw [ofK_eq, hk, toL_ofL _ _ (by rw [e, toL_length])]

end
end Go.Proofs.YtmacghaihlfcpaaGreat.Abs
