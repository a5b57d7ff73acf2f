/- A program's functions, run as they stand: nothing is printed of them but which rows are made to be written, and where regions begin whose order is open. -/
import Derived.Test.YtmacghaihlfcpaaGreatLB
namespace Go.Proofs.YtmacghaihlfcpaaGreat.Abs
noncomputable section
open Go Go.ChangeShapes Go.WideShapes Go.ChangeAt Go.RowKit
set_option linter.unusedVariables false
set_option linter.unusedSimpArgs false

/-- what an operation of a head turns -/
def hasW (W : List Nat) : List Oper → Bool
  | [] => false
  | o :: l => match o.op with
    | .store _ _ _ => true
    | .call c => match c.callee with
      | .builtin .append => true
      | .value (.func f) => match inN f W with
        | true => true
        | false => hasW W l
      | _ => hasW W l
    | _ => hasW W l
def allocW : List Oper → Nat → Nat → List (Nat × TW)
  | [], _, _ => []
  | o :: l, i, r => match o.op with
    | .alloc _ => (i, .alloc r) :: allocW l (i + 1) (r + 1)
    | .box _ _ => (i, .alloc r) :: allocW l (i + 1) (r + 1)
    | _ => allocW l (i + 1) r
def hintW (W : List Nat) (sc : Sc) (cf : Cfg) (A : Array Oper) : List Oper → Nat → Nat → List TV → List TOb → Option (List (Nat × TW))
  | [], _, _, _, _ => some []
  | o :: l, i, r, fr, s => match o.op with
    | .alloc _ => runOps sc cf A [o] fr s fun fr s => match hintW W sc cf A l (i + 1) (r + 1) fr s with
      | some w => some ((i, .alloc r) :: w)
      | none => none
    | .store _ x _ => match tgtOf (tEval fr x) with
      | some idx => runOps sc cf A [o] fr s fun fr s => match hintW W sc cf A l (i + 1) r fr s with
        | some w => some ((i, .store false idx) :: w)
        | none => none
      | none => none
    | .call c => match c.callee with
      | .builtin .append => match c.args.toList with
        | x :: _ => match tmark (tEval fr x) with
          | some t0 => runOps sc cf A [o] fr s fun fr s => match hintW W sc cf A l (i + 1) r fr s with
            | some w => some ((i, .app t0) :: w)
            | none => none
          | none => none
        | [] => none
      | .value (.func f) => match inN f W with
        | true => match c.args.toList with
          | x :: _ => match tEval fr x with
            | .ref idx _ => putK fr o.dst .undef fun fr => match hintW W sc cf A l (i + 1) r fr s with
              | some w => some ((i, .store false idx) :: w)
              | none => none
            | _ => none
          | [] => none
        | false => runOps sc cf A [o] fr s fun fr s => hintW W sc cf A l (i + 1) r fr s
      | _ => runOps sc cf A [o] fr s fun fr s => hintW W sc cf A l (i + 1) r fr s
    | _ => runOps sc cf A [o] fr s fun fr s => hintW W sc cf A l (i + 1) r fr s
def DRg (W : List Nat) : DrawT := fun sc cf β id A fr s k => match lookN sc.heads id with
  | some hd => match hasW W (A.toList.take hd.n) with
    | false => draw3 sc cf { hd with ws := allocW (A.toList.take hd.n) 0 0, K := (allocW (A.toList.take hd.n) 0 0).length } A fr s k
    | true => match hintW W sc cf A (A.toList.take hd.n) 0 0 fr s with
      | some ws => draw3 sc cf { hd with ws := ws, K := (allocW (A.toList.take hd.n) 0 0).length } A fr s k
      | none => none
  | none => none
theorem DRg_sound (W : List Nat) : DrawSound (DRg W) := by
  intro sc cf β id A fr s k b hC h
  unfold DRg at h
  split at h
  · split at h
    · exact draw3_sound hC h
    · split at h
      · exact draw3_sound hC h
      · cases h
  · cases h
/-- of a function: rows that are written; regions whose order is open, and how many operations their heads have; rows that are lists from a region on -/
structure FD where
  arrs : List Nat
  heads : List (Nat × Nat)
  frz : List (Nat × Nat)
def fdOf (T : List (Nat × FD)) (f : FuncId) : FD := match lookN T f with
  | some d => d
  | none => ⟨[], [], []⟩
def noLH : LH := ⟨[], [], []⟩
def fhOf (d : FD) (fn : Func) : FH := ⟨List.replicate 40 noLH, d.arrs, d.heads.map fun p => (p.1, ⟨p.2, fn.ntmps, 0, [], []⟩), d.frz, true, [], []⟩
/-- all calls, so deep -/
def callAll (P : Program) (T : List (Nat × FD)) (W : List Nat) (X : FuncId → Option Ent) (N : Nat) : Nat → CallT
  | 0 => fun _ _ _ _ _ => none
  | d + 1 => fun f β args s k => match X f with
    | some E => E β args s k
    | none => match P.funcs[f]? with
      | some fn => match fn.body with
        | some c => cond (enters P f && args.all fun a => (tmark a).isNone) (callBody (DRg W) P N (callAll P T W X N d) (fhOf (fdOf T f) fn) fn c β args s k) none
        | none => none
      | none => none
def XSound (P : Program) (X : FuncId → Option Ent) : Prop := ∀ f E, X f = some E → EntSound P f E
theorem callAll_sound {P : Program} {T : List (Nat × FD)} {W : List Nat} {X : FuncId → Option Ent} {N : Nat} (hX : XSound P X) : ∀ d, CallSound P (callAll P T W X N d)
  | 0 => fun f β args s k b h => by simp [callAll] at h
  | d + 1 => by
    intro f β args s k b h
    unfold callAll at h
    split at h
    · rename_i E hE
      exact hX f E hE β args s k b h
    · split at h
      case h_2 => cases h
      rename_i fn hf
      split at h
      case h_2 => cases h
      rename_i c hb
      obtain ⟨h1, h2⟩ := cond_some h
      rw [Bool.and_eq_true] at h1
      refine ⟨h1.1, callBody_sound (DRg_sound W) (callAll_sound hX d) hf hb ?_ h2⟩
      intro a ha
      simpa using List.all_eq_true.1 h1.2 a ha
/-- a function of plain values, run as it stands -/
def runFn (P : Program) (T : List (Nat × FD)) (W : List Nat) (X : FuncId → Option Ent) (N d : Nat) (f : FuncId) (pts rts : List Ty) (x : Els pts) : Option (RT rts) := callAll P T W X N d f (RT rts) (encA pts x) [] (kPure rts)
theorem runFn_sound {P : Program} {T : List (Nat × FD)} {W : List Nat} {X : FuncId → Option Ent} (hX : XSound P X) {N d : Nat} {f : FuncId} {pts rts : List Ty} (hen : enters P f = true) : EntSound P f (specEnt pts rts (runFn P T W X N d f pts rts)) := by
  intro β args s k b h
  unfold specEnt at h
  split at h
  case h_2 => cases h
  rename_i x hx
  split at h
  case h_2 => cases h
  rename_i r hr
  refine ⟨hen, encR rts r, s, ?_, h⟩
  obtain ⟨_, r0, s', h1, h2⟩ := callAll_sound (T := T) (W := W) (N := N) hX d f (RT rts) (encA pts x) [] (kPure rts) r hr
  unfold kPure at h2
  split at h2
  case h_2 => cases h2
  have h3 := h1.weaken (decR_spec h2) (encR_mark rts r)
  exact (Ok_everywhere h3 (encA_free pts x) (encR_free rts r) (encR_mark rts r) _).args (decA_spec hx)

/-! what was reckoned once -/
def eqStr : List UInt8 → List UInt8 → Bool
  | [], [] => true
  | a :: l, b :: m => Nat.beq a.toNat b.toNat && eqStr l m
  | _, _ => false
def eqXs {α : Type} (f : α → α → Bool) : List α → List α → Bool
  | [], [] => true
  | a :: l, b :: m => f a b && eqXs f l m
  | _, _ => false
def eqI : Int → Int → Bool
  | .ofNat a, .ofNat b => Nat.beq a b
  | .negSucc a, .negSucc b => Nat.beq a b
  | _, _ => false
def eqB : Bool → Bool → Bool
  | true, true => true
  | false, false => true
  | _, _ => false
mutual
def eqE : (t : Ty) → El t → El t → Bool
  | .int _, a, b => eqI a b
  | .bool, a, b => eqB a b
  | .str, a, b => eqStr a b
  | .list e, a, b => eqXs (fun x y => eqE e x y) a b
  | .st fs, a, b => eqEs fs a b
def eqEs : (ts : List Ty) → Els ts → Els ts → Bool
  | [], _, _ => true
  | t :: ts, a, b => eqE t a.1 b.1 && eqEs ts a.2 b.2
end
theorem eqStr_eq : ∀ {a b : List UInt8}, eqStr a b = true → a = b
  | [], [], _ => rfl
  | a :: l, b :: m, h => by
    simp only [eqStr, Bool.and_eq_true] at h
    rw [eqStr_eq h.2, UInt8.toNat_inj.1 (Nat.eq_of_beq_eq_true h.1)]
  | [], _ :: _, h => by simp [eqStr] at h
  | _ :: _, [], h => by simp [eqStr] at h
theorem eqI_eq : ∀ {a b : Int}, eqI a b = true → a = b
  | .ofNat a, .ofNat b, h => by rw [Nat.eq_of_beq_eq_true h]
  | .negSucc a, .negSucc b, h => by rw [Nat.eq_of_beq_eq_true h]
  | .ofNat _, .negSucc _, h => by cases h
  | .negSucc _, .ofNat _, h => by cases h
theorem eqB_eq : ∀ {a b : Bool}, eqB a b = true → a = b
  | true, true, _ => rfl
  | false, false, _ => rfl
  | true, false, h => by cases h
  | false, true, h => by cases h
theorem eqXs_eq {α : Type} {f : α → α → Bool} (hf : ∀ a b, f a b = true → a = b) : ∀ {a b : List α}, eqXs f a b = true → a = b
  | [], [], _ => rfl
  | a :: l, b :: m, h => by
    simp only [eqXs, Bool.and_eq_true] at h
    rw [eqXs_eq hf h.2, hf _ _ h.1]
  | [], _ :: _, h => by simp [eqXs] at h
  | _ :: _, [], h => by simp [eqXs] at h
mutual
theorem eqE_eq : ∀ (t : Ty) (a b : El t), eqE t a b = true → a = b
  | .int _, a, b, h => by rw [eqE] at h; exact eqI_eq h
  | .bool, a, b, h => by rw [eqE] at h; exact eqB_eq h
  | .str, a, b, h => by rw [eqE] at h; exact eqStr_eq h
  | .list e, a, b, h => by rw [eqE] at h; exact eqXs_eq (fun x y => eqE_eq e x y) h
  | .st fs, a, b, h => by rw [eqE] at h; exact eqEs_eq fs a b h
theorem eqEs_eq : ∀ (ts : List Ty) (a b : Els ts), eqEs ts a b = true → a = b
  | [], _, _, _ => rfl
  | t :: ts, a, b, h => by
    rw [eqEs, Bool.and_eq_true] at h
    exact Prod.ext (eqE_eq t _ _ h.1) (eqEs_eq ts _ _ h.2)
end
/-- the function at this argument -/
def toldAt (pts rts : List Ty) (x0 : Els pts) (r0 : RT rts) (x : Els pts) : Option (RT rts) := cond (eqEs pts x x0) (some r0) none
theorem told_sound {P : Program} {T : List (Nat × FD)} {W : List Nat} {X : FuncId → Option Ent} (hX : XSound P X) {N d : Nat} {f : FuncId} {pts rts : List Ty} (hen : enters P f = true) {x0 : Els pts} {r0 : RT rts} (h : runFn P T W X N d f pts rts x0 = some r0) : EntSound P f (specEnt pts rts (toldAt pts rts x0 r0)) := by
  intro β args s k b h2
  refine runFn_sound (T := T) (W := W) (N := N) (d := d) (pts := pts) (rts := rts) hX hen β args s k b ?_
  unfold specEnt at h2 ⊢
  split at h2
  case h_2 => cases h2
  rename_i x hx
  unfold toldAt at h2
  split at h2
  case h_2 => cases h2
  rename_i r hr
  obtain ⟨h3, h4⟩ := cond_some hr
  cases h4
  rw [eqEs_eq pts x x0 h3, h]
  exact h2
/-- a table of them -/
def tabX : List (FuncId × Ent) → FuncId → Option Ent
  | [], _ => none
  | (g, E) :: l, f => match Nat.beq g f with
    | true => some E
    | false => tabX l f
theorem tabX_nil (P : Program) : XSound P (tabX []) := fun f E h => by simp [tabX] at h
theorem tabX_cons {P : Program} {g : FuncId} {E : Ent} {l : List (FuncId × Ent)} (h : EntSound P g E) (hl : XSound P (tabX l)) : XSound P (tabX ((g, E) :: l)) := fun f E' h2 => by
  simp only [tabX] at h2
  split at h2
  · rename_i hb
    cases h2
    rw [← Nat.eq_of_beq_eq_true hb]
    exact h
  · exact hl f E' h2
end
end Go.Proofs.YtmacghaihlfcpaaGreat.Abs
