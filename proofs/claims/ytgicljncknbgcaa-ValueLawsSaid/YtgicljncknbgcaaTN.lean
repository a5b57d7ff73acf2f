/- Functions told by name: how what they tell is used. -/
import Derived.Test.YtgicljncknbgcaaTM
namespace Go.Proofs.Ytgicljncknbgcaa.Abs
open Go Go.ChangeShapes Go.WideShapes Go.ChangeAt Go.RowKit
set_option linter.unusedVariables false
set_option linter.unusedSimpArgs false

abbrev Ent := (β : Type) → List TV → List TOb → (TV → List TOb → Option β) → Option β
def EntSound (P : Program) (f : FuncId) (E : Ent) : Prop := ∀ (β : Type) (args : List TV) (s : List TOb) (k : TV → List TOb → Option β) (b : β), E β args s k = some b →
  enters P f = true ∧ ∃ r s', Ok P f (dns args) (dnS s) (dn r) (dnS s') ∧ k r s' = some b
def tab : List (FuncId × Ent) → CallT
  | [], _, _, _, _, _ => none
  | (g, E) :: l, f, β, args, s, k => if f = g then E β args s k else tab l f β args s k
theorem tab_nil (P : Program) : CallSound P (tab []) := fun f β args s k b h => by simp [tab] at h
theorem tab_cons {P : Program} {g : FuncId} {E : Ent} {l : List (FuncId × Ent)} (h1 : EntSound P g E) (h2 : CallSound P (tab l)) : CallSound P (tab ((g, E) :: l)) := by
  intro f β args s k b h
  simp only [tab] at h
  split at h
  · rename_i hf; subst hf; exact h1 β args s k b h
  · exact h2 f β args s k b h
/-- a function that is walked where it is called -/
def inlEnt (P : Program) (N : Nat) (C : CallT) (fh : FH) (fn : Func) (c : Code) : Ent := fun β args s k =>
  cond (args.all fun a => (tmark a).isNone) (callBody DR P N C fh fn c β args s k) none
theorem inlEnt_sound {P : Program} {N : Nat} {C : CallT} {fh : FH} {f : FuncId} {fn : Func} {c : Code} (hC : CallSound P C) (hf : P.funcs[f]? = some fn) (hb : fn.body = some c) (hen : enters P f = true) : EntSound P f (inlEnt P N C fh fn c) := by
  intro β args s k b h
  obtain ⟨h1, h2⟩ := cond_some h
  refine ⟨hen, callBody_sound DR_sound hC hf hb ?_ h2⟩
  intro a ha
  have := List.all_eq_true.1 h1 a ha
  simpa using this
/-- where a function that is told by name ends -/
def kPure (rts : List Ty) (r : TV) (s : List TOb) : Option (RT rts) := match s with
  | [] => decR rts r
  | _ => none
def specEnt (pts rts : List Ty) (m : Els pts → Option (RT rts)) : Ent := fun β args s k => match decA pts args with
  | some x => match m x with
    | some r => k (encR rts r) s
    | none => none
  | none => none
theorem decA_spec : ∀ {ts : List Ty} {vs : List TV} {x : Els ts}, decA ts vs = some x → Wks (dns vs) (dns (encA ts x))
  | [], [], x, h => .nil
  | [], _ :: _, x, h => by simp [decA] at h
  | _ :: _, [], x, h => by simp [decA] at h
  | t :: ts, v :: vs, x, h => by
    simp only [decA] at h
    split at h
    · rename_i y hy
      split at h
      · rename_i ys hys
        cases h
        exact .cons (decV_spec hy) (decA_spec hys)
      · cases h
    · cases h
theorem decR_spec : ∀ {ts : List Ty} {v : TV} {x : RT ts}, decR ts v = some x → Wk (dn v) (dn (encR ts x))
  | [t], v, x, h => decV_spec h
  | [], v, x, h => by
    unfold decR at h
    cases v <;> try (cases h; done)
    rename_i vs
    cases vs with
    | nil => exact .refl _
    | cons => cases h
  | t :: u :: ts, v, x, h => by
    cases v <;> try (cases h; done)
    rename_i vs
    exact .tuple (decA_spec (ts := t :: u :: ts) (x := x) h)
theorem tval_mark (t : Ty) (x : El t) : tmark (tval t x) = none := by cases t <;> rfl
theorem encA_mark : ∀ (ts : List Ty) (x : Els ts), ∀ a ∈ encA ts x, tmark a = none
  | [], _, a, h => by simp [encA] at h
  | t :: ts, x, a, h => by
    simp only [encA, List.mem_cons] at h
    rcases h with rfl | h
    · exact tval_mark t x.1
    · exact encA_mark ts x.2 a h
theorem tval_free : ∀ (t : Ty) (x : El t), (dn (tval t x)).free = true
  | .int _, _ => rfl
  | .bool, _ => rfl
  | .str, _ => rfl
  | .list e, xs => flat_free xs
  | .st fs, x => by
    have e : dns (tcellss fs x) = cellsOfs fs x := dns_tcellss fs x
    have h : frees (cellsOfs fs x) = true := frees_all fun a h => cellsOfs_free fs x a h
    exact (congrArg frees e).trans h
theorem encA_free : ∀ (ts : List Ty) (x : Els ts), frees (dns (encA ts x)) = true
  | [], _ => rfl
  | t :: ts, x => by simp only [encA, dns, frees, tval_free t x.1, encA_free ts x.2, Bool.and_self]
theorem encR_free : ∀ (ts : List Ty) (x : RT ts), (dn (encR ts x)).free = true
  | [t], x => tval_free t x
  | [], _ => rfl
  | t :: u :: ts, x => by simp only [encR, dn, AV.free]; exact encA_free (t :: u :: ts) x
theorem Ok_everywhere {P : Program} {f : FuncId} {args : List AV} {r : AV} (h : Ok P f args [] r []) (ha : frees args = true) (hr : r.free = true) (S : List Ob) : Ok P f args S r S := by
  intro M G w cargs hS hargs
  refine (OkP_at h ha hr hS.toS hargs).mono ?_
  rintro e w' ⟨v, G', h1, h2, h3, h4⟩
  exact ⟨v, G', h1, h2, h3, h4.mono fun _ _ => False.elim⟩
theorem Ok.args {P : Program} {f : FuncId} {args args' : List AV} {s s' : List Ob} {r : AV} (h : Ok P f args' s r s') (hw : Wks args args') : Ok P f args s r s' :=
  fun M G w cargs hS hargs => h M G w cargs hS (hw.VRs0 hargs)
theorem specEnt_sound {P : Program} {N : Nat} {C : CallT} {fh : FH} {f : FuncId} {fn : Func} {c : Code} {pts rts : List Ty} {m : Els pts → Option (RT rts)} (hC : CallSound P C) (hf : P.funcs[f]? = some fn) (hb : fn.body = some c) (hen : enters P f = true)
    (hm : ∀ x, callBody DR P N C fh fn c (RT rts) (encA pts x) [] (kPure rts) = m x) : EntSound P f (specEnt pts rts m) := by
  intro β args s k b h
  unfold specEnt at h
  split at h
  case h_2 => cases h
  rename_i x hx
  split at h
  case h_2 => cases h
  rename_i r hr
  refine ⟨hen, encR rts r, s, ?_, h⟩
  obtain ⟨r0, s', h1, h2⟩ := callBody_sound (b := r) DR_sound hC hf hb (encA_mark pts x) ((hm x).trans hr)
  unfold kPure at h2
  split at h2
  case h_2 => cases h2
  have h3 := h1.weaken (decR_spec h2)
  exact (Ok_everywhere h3 (encA_free pts x) (encR_free rts r) _).args (decA_spec hx)
/-! small words -/
def bodyOf (fn : Func) : Code := match fn.body with | some c => c | none => .skip
def inR (i : Int) (n : Nat) : Bool := decide (0 ≤ i ∧ i < n)
def upTo (i : Int) (n : Nat) : Bool := decide (0 ≤ i ∧ i ≤ (n : Int))
def inB (a b : Int) (n : Nat) : Bool := decide (0 ≤ a ∧ a ≤ b ∧ b ≤ (n : Int))
def nthD {α : Type} (xs : List α) (i : Int) (d : α) : α := xs.getD i.toNat d
def setD {α : Type} (xs : List α) (i : Int) (x : α) : List α := xs.set i.toNat x
def byteAt (l : List UInt8) (i : Int) : Int := ((l.getD i.toNat 0).toNat : Int)
end Go.Proofs.Ytgicljncknbgcaa.Abs
