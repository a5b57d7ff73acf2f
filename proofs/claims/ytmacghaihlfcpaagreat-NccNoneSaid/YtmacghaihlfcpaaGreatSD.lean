/- What is reckoned with regions that are looked at state by state. -/
import Derived.Test.YtmacghaihlfcpaaGreatSZ
namespace Go.Proofs.YtmacghaihlfcpaaGreat.Abs
noncomputable section
open Go Go.ChangeShapes Go.WideShapes Go.ChangeAt Go.RowKit
set_option linter.unusedVariables false
set_option linter.unusedSimpArgs false

def drawSF (p q : Nat) : DrawF := fun sh sc cf id A T s β k => toK sh T [] (Option β) fun fr => drawS (exS sc cf p q) sc.P A fr s β fun fr s => @Bool.rec (fun _ => Option β) none (ofK sh fr (Option β) fun T _ => k T s) (Nat.beq (lenC TV fr) sh.size)
theorem drawSF_sound (p q : Nat) : DrawFSound (drawSF p q) := by
  intro sh sc cf id A T s β k b hC h
  unfold drawSF at h
  rw [toK_eq, List.append_nil] at h
  obtain ⟨F, S, h1, h2⟩ := drawS_some (id := id) (exS_ok hC p q) h
  rw [lenC_eq] at h1
  cases hl : Nat.beq F.length sh.size with
  | false => rw [hl] at h1; cases h1
  | true =>
    rw [hl] at h1
    dsimp only at h1
    rw [ofK_eq] at h1
    refine ⟨_, S, h1, ?_⟩
    rw [toL_ofL sh F (Nat.eq_of_beq_eq_true hl)]
    exact h2
/-- a head from 1000000 on: state by state; the operations p and q, of which the later one lays its object below -/
def DRs (W : List Nat) : DrawF := fun sh sc cf id A T s β k => @Option.rec HDat (fun _ => Option β) none (fun hd => @Bool.rec (fun _ => Option β) (drawSF ((hd.n - 1000000) / 1000) ((hd.n - 1000000) % 1000) sh sc cf id A T s β k) (DRf W sh sc cf id A T s β k) (Nat.blt hd.n 1000000)) (lookN sc.heads id)
theorem DRs_sound (W : List Nat) : DrawFSound (DRs W) := by
  intro sh sc cf id A T s β k b hC h
  unfold DRs at h
  cases hl : lookN sc.heads id with
  | none => rw [hl] at h; cases h
  | some hd =>
    rw [hl] at h
    dsimp only at h
    cases hs : Nat.blt hd.n 1000000 with
    | false => rw [hs] at h; exact drawSF_sound _ _ sh sc cf id A T s β k b hC h
    | true => rw [hs] at h; exact DRf_sound W sh sc cf id A T s β k b hC h
def runFn6 (W : List Nat) (P : Program) (T : List (Nat × FD)) (X : FuncId → Option Ent) (N d : Nat) (f : FuncId) (pts rts : List Ty) (x : Els pts) : Option (RT rts) := callAllF (DRs W) P T X N d f (RT rts) (encA pts x) [] (kPure rts)
theorem runFn6_sound {W : List Nat} {P : Program} {T : List (Nat × FD)} {X : FuncId → Option Ent} (hX : XSound P X) {N d : Nat} {f : FuncId} {pts rts : List Ty} (hen : enters P f = true) : EntSound P f (specEnt pts rts (runFn6 W P T X N d f pts rts)) := by
  intro β args s k b h
  unfold specEnt at h
  split at h
  case h_2 => cases h
  rename_i x hx
  split at h
  case h_2 => cases h
  rename_i r hr
  refine ⟨hen, encR rts r, s, ?_, h⟩
  obtain ⟨_, r0, s', h1, h2⟩ := callAllF_sound (T := T) (N := N) (DRs_sound W) hX d f (RT rts) (encA pts x) [] (kPure rts) r hr
  unfold kPure at h2
  split at h2
  case h_2 => cases h2
  have h3 := h1.weaken (decR_spec h2) (encR_mark rts r)
  exact (Ok_everywhere h3 (encA_free pts x) (encR_free rts r) (encR_mark rts r) _).args (decA_spec hx)
theorem told6 {W : List Nat} {P : Program} {T : List (Nat × FD)} {X : FuncId → Option Ent} (hX : XSound P X) {N d : Nat} {f : FuncId} {pts rts : List Ty} (hen : enters P f = true) {x0 : Els pts} {r0 : RT rts} (h : runFn6 W P T X N d f pts rts x0 = some r0) : EntSound P f (specEnt pts rts (toldAt pts rts x0 r0)) := by
  intro β args s k b h2
  refine runFn6_sound (W := W) (T := T) (N := N) (d := d) (pts := pts) (rts := rts) hX hen β args s k b ?_
  unfold specEnt at h2 ⊢
  split at h2
  case h_2 => cases h2
  rename_i x hx
  unfold toldAt at h2
  split at h2
  case h_2 => cases h2
  rename_i r hr
  obtain ⟨h3, h4⟩ := cond_some hr
  cases h4
  rw [eqEs_eq pts x x0 h3, h]
  exact h2
theorem toldL_cons6 {W : List Nat} {P : Program} {T : List (Nat × FD)} {X : FuncId → Option Ent} (hX : XSound P X) {N d : Nat} {f : FuncId} {pts rts : List Ty} (hen : enters P f = true) {x0 : Els pts} {r0 : RT rts} {l : List (Els pts × RT rts)} (h : runFn6 W P T X N d f pts rts x0 = some r0)
    (hl : EntSound P f (specEnt pts rts (toldL pts rts l))) : EntSound P f (specEnt pts rts (toldL pts rts ((x0, r0) :: l))) := by
  intro β args s k b h2
  have e : ∀ x, toldL pts rts ((x0, r0) :: l) x = cond (eqEs pts x x0) (some r0) (toldL pts rts l x) := fun _ => rfl
  unfold specEnt at h2
  split at h2
  case h_2 => cases h2
  rename_i x hx
  rw [e] at h2
  cases hb : eqEs pts x x0 with
  | true =>
    refine told6 (W := W) (T := T) (N := N) (d := d) hX hen h β args s k b ?_
    unfold specEnt
    rw [hx]
    dsimp only
    unfold toldAt
    rw [hb] at h2 ⊢
    exact h2
  | false =>
    rw [hb] at h2
    refine hl β args s k b ?_
    unfold specEnt
    rw [hx]
    exact h2
end
end Go.Proofs.YtmacghaihlfcpaaGreat.Abs
