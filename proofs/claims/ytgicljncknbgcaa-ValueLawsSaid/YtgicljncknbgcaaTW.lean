/- Small words for what the printer prints; entries that tell nothing; entries that are chosen by what they are handed. -/
import Derived.Test.YtgicljncknbgcaaTU
namespace Go.Proofs.Ytgicljncknbgcaa.Abs
open Go Go.ChangeShapes Go.WideShapes Go.ChangeAt Go.RowKit
set_option linter.unusedVariables false
set_option linter.unusedSimpArgs false

def frm : Nat → List (Nat × TV) → List TV := fun n l => go 0 n l
 where go (i : Nat) : Nat → List (Nat × TV) → List TV
  | 0, _ => []
  | n + 1, [] => .undef :: go (i + 1) n []
  | n + 1, (j, v) :: l => match Nat.beq i j with
    | true => v :: go (i + 1) n l
    | false => .undef :: go (i + 1) n ((j, v) :: l)
def scOf (P : Program) (h : FH) : Sc := ⟨P, h.arrs, h.heads, h.frz, h.wrap, h.rd, h.joins⟩
abbrev ObR (sh : Shape) := ElsO sh.os × Els (pTy sh.rts)
def encX (sh : Shape) (y : ElsO sh.os) (x : Els (pTy sh.ps)) : List TV := encP (fun c => c) (lenO sh.os y) sh.ps x
def encY (sh : Shape) (y : ElsO sh.os) : List TOb := encO (fun c => c) (lenO sh.os y) sh.os y
/-- if there is a round left -/
def at1 {β : Type} : Nat → Option β → Option β
  | 0, _ => none
  | _ + 1, x => x
theorem at1_pos {β : Type} {N : Nat} (h : 0 < N) (x : Option β) : at1 N x = x := by
  cases N with
  | zero => exact absurd h (by omega)
  | succ n => rfl
theorem jmp_at {β : Type} {R : List TV → List TOb → Option β} {x : Option β} {fr : List TV} {s : List TOb} (h : R fr s = x) (N : Nat) : jmp N R fr s = at1 N x := by
  cases N with
  | zero => rfl
  | succ n => exact h
/-- a place where ways meet, as it is told -/
def rawJ {β : Type} (D : DrawT) (sc : Sc) (cf : Cfg) (c : Code) (k : Exit → List TV → List TOb → Option β) : List TV → List TOb → Option β := regC D sc cf c k
def noEnt : Ent := fun _ _ _ _ => none
theorem noEnt_sound {P : Program} {f : FuncId} : EntSound P f noEnt := fun β args s k b h => by cases h
theorem specEnt_none {P : Program} {f : FuncId} {pts rts : List Ty} : EntSound P f (specEnt pts rts fun _ => none) := fun β args s k b h => by
  unfold specEnt at h
  split at h <;> cases h
theorem patEnt_none {P : Program} {f : FuncId} {ps : List PK} {rts : List Ty} : EntSound P f (patEnt ps rts fun _ => none) := fun β args s k b h => by
  unfold patEnt at h
  obtain ⟨_, h⟩ := cond_some h
  obtain ⟨x, h1, _⟩ := decP_spec (σ := fun t => t) (l := []) (fun t x hx => by cases hx) ps args _ h
  cases h1
theorem objEnt_none {P : Program} {f : FuncId} {sh : Shape} : EntSound P f (objEnt sh fun _ _ => none) := fun β args s k b h => by
  unfold objEnt at h
  split at h
  case h_1 => cases h
  obtain ⟨_, h⟩ := cond_some h
  obtain ⟨x, h1, _⟩ := decP_spec (sigOf_ok _ 0) sh.ps args _ h
  have none_dec : ∀ (os : List OT) (is : List Nat) (π : List Nat) (l : List (Nat × Nat)) (k : ElsO os → Option β), (∀ y, k y = none) → decO π s l os is k = none := by
    intro os
    induction os with
    | nil =>
      intro is π l k hk
      cases is with
      | nil => exact hk ()
      | cons => rfl
    | cons o os ih =>
      intro is π l k hk
      cases is with
      | nil => cases o <;> simp [decO]
      | cons i is =>
        cases o with
        | cells ks t =>
          simp only [decO]
          split
          · rename_i cs t' live hs
            cases hh : (live && Nat.beq t t') with
            | false => rfl
            | true =>
              show decP π s l ks cs _ = none
              cases hd : decP π s l ks cs fun x => decO π s l os is fun y => k (x, y) with
              | none => rfl
              | some b2 =>
                obtain ⟨x2, h2, _⟩ := decP_spec (sigOf_ok _ 0) ks cs _ hd
                have h3 := ih is π l (fun y => k (x2, y)) fun y => hk _
                rw [h3] at h2
                cases h2
          · rfl
        | tarr ty t =>
          simp only [decO]
          split
          · rename_i ty' xs t' live hs
            cases hh : (live && Nat.beq t t') with
            | false => rfl
            | true =>
              show (match castTo ty xs with | some x => _ | none => none) = none
              split
              · rename_i x hx; exact ih is π l (fun y => k (x, y)) fun y => hk _
              · rfl
          · rfl
  rw [none_dec sh.os _ _ _ _ fun y => rfl] at h1
  cases h1
mutual
/-- how what is handed looks -/
def skey : TV → List Nat
  | .func f cs => (match f with | .func g => g + 10 | _ => 5) :: skeys cs
  | .ref _ _ => [1]
  | .arr _ _ => [2]
  | .ep cs _ => 3 :: skeys cs
  | .nilp => [4]
  | _ => [0]
def skeys : List TV → List Nat
  | [] => []
  | a :: as => skey a ++ skeys as
end
def eqNs : List Nat → List Nat → Bool
  | [], [] => true
  | a :: as, b :: bs => match Nat.beq a b with
    | true => eqNs as bs
    | false => false
  | _, _ => false
def sel (key : List Nat) (E F : Ent) : Ent := fun β args s k => match eqNs (skeys args) key with
  | true => E β args s k
  | false => F β args s k
theorem sel_sound {P : Program} {f : FuncId} {key : List Nat} {E F : Ent} (h1 : EntSound P f E) (h2 : EntSound P f F) : EntSound P f (sel key E F) := fun β args s k b h => by
  unfold sel at h
  split at h
  · exact h1 β args s k b h
  · exact h2 β args s k b h
end Go.Proofs.Ytgicljncknbgcaa.Abs
