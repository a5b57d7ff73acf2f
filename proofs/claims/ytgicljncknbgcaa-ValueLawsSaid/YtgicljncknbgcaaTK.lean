/- Continuations and loops by name; results by their types. -/
import Derived.Test.YtgicljncknbgcaaTJ
import Derived.KernelRfl
namespace Go.Proofs.Ytgicljncknbgcaa.Abs
open Go Go.ChangeShapes Go.WideShapes Go.ChangeAt Go.RowKit
set_option linter.unusedVariables false
set_option linter.unusedSimpArgs false

def kSeq {β : Type} (D : DrawT) (sc : Sc) (cf : Cfg) (b : Code) (hs : List LH) (k : Exit → List TV → List TOb → Option β) : Exit → List TV → List TOb → Option β := fun e fr s => match e with
  | .normal => run D sc cf b hs fr s k
  | e => k e fr s
def kBlk {β : Type} (id : Nat) (k : Exit → List TV → List TOb → Option β) : Exit → List TV → List TOb → Option β := fun e fr s => match e with
  | .exit i => if i = id then k .normal fr s else k (.exit i) fr s
  | e => k e fr s
def rawL {β : Type} (D : DrawT) (sc : Sc) (cf : Cfg) (c : Code) (h : LH) (hs : List LH) (k : Exit → List TV → List TOb → Option β) (K : List TV → List TOb → Option β) (fr : List TV) (s : List TOb) : Option β :=
  run D sc cf c hs fr s fun e fr s => match e with
      | .normal => canon cf.n0 h fr s fun fr s => K fr s
      | e => k e fr s
def kLoop {β : Type} (cf : Cfg) (h : LH) (k : Exit → List TV → List TOb → Option β) (K : List TV → List TOb → Option β) : Exit → List TV → List TOb → Option β := fun e fr s => match e with
  | .normal => canon cf.n0 h fr s fun fr s => K fr s
  | e => k e fr s
def seqL : Code → Code | .seq a _ => a | _ => .skip
def seqR : Code → Code | .seq _ b => b | _ => .skip
def conL : Code → Code | .cond _ a _ => a | _ => .skip
def conR : Code → Code | .cond _ _ b => b | _ => .skip
def blkB : Code → Code | .block _ c => c | _ => .skip
def lopB : Code → Code | .loop c => c | _ => .skip
def iter {α β : Type} (body : (α → Option β) → α → Option β) : Nat → α → Option β
  | 0, _ => none
  | n + 1, a => body (iter body n) a
theorem loop_iter {α β : Type} {body : (List TV → List TOb → Option β) → List TV → List TOb → Option β} {nb : (α → Option β) → α → Option β} (E : α → List TV) (S : α → List TOb)
    (H : ∀ K a, body K (E a) (S a) = nb (fun a' => K (E a') (S a')) a) : ∀ n a, iterF body n (E a) (S a) = iter nb n a
  | 0, a => rfl
  | n + 1, a => by
    simp only [iterF, iter]
    rw [H]
    congr 1
    funext a'
    exact loop_iter E S H n a'

/-! arguments and results by their types -/
def decA : (ts : List Ty) → List TV → Option (Els ts)
  | [], [] => some ()
  | t :: ts, v :: vs => match decV t v with
    | some x => match decA ts vs with
      | some xs => some (x, xs)
      | none => none
    | none => none
  | _, _ => none
def encA : (ts : List Ty) → Els ts → List TV
  | [], _ => []
  | t :: ts, x => tval t x.1 :: encA ts x.2
/-- one value, or many -/
def RT : List Ty → Type
  | [t] => El t
  | ts => Els ts
def decR : (ts : List Ty) → TV → Option (RT ts)
  | [t], v => decV t v
  | [], .tup [] => some ()
  | t :: u :: ts, .tup vs => decA (t :: u :: ts) vs
  | _, _ => none
def encR : (ts : List Ty) → RT ts → TV
  | [t], x => tval t x
  | [], _ => .tup []
  | t :: u :: ts, x => .tup (encA (t :: u :: ts) x)
end Go.Proofs.Ytgicljncknbgcaa.Abs
