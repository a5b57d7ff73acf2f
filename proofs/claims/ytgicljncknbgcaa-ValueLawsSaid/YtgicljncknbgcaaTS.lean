/- Functions that are handed objects: what they are told of, how the objects come back. -/
import Derived.Test.YtgicljncknbgcaaTR
namespace Go.Proofs.Ytgicljncknbgcaa.Abs
open Go Go.ChangeShapes Go.WideShapes Go.ChangeAt Go.RowKit
set_option linter.unusedVariables false
set_option linter.unusedSimpArgs false

/-- what an argument, a cell, a result may be: a value of a code; an object; a row that is an object; a function with what it has captured (the next n); nil; a row that may be appended to -/
inductive PK where
  | val (t : Ty)
  | ref (c : Nat)
  | arr (c : Nat)
  | fn (f : FuncId) (n : Nat)
  | nilp
  | own (t : Ty) (m : Nat) (e : TypeId) (z : Nat)
  | ep (n : Nat)
def pTy : List PK → List Ty
  | [] => []
  | .val t :: ps => t :: pTy ps
  | .own t _ _ _ :: ps => .list t :: pTy ps
  | .ref _ :: ps => pTy ps
  | .arr _ :: ps => pTy ps
  | .fn _ _ :: ps => pTy ps
  | .nilp :: ps => pTy ps
  | .ep _ :: ps => pTy ps
def encP (ρ : Nat → Nat) (len : Nat → Nat) : (ps : List PK) → Els (pTy ps) → List TV
  | [], _ => []
  | .val t :: ps, x => tval t x.1 :: encP ρ len ps x.2
  | .own t m e z :: ps, x => .tl t x.1 (.own m e z) :: encP ρ len ps x.2
  | .ref c :: ps, x => .ref (ρ c) 0 :: encP ρ len ps x
  | .arr c :: ps, x => .arr (ρ c) (len c) :: encP ρ len ps x
  | .fn f n :: ps, x => .func (.func f) ((encP ρ len ps x).take n) :: (encP ρ len ps x).drop n
  | .nilp :: ps, x => .nilp :: encP ρ len ps x
  | .ep n :: ps, x => .ep ((encP ρ len ps x).take n) 0 :: (encP ρ len ps x).drop n
def lookN2 : List (Nat × Nat) → Nat → Option Nat
  | [], _ => none
  | (a, x) :: l, t => bif Nat.beq t a then some x else lookN2 l t
def ownOK (l : List (Nat × Nat)) (m : Nat) (v : TV) : Bool := match tmark v with
  | none => true
  | some t => match lookN2 l t with
    | some x => Nat.beq x m
    | none => false
def unm (l : List TV) : Bool := l.all fun a => (tmark a).isNone
def decP {β : Type} (π : List Nat) (s : List TOb) (l : List (Nat × Nat)) : (ps : List PK) → List TV → (Els (pTy ps) → Option β) → Option β
  | [], [], k => k ()
  | .val t :: ps, v :: vs, k => match decV t v with
    | some x => decP π s l ps vs fun xs => k (x, xs)
    | none => none
  | .own t m e z :: ps, v :: vs, k => match tOwned t e z m v with
    | some (xs, _) => cond (Nat.beq z t.size && ownOK l m v) (decP π s l ps vs fun ys => k (xs, ys)) none
    | none => none
  | .ref c :: ps, .ref i o :: vs, k => match π[c]? with
    | some j => cond (Nat.beq j i && Nat.beq o 0) (decP π s l ps vs k) none
    | none => none
  | .arr c :: ps, .arr i n :: vs, k => match π[c]? with
    | some j => match s[i]? with
      | some (.tarr _ xs _ _) => cond (Nat.beq j i) (cond (Nat.beq n xs.length) (decP π s l ps vs k) none) none
      | _ => none
    | none => none
  | .fn f n :: ps, .func (.func g) cs :: vs, k => cond (Nat.beq f g && Nat.beq n cs.length && unm cs) (decP π s l ps (cs ++ vs) k) none
  | .nilp :: ps, .nilp :: vs, k => decP π s l ps vs k
  | .ep n :: ps, .ep cs o :: vs, k => cond (Nat.beq o 0 && Nat.beq n cs.length && unm cs) (decP π s l ps (cs ++ vs) k) none
  | _, _, _ => none
inductive OT where
  | cells (ks : List PK) (t : TypeId)
  | tarr (ty : Ty) (t : TypeId)
def ElsO : List OT → Type
  | [] => Unit
  | .cells ks _ :: os => Els (pTy ks) × ElsO os
  | .tarr ty _ :: os => List (El ty) × ElsO os
def lenO : (os : List OT) → ElsO os → Nat → Nat
  | [], _, _ => 0
  | .cells _ _ :: os, x, 0 => 0
  | .tarr _ _ :: os, x, 0 => List.length x.1
  | .cells _ _ :: os, x, c + 1 => lenO os x.2 c
  | .tarr _ _ :: os, x, c + 1 => lenO os x.2 c
def encO (ρ : Nat → Nat) (len : Nat → Nat) : (os : List OT) → ElsO os → List TOb
  | [], _ => []
  | .cells ks t :: os, x => .cells (encP ρ len ks x.1) t true :: encO ρ len os x.2
  | .tarr ty t :: os, x => .tarr ty x.1 t true :: encO ρ len os x.2
def decO {β : Type} (π : List Nat) (s : List TOb) (l : List (Nat × Nat)) : (os : List OT) → List Nat → (ElsO os → Option β) → Option β
  | [], [], k => k ()
  | .cells ks t :: os, i :: is, k => match s[i]? with
    | some (.cells cs t' live) => cond (live && Nat.beq t t') (decP π s l ks cs fun x => decO π s l os is fun y => k (x, y)) none
    | _ => none
  | .tarr ty t :: os, i :: is, k => match s[i]? with
    | some (.tarr ty' xs t' live) => cond (live && Nat.beq t t') (match castTo ty xs with
      | some x => decO π s l os is fun y => k (x, y)
      | none => none) none
    | _ => none
  | _, _, _ => none
def marksP : List PK → List TV → List (Nat × Nat)
  | .own _ m _ _ :: ps, v :: vs => match tmark v with
    | some t => (t, m) :: marksP ps vs
    | none => marksP ps vs
  | _ :: ps, _ :: vs => marksP ps vs
  | _, _ => []
def marksOs (s : List TOb) : List OT → List Nat → List (Nat × Nat)
  | .cells ks _ :: os, i :: is => match s[i]? with
    | some (.cells cs _ _) => marksP ks cs ++ marksOs s os is
    | _ => []
  | .tarr _ _ :: os, i :: is => marksOs s os is
  | _, _ => []
inductive Root where
  | arg (j : Nat) (p : List Nat)
  | cell (c k : Nat) (p : List Nat)
def dig : List Nat → TV → TV
  | [], v => v
  | i :: p, .func _ cs => dig p (cs.getD i .undef)
  | _ :: _, _ => .undef
def rootV (args : List TV) (s : List TOb) (acc : List Nat) : Root → TV
  | .arg j p => dig p (args.getD j .undef)
  | .cell c k p => match acc[c]? with
    | some i => match s[i]? with
      | some (.cells cs _ _) => dig p (cs.getD k .undef)
      | _ => .undef
    | none => .undef
def findPi (args : List TV) (s : List TOb) : List Root → List Nat → Option (List Nat)
  | [], acc => some acc
  | r :: rs, acc => match rootV args s acc r with
    | .ref i _ => findPi args s rs (acc ++ [i])
    | .arr i _ => findPi args s rs (acc ++ [i])
    | _ => none
def memN (x : Nat) : List Nat → Bool
  | [] => false
  | y :: l => Nat.beq x y || memN x l
def nodupN : List Nat → Bool
  | [] => true
  | x :: l => !memN x l && nodupN l
/-- the others' marks are others -/
def othOK (π : List Nat) (Ts : List Nat) : Nat → List TOb → Bool
  | _, [] => true
  | i, .cells cs _ live :: s => (memN i π || !live || cs.all fun v => match tmark v with | none => true | some t => !memN t Ts) && othOK π Ts (i + 1) s
  | i, .tarr .. :: s => othOK π Ts (i + 1) s
def setAll : List TOb → List Nat → List TOb → List TOb
  | s, i :: is, o :: os => setAll (s.set i o) is os
  | s, _, _ => s
structure Shape where
  ps : List PK
  os : List OT
  roots : List Root
  rts : List PK
  one : Bool
def piF (π : List Nat) (c : Nat) : Nat := π.getD c 0
def joinR (one : Bool) : List TV → TV
  | l => match one, l with
    | true, [v] => v
    | _, l => .tup l
def splitR {β : Type} (one : Bool) (r : TV) (k : List TV → Option β) : Option β := match one, r with
  | true, v => k [v]
  | false, .tup l => k l
  | false, _ => none
abbrev ObjM (sh : Shape) := ElsO sh.os → Els (pTy sh.ps) → Option (ElsO sh.os × Els (pTy sh.rts))
def objEnt (sh : Shape) (m : ObjM sh) : Ent := fun β args s k => match findPi args s sh.roots [] with
  | none => none
  | some π => cond (unm args && nodupN π && othOK π ((marksOs s sh.os π).map (·.1)) 0 s)
      (decP π s (marksOs s sh.os π) sh.ps args fun x => decO π s (marksOs s sh.os π) sh.os π fun y => match m y x with
        | some z => forceS (setAll s π (encO (piF π) (lenO sh.os z.1) sh.os z.1)) fun s' => forceV (joinR sh.one (encP (piF π) (lenO sh.os z.1) sh.rts z.2)) fun r => k r s'
        | none => none) none
/-- where such a function ends -/
def kObj (sh : Shape) (r : TV) (s : List TOb) : Option (ElsO sh.os × Els (pTy sh.rts)) :=
  splitR sh.one r fun rl => cond (Nat.beq s.length sh.os.length && unm rl) (decO (List.range sh.os.length) s (marksOs s sh.os (List.range sh.os.length)) sh.os (List.range sh.os.length) fun y =>
    decP (List.range sh.os.length) s (marksOs s sh.os (List.range sh.os.length)) sh.rts rl fun x => some (y, x)) none
/-- pointers below m; marks that are not said twice -/
def pOK (m : Nat) : List PK → Bool
  | [] => true
  | .ref c :: ps => Nat.blt c m && pOK m ps
  | .arr c :: ps => Nat.blt c m && pOK m ps
  | .val _ :: ps => pOK m ps
  | .own _ _ _ _ :: ps => pOK m ps
  | .fn _ _ :: ps => pOK m ps
  | .nilp :: ps => pOK m ps
  | .ep n :: ps => Nat.blt 0 n && !ps.isEmpty && pOK m ps
def noOwn : List PK → Bool
  | [] => true
  | .own _ _ _ _ :: _ => false
  | _ :: ps => noOwn ps
def osOK (m : Nat) : List OT → Bool
  | [] => true
  | .cells ks _ :: os => pOK m ks && osOK m os
  | .tarr _ _ :: os => osOK m os
def shOK (sh : Shape) : Bool := pOK sh.os.length sh.ps && noOwn sh.ps && osOK sh.os.length sh.os && pOK sh.os.length sh.rts && noOwn sh.rts && Nat.beq sh.roots.length sh.os.length

/-! lemmas -/
theorem pis_app (π : Nat → Nat) (a b : List AV) : pis π (a ++ b) = pis π a ++ pis π b := by simp only [pis_map, List.map_append]
theorem pis_take (π : Nat → Nat) (l : List AV) (n : Nat) : pis π (l.take n) = (pis π l).take n := by simp only [pis_map, List.map_take]
theorem pis_drop (π : Nat → Nat) (l : List AV) (n : Nat) : pis π (l.drop n) = (pis π l).drop n := by simp only [pis_map, List.map_drop]
theorem embs_app {m : Nat} : ∀ {a b : List AV}, embs m (a ++ b) = (embs m a && embs m b)
  | [], b => by simp [embs]
  | x :: a, b => by simp only [List.cons_append, embs, embs_app (a := a), Bool.and_assoc]
theorem embs_td {m n : Nat} {l : List AV} (h : embs m l = true) : embs m (l.take n) = true ∧ embs m (l.drop n) = true := by
  rw [← List.take_append_drop n l, embs_app, Bool.and_eq_true] at h
  exact h
mutual
theorem pi_id {m : Nat} {π : Nat → Nat} (hp : ∀ c, c < m → π c = c) : ∀ a : AV, a.emb m = true → a.pi π = a
  | .ref i o, h => by simp only [AV.emb, decide_eq_true_eq] at h; simp only [AV.pi, hp i h]
  | .arr i o, h => by simp only [AV.emb, decide_eq_true_eq] at h; simp only [AV.pi, hp i h]
  | .eptr cs o, h => by simp only [AV.emb, Bool.and_eq_true] at h; simp only [AV.pi, pis_id hp cs h.2]
  | .list cs n g, h => by simp only [AV.emb] at h; simp only [AV.pi, pis_id hp cs h]
  | .func f cs, h => by simp only [AV.emb] at h; simp only [AV.pi, pis_id hp cs h]
  | .agg cs, h => by simp only [AV.emb] at h; simp only [AV.pi, pis_id hp cs h]
  | .tuple cs, h => by simp only [AV.emb] at h; simp only [AV.pi, pis_id hp cs h]
  | .undef, _ => rfl
  | .int .., _ => rfl
  | .bool _, _ => rfl
  | .str _, _ => rfl
  | .nilp, _ => rfl
  | .nilf, _ => rfl
theorem pis_id {m : Nat} {π : Nat → Nat} (hp : ∀ c, c < m → π c = c) : ∀ l : List AV, embs m l = true → pis π l = l
  | [], _ => rfl
  | a :: l, h => by
    simp only [embs, Bool.and_eq_true] at h
    simp only [pis, pi_id hp a h.1, pis_id hp l h.2]
end
mutual
theorem free_emb {m : Nat} : ∀ a : AV, a.free = true → a.emb m = true
  | .ref i o, h => by simp [AV.free] at h
  | .arr i o, h => by simp [AV.free] at h
  | .eptr cs o, h => by simp only [AV.free, Bool.and_eq_true] at h; simp only [AV.emb, h.1, frees_embs cs h.2, Bool.and_self]
  | .list cs n g, h => by simp only [AV.free] at h; simp only [AV.emb, frees_embs cs h]
  | .func f cs, h => by simp only [AV.free] at h; simp only [AV.emb, frees_embs cs h]
  | .agg cs, h => by simp only [AV.free] at h; simp only [AV.emb, frees_embs cs h]
  | .tuple cs, h => by simp only [AV.free] at h; simp only [AV.emb, frees_embs cs h]
  | .undef, _ => rfl
  | .int .., _ => rfl
  | .bool _, _ => rfl
  | .str _, _ => rfl
  | .nilp, _ => rfl
  | .nilf, _ => rfl
theorem frees_embs {m : Nat} : ∀ l : List AV, frees l = true → embs m l = true
  | [], _ => rfl
  | a :: l, h => by
    simp only [frees, Bool.and_eq_true] at h
    simp only [embs, free_emb a h.1, frees_embs l h.2, Bool.and_self]
end
theorem pi_free {π : Nat → Nat} {a : AV} (h : a.free = true) : a.pi π = a := pi_id (m := 0) (fun c hc => by omega) a (free_emb a h)
theorem pis_free {π : Nat → Nat} {l : List AV} (h : frees l = true) : pis π l = l := pis_id (m := 0) (fun c hc => by omega) l (frees_embs l h)
theorem encP_ne (ρ len : Nat → Nat) : ∀ (ps : List PK) (x : Els (pTy ps)), ps.isEmpty = false → encP ρ len ps x ≠ []
  | [], _, h => by simp at h
  | .val _ :: _, _, _ => by simp [encP]
  | .own .. :: _, _, _ => by simp [encP]
  | .ref _ :: _, _, _ => by simp [encP]
  | .arr _ :: _, _, _ => by simp [encP]
  | .fn _ _ :: _, _, _ => by simp [encP]
  | .nilp :: _, _, _ => by simp [encP]
  | .ep _ :: _, _, _ => by simp [encP]
theorem encP_pi (ρ len : Nat → Nat) : ∀ (ps : List PK) (x : Els (pTy ps)), dns (encP ρ len ps x) = pis ρ (dns (encP (fun c => c) len ps x))
  | [], _ => rfl
  | .val t :: ps, x => by
    simp only [encP, dns, pis, encP_pi ρ len ps x.2]
    rw [pi_free (tval_free t x.1)]
  | .own t m e z :: ps, x => by
    have h : (dn (.tl t x.1 (.own m e z))).pi ρ = dn (.tl t x.1 (.own m e z)) := pi_free (by simp only [dn, AV.free]; exact flat_free x.1)
    simp only [encP, dns, pis, encP_pi ρ len ps x.2]
    rw [h]
  | .ref c :: ps, x => by simp only [encP, dns, pis, encP_pi ρ len ps x, dn, AV.pi]
  | .arr c :: ps, x => by simp only [encP, dns, pis, encP_pi ρ len ps x, dn, AV.pi]
  | .fn f n :: ps, x => by
    simp only [encP, dns, pis, dn, AV.pi, dns_take, dns_drop, encP_pi ρ len ps x, pis_take, pis_drop]
  | .nilp :: ps, x => by simp only [encP, dns, pis, encP_pi ρ len ps x, dn, AV.pi]
  | .ep n :: ps, x => by
    simp only [encP, dns, pis, dn, AV.pi, dns_take, dns_drop, encP_pi ρ len ps x, pis_take, pis_drop]
theorem encP_emb {m : Nat} (len : Nat → Nat) : ∀ (ps : List PK) (x : Els (pTy ps)), pOK m ps = true → embs m (dns (encP (fun c => c) len ps x)) = true
  | [], _, _ => rfl
  | .val t :: ps, x, h => by
    simp only [pOK] at h
    simp only [encP, dns, embs, encP_emb len ps x.2 h, Bool.and_true]
    exact free_emb _ (tval_free t x.1)
  | .own t m e z :: ps, x, h => by
    simp only [pOK] at h
    simp only [encP, dns, embs, encP_emb len ps x.2 h, Bool.and_true, dn, AV.emb]
    exact frees_embs _ (flat_free x.1)
  | .ref c :: ps, x, h => by
    simp only [pOK, Bool.and_eq_true, Nat.blt_eq] at h
    simp only [encP, dns, embs, encP_emb len ps x h.2, Bool.and_true, dn, AV.emb, decide_eq_true_eq]
    exact h.1
  | .arr c :: ps, x, h => by
    simp only [pOK, Bool.and_eq_true, Nat.blt_eq] at h
    simp only [encP, dns, embs, encP_emb len ps x h.2, Bool.and_true, dn, AV.emb, decide_eq_true_eq]
    exact h.1
  | .fn f n :: ps, x, h => by
    simp only [pOK] at h
    have h2 := embs_td (n := n) (encP_emb len ps x h)
    simp only [encP, dns, embs, dn, AV.emb, dns_take, dns_drop, h2.1, h2.2, Bool.and_self]
  | .nilp :: ps, x, h => by
    simp only [pOK] at h
    simp only [encP, dns, embs, encP_emb len ps x h, Bool.and_true, dn, AV.emb]
  | .ep n :: ps, x, h => by
    simp only [pOK, Bool.and_eq_true, Nat.blt_eq, Bool.not_eq_true'] at h
    have h2 := embs_td (n := n) (encP_emb len ps x h.2)
    have h3 : (dns (encP (fun c => c) len ps x)).take n ≠ [] := by
      have h4 := encP_ne (fun c => c) len ps x h.1.2
      rw [dns_map, ← List.map_take]
      intro h5
      have h6 := List.map_eq_nil_iff.1 h5
      rcases List.take_eq_nil_iff.1 h6 with h7 | h7
      · omega
      · exact h4 h7
    simp only [encP, dns, embs, dn, AV.emb, dns_take, dns_drop, h2.1, h2.2, Bool.and_self, Bool.and_true, Bool.not_eq_true', List.isEmpty_eq_false_iff]
    exact h3
theorem encP_unm (ρ len : Nat → Nat) : ∀ (ps : List PK) (x : Els (pTy ps)), noOwn ps = true → ∀ a ∈ encP ρ len ps x, tmark a = none
  | [], _, _, a, h => by simp [encP] at h
  | .val t :: ps, x, h, a, ha => by
    simp only [noOwn] at h
    simp only [encP, List.mem_cons] at ha
    rcases ha with rfl | ha
    · exact tval_mark t x.1
    · exact encP_unm ρ len ps x.2 h a ha
  | .own .. :: ps, x, h, a, ha => by simp [noOwn] at h
  | .ref c :: ps, x, h, a, ha => by
    simp only [noOwn] at h
    simp only [encP, List.mem_cons] at ha
    rcases ha with rfl | ha
    · rfl
    · exact encP_unm ρ len ps x h a ha
  | .arr c :: ps, x, h, a, ha => by
    simp only [noOwn] at h
    simp only [encP, List.mem_cons] at ha
    rcases ha with rfl | ha
    · rfl
    · exact encP_unm ρ len ps x h a ha
  | .fn f n :: ps, x, h, a, ha => by
    simp only [noOwn] at h
    simp only [encP, List.mem_cons] at ha
    rcases ha with rfl | ha
    · rfl
    · exact encP_unm ρ len ps x h a (List.mem_of_mem_drop ha)
  | .ep n :: ps, x, h, a, ha => by
    simp only [noOwn] at h
    simp only [encP, List.mem_cons] at ha
    rcases ha with rfl | ha
    · rfl
    · exact encP_unm ρ len ps x h a (List.mem_of_mem_drop ha)
  | .nilp :: ps, x, h, a, ha => by
    simp only [noOwn] at h
    simp only [encP, List.mem_cons] at ha
    rcases ha with rfl | ha
    · rfl
    · exact encP_unm ρ len ps x h a ha
theorem Wk.ep {a b : List AV} {o : Nat} (h : Wks a b) : Wk (.eptr a o) (.eptr b o) := fun G w v k => by
  simp only [VR0] at k ⊢
  obtain ⟨bl, ob, vs, k1, k2, k3, k4⟩ := k
  exact ⟨bl, ob, vs, k1, by rw [← h.len]; exact k2, k3, h.VRs0 k4⟩
theorem WkMs.take {a b : List AV} (h : WkMs a b) : ∀ n, WkMs (a.take n) (b.take n) := by
  induction h with
  | nil => intro n; simp; exact .nil
  | cons h _ ih => intro n; cases n with
    | zero => exact .nil
    | succ n => exact .cons h (ih n)
theorem WkMs.drop {a b : List AV} (h : WkMs a b) : ∀ n, WkMs (a.drop n) (b.drop n) := by
  induction h with
  | nil => intro n; simp; exact .nil
  | cons h k ih => intro n; cases n with
    | zero => exact .cons h k
    | succ n => exact ih n
theorem WkM.toWk {a b : AV} (ha : a.mark = none) (h : WkM a b) : Wk a b := fun G w v k => (h (fun _ => True) G w v ⟨k, OwnC.of_plain ha⟩).1
theorem WkMs.toWks {σ : Nat → Nat} {as bs : List AV} (h : WkMs (as.map (AV.ren σ)) bs) (hm : ∀ a ∈ as, a.mark = none) : Wks as bs := by
  induction as generalizing bs with
  | nil => cases h; exact .nil
  | cons a as ih =>
    cases h with
    | cons h1 h2 =>
      have ha := hm a List.mem_cons_self
      rw [ren_none σ ha] at h1
      exact .cons (h1.toWk ha) (ih h2 fun b hb => hm b (List.mem_cons_of_mem _ hb))
theorem unm_spec {l : List TV} (h : unm l = true) : ∀ a ∈ l, tmark a = none := fun a ha => by
  have := List.all_eq_true.1 h a ha
  simpa using this
theorem unm_dns {l : List TV} (h : ∀ a ∈ l, tmark a = none) : ∀ a ∈ dns l, a.mark = none := fun a ha => by
  rw [dns_map] at ha
  obtain ⟨v, hv, rfl⟩ := List.mem_map.1 ha
  rw [dn_mark]
  exact h v hv
theorem lookN2_mem {l : List (Nat × Nat)} {t x : Nat} (h : lookN2 l t = some x) : t ∈ l.map (·.1) := by
  induction l with
  | nil => cases h
  | cons a l ih =>
    obtain ⟨a, y⟩ := a
    simp only [lookN2] at h
    cases hb : Nat.beq t a with
    | true => have := Nat.eq_of_beq_eq_true hb; subst this; simp
    | false => rw [hb] at h; simp only [List.map_cons, List.mem_cons]; exact .inr (ih h)
def LenOK (π : List Nat) (s : List TOb) (len : Nat → Nat) : Prop := ∀ (c i : Nat) (ty : Ty) (xs : List (El ty)) (t : TypeId) (lv : Bool), π[c]? = some i → s[i]? = some (.tarr ty xs t lv) → len c = xs.length
def SigOK (l : List (Nat × Nat)) (σ : Nat → Nat) : Prop := ∀ t x, lookN2 l t = some x → σ t = x
theorem tOwned_ren {ty : Ty} {e : TypeId} {z m : Nat} {v : TV} {xs : List (El ty)} {t0 : Nat} {l : List (Nat × Nat)} {σ : Nat → Nat} (hσ : SigOK l σ) (h : tOwned ty e z m v = some (xs, t0)) (ho : ownOK l m v = true) : tOwned ty e z m (tren σ v) = some (xs, m) := by
  unfold tOwned at h
  unfold ownOK at ho
  split at h
  · rename_i ty' ys t1 e' z'
    simp only [tmark] at ho
    split at ho
    · rename_i x hx
      have hx2 := Nat.eq_of_beq_eq_true ho
      subst hx2
      have hs := hσ _ _ hx
      split at h
      · rename_i hc
        obtain ⟨q, h1, h2⟩ := map_some_eq h
        cases h2
        simp only [tren, tOwned, hs]
        rw [if_pos hc, h1]
        rfl
      · cases h
    · cases ho
  · rename_i ty' ys
    obtain ⟨q, h1, h2⟩ := map_some_eq h
    cases h2
    simp only [tren, tOwned, h1, Option.map_some]
  · cases h; rfl
  · rename_i t1 e' z'
    simp only [tmark] at ho
    split at ho
    · rename_i x hx
      have hx2 := Nat.eq_of_beq_eq_true ho
      subst hx2
      have hs := hσ _ _ hx
      split at h
      · rename_i hc
        cases h
        simp only [tren, tOwned, hs]
        rw [if_pos hc]
      · cases h
    · cases ho
  · cases h
theorem decP_spec {β : Type} {π : List Nat} {s : List TOb} {l : List (Nat × Nat)} {σ : Nat → Nat} (hσ : SigOK l σ) {b : β} : ∀ (ps : List PK) (vs : List TV) (k : Els (pTy ps) → Option β), decP π s l ps vs k = some b →
    ∃ x, k x = some b ∧ ∀ len, LenOK π s len → WkMs ((dns vs).map (AV.ren σ)) (pis (piF π) (dns (encP (fun c => c) len ps x)))
  | [], [], k, h => ⟨(), h, fun _ _ => .nil⟩
  | [], _ :: _, k, h => by simp [decP] at h
  | .val t :: ps, v :: vs, k, h => by
    simp only [decP] at h
    split at h
    · rename_i x hx
      obtain ⟨xs, h1, h2⟩ := decP_spec hσ ps vs _ h
      refine ⟨(x, xs), h1, fun len hl => ?_⟩
      simp only [dns, List.map_cons, encP, pis]
      rw [pi_free (tval_free t x)]
      exact .cons (.of ((AV.ren_wk σ _).trans (decV_spec hx)) (aval_mark t x)) (h2 len hl)
    · cases h
  | .val t :: ps, [], k, h => by simp [decP] at h
  | .own t m e z :: ps, v :: vs, k, h => by
    simp only [decP] at h
    split at h
    · rename_i xs t0 hx
      obtain ⟨hc, h⟩ := cond_some h
      rw [Bool.and_eq_true] at hc
      obtain ⟨ys, h1, h2⟩ := decP_spec hσ ps vs _ h
      refine ⟨(xs, ys), h1, fun len hl => ?_⟩
      simp only [dns, List.map_cons, encP, pis]
      have hp : (dn (.tl t xs (.own m e z))).pi (piF π) = dn (.tl t xs (.own m e z)) := pi_free (by simp only [dn, AV.free]; exact flat_free xs)
      rw [hp]
      refine .cons ?_ (h2 len hl)
      rw [← dn_tren]
      exact tOwned_spec (Nat.eq_of_beq_eq_true hc.1) (tOwned_ren hσ hx hc.2)
    · cases h
  | .own t m e z :: ps, [], k, h => by simp [decP] at h
  | .ref c :: ps, vs, k, h => by
    cases vs with
    | nil => simp [decP] at h
    | cons v vs =>
      cases v <;> try (simp [decP] at h; done)
      rename_i i o
      simp only [decP] at h
      split at h
      · rename_i j hj
        obtain ⟨hc, h9⟩ := cond_some h
        clear h
        rw [Bool.and_eq_true] at hc
        have e1 := Nat.eq_of_beq_eq_true hc.1
        have e2 := Nat.eq_of_beq_eq_true hc.2
        subst e1; subst e2
        obtain ⟨x, h1, h2⟩ := decP_spec hσ ps vs _ h9
        refine ⟨x, h1, fun len hl => ?_⟩
        simp only [dns, List.map_cons, encP, pis, dn, AV.pi, AV.ren]
        have hp : piF π c = j := by unfold piF; rw [List.getD_eq_getElem?_getD, hj]; rfl
        rw [hp]
        exact .cons (.refl _) (h2 len hl)
      · cases h
  | .arr c :: ps, vs, k, h => by
    cases vs with
    | nil => simp [decP] at h
    | cons v vs =>
      cases v <;> try (simp [decP] at h; done)
      rename_i i n
      simp only [decP] at h
      split at h
      · rename_i j hj
        split at h
        · rename_i ty xs tt lv hs
          obtain ⟨hc, h8⟩ := cond_some h
          obtain ⟨hc2, h9⟩ := cond_some h8
          clear h h8
          have e1 := Nat.eq_of_beq_eq_true hc
          have e2 := Nat.eq_of_beq_eq_true hc2
          subst e1; subst e2
          obtain ⟨x, h1, h2⟩ := decP_spec hσ ps vs _ h9
          refine ⟨x, h1, fun len hl => ?_⟩
          simp only [dns, List.map_cons, encP, pis, dn, AV.pi, AV.ren]
          have hp : piF π c = j := by unfold piF; rw [List.getD_eq_getElem?_getD, hj]; rfl
          rw [hp, hl c j ty xs tt lv hj hs]
          exact .cons (.refl _) (h2 len hl)
        · cases h
      · cases h
  | .fn f n :: ps, vs, k, h => by
    cases vs with
    | nil => simp [decP] at h
    | cons v vs =>
      cases v <;> try (simp [decP] at h; done)
      rename_i g cs
      cases g <;> try (simp [decP] at h; done)
      rename_i g
      simp only [decP] at h
      obtain ⟨hc, h9⟩ := cond_some h
      clear h
      simp only [Bool.and_eq_true] at hc
      obtain ⟨⟨c1, c2⟩, c3⟩ := hc
      have e1 := Nat.eq_of_beq_eq_true c1
      have e2 := Nat.eq_of_beq_eq_true c2
      subst e1; subst e2
      obtain ⟨x, h1, h2⟩ := decP_spec hσ ps (cs ++ vs) _ h9
      refine ⟨x, h1, fun len hl => ?_⟩
      have h3 := h2 len hl
      have h4 := h3.take cs.length
      have h5 := h3.drop cs.length
      rw [dns_app, List.map_append] at h4 h5
      have hlen : ((dns cs).map (AV.ren σ)).length = cs.length := by rw [List.length_map, dns_length]
      rw [List.take_left' hlen] at h4
      rw [List.drop_left' hlen] at h5
      simp only [dns, List.map_cons, encP, pis, dn, AV.pi, AV.ren, dns_take, dns_drop, pis_take, pis_drop]
      refine .cons (.of (.func ?_) rfl) h5
      exact h4.toWks (unm_dns (unm_spec c3))
  | .nilp :: ps, vs, k, h => by
    cases vs with
    | nil => simp [decP] at h
    | cons v vs =>
      cases v <;> try (simp [decP] at h; done)
      simp only [decP] at h
      obtain ⟨x, h1, h2⟩ := decP_spec hσ ps vs _ h
      refine ⟨x, h1, fun len hl => ?_⟩
      simp only [dns, List.map_cons, encP, pis, dn, AV.pi, AV.ren]
      exact .cons (.refl _) (h2 len hl)
  | .ep n :: ps, vs, k, h => by
    cases vs with
    | nil => simp [decP] at h
    | cons v vs =>
      cases v <;> try (simp [decP] at h; done)
      rename_i cs o
      simp only [decP] at h
      obtain ⟨hc, h9⟩ := cond_some h
      clear h
      simp only [Bool.and_eq_true] at hc
      obtain ⟨⟨c1, c2⟩, c3⟩ := hc
      have e1 := Nat.eq_of_beq_eq_true c1
      have e2 := Nat.eq_of_beq_eq_true c2
      subst e1; subst e2
      obtain ⟨x, h1, h2⟩ := decP_spec hσ ps (cs ++ vs) _ h9
      refine ⟨x, h1, fun len hl => ?_⟩
      have h3 := h2 len hl
      have h4 := h3.take cs.length
      have h5 := h3.drop cs.length
      rw [dns_app, List.map_append] at h4 h5
      have hlen : ((dns cs).map (AV.ren σ)).length = cs.length := by rw [List.length_map, dns_length]
      rw [List.take_left' hlen] at h4
      rw [List.drop_left' hlen] at h5
      simp only [dns, List.map_cons, encP, pis, dn, AV.pi, AV.ren, dns_take, dns_drop, pis_take, pis_drop]
      refine .cons (.of (.ep ?_) rfl) h5
      exact h4.toWks (unm_dns (unm_spec c3))
end Go.Proofs.Ytgicljncknbgcaa.Abs
