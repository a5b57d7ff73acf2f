/- Objects by other numbers. -/
import Derived.Test.YtmacghaihlfcpaaGreatSX
namespace Go.Proofs.YtmacghaihlfcpaaGreat.Abs
noncomputable section
open Go Go.ChangeShapes Go.WideShapes Go.ChangeAt Go.RowKit
set_option linter.unusedVariables false
set_option linter.unusedSimpArgs false

mutual
def AV.rn (f : Nat → Nat) : AV → AV
  | .undef => .undef
  | .int k n => .int k n
  | .bool b => .bool b
  | .str s => .str s
  | .nilp => .nilp
  | .ref i o => .ref (f i) o
  | .eptr cs o => .eptr (rns f cs) o
  | .list cs n g => .list (rns f cs) n g
  | .arr i n => .arr (f i) n
  | .nilf => .nilf
  | .mapn => .mapn
  | .mapr i => .mapr (f i)
  | .func fn cs => .func fn (rns f cs)
  | .agg cs => .agg (rns f cs)
  | .tuple vs => .tuple (rns f vs)
def rns (f : Nat → Nat) : List AV → List AV
  | [] => []
  | a :: l => a.rn f :: rns f l
end
mutual
def TV.rn (f : Nat → Nat) : TV → TV
  | .undef => .undef
  | .int k n => .int k n
  | .bool b => .bool b
  | .tt => .tt
  | .ff => .ff
  | .str s => .str s
  | .nilp => .nilp
  | .ref i o => .ref (f i) o
  | .tl t xs g => .tl t xs g
  | .ll cs n g => .ll (trns f cs) n g
  | .ep cs o => .ep (trns f cs) o
  | .arr i n => .arr (f i) n
  | .ap i x z o => .ap (f i) x z o
  | .nilf => .nilf
  | .mapn => .mapn
  | .mapr i => .mapr (f i)
  | .func fn cs => .func fn (trns f cs)
  | .agg cs => .agg (trns f cs)
  | .tup vs => .tup (trns f vs)
def trns (f : Nat → Nat) : List TV → List TV
  | [] => []
  | a :: l => a.rn f :: trns f l
end
theorem rns_map (f : Nat → Nat) : ∀ l, rns f l = l.map (AV.rn f)
  | [] => rfl
  | a :: l => by simp only [rns, List.map_cons, rns_map f l]
theorem trns_map (f : Nat → Nat) : ∀ l, trns f l = l.map (TV.rn f)
  | [] => rfl
  | a :: l => by simp only [trns, List.map_cons, trns_map f l]
theorem rns_app (f : Nat → Nat) (l m : List AV) : rns f (l ++ m) = rns f l ++ rns f m := by simp [rns_map]
mutual
theorem cells_rn (f : Nat → Nat) : ∀ (t : Ty) (x : El t), rns f (cellsOf t x) = cellsOf t x
  | .int _, _ => rfl
  | .bool, _ => rfl
  | .str, _ => rfl
  | .list e, xs => by
    have : rns f (xs.flatMap (cellsOf e)) = xs.flatMap (cellsOf e) := flat_rn f e xs
    simp only [cellsOf, rns, AV.rn, this]
  | .st fs, x => by simp only [cellsOf]; exact cellss_rn f fs x
theorem cellss_rn (f : Nat → Nat) : ∀ (ts : List Ty) (x : Els ts), rns f (cellsOfs ts x) = cellsOfs ts x
  | [], _ => rfl
  | t :: ts, x => by simp only [cellsOfs, rns_app, cells_rn f t x.1, cellss_rn f ts x.2]
theorem flat_rn (f : Nat → Nat) (t : Ty) : ∀ (xs : List (El t)), rns f (xs.flatMap (cellsOf t)) = xs.flatMap (cellsOf t)
  | [] => rfl
  | x :: xs => by rw [List.flatMap_cons, rns_app, cells_rn f t x, flat_rn f t xs]
end
mutual
theorem dn_rn (f : Nat → Nat) : ∀ v : TV, dn (v.rn f) = (dn v).rn f
  | .undef => rfl
  | .int .. => rfl
  | .bool _ => rfl
  | .tt => rfl
  | .ff => rfl
  | .str _ => rfl
  | .nilp => rfl
  | .ref .. => rfl
  | .tl t xs g => by simp only [TV.rn, dn, AV.rn, flat_rn]
  | .ll cs n g => by simp only [TV.rn, dn, AV.rn, dns_rn f cs]
  | .ep cs o => by simp only [TV.rn, dn, AV.rn, dns_rn f cs]
  | .arr .. => rfl
  | .ap .. => rfl
  | .nilf => rfl
  | .mapn => rfl
  | .mapr _ => rfl
  | .func fn cs => by simp only [TV.rn, dn, AV.rn, dns_rn f cs]
  | .agg cs => by simp only [TV.rn, dn, AV.rn, dns_rn f cs]
  | .tup cs => by simp only [TV.rn, dn, AV.rn, dns_rn f cs]
theorem dns_rn (f : Nat → Nat) : ∀ l : List TV, dns (trns f l) = rns f (dns l)
  | [] => rfl
  | a :: l => by simp only [trns, dns, rns, dn_rn f a, dns_rn f l]
end
def Ob.rn (f : Nat → Nat) (o : Ob) : Ob := { o with cs := rns f o.cs }
def TOb.rn (f : Nat → Nat) : TOb → TOb
  | .cells cs t l => .cells (trns f cs) t l
  | .tarr ty xs t l => .tarr ty xs t l
theorem dnO_rn (f : Nat → Nat) : ∀ o : TOb, dnO (o.rn f) = (dnO o).rn f
  | .cells cs t l => by simp only [TOb.rn, dnO, Ob.rn, dns_rn]
  | .tarr ty xs t l => by simp only [TOb.rn, dnO, Ob.rn, flat_rn]
/-- the ghost by other numbers -/
def Gh.rn (G : Gh) (f : Nat → Nat) : Gh := { G with live := fun i => G.live (f i), mu := fun i => G.mu (f i) }
structure Inv (f : Nat → Nat) (n m : Nat) : Prop where
  inv : ∀ i, f (f i) = i
  low : ∀ i, i < n → f i = i
  top : ∀ i, i < m → f i < m
section
set_option linter.unusedSectionVars false
variable {f : Nat → Nat} {n : Nat} {G : Gh} {w : World} (hi : Inv f n G.n)
include hi
theorem obj_rn (b : Nat) : (G.rn f).obj b ↔ G.obj b := by
  constructor
  · rintro ⟨i, h1, h2, h3⟩
    exact ⟨f i, hi.top i h1, h2, h3⟩
  · rintro ⟨i, h1, h2, h3⟩
    refine ⟨f i, hi.top i h1, ?_, ?_⟩
    · show G.live (f (f i)) = true; rw [hi.inv]; exact h2
    · show G.mu (f (f i)) = b; rw [hi.inv]; exact h3
theorem Seen.rn {b o len : Nat} (h : Seen G w b o len) : Seen (G.rn f) w b o len := ⟨h.1, fun k => h.2.1 ((obj_rn hi b).1 k), h.2.2⟩
theorem mu_rn (i : Nat) : (G.rn f).mu (f i) = G.mu i := by show G.mu (f (f i)) = G.mu i; rw [hi.inv]
omit hi in
theorem rns_length (l : List AV) : (rns f l).length = l.length := by rw [rns_map, List.length_map]
mutual
theorem VR0.rn : ∀ (a : AV) (v : Value), VR0 G w a v → VR0 (G.rn f) w (a.rn f) v
  | .undef, _, _ => by simp only [AV.rn, VR0]
  | .int .., _, h => by simp only [AV.rn, VR0] at h ⊢; exact h
  | .bool _, _, h => by simp only [AV.rn, VR0] at h ⊢; exact h
  | .str _, _, h => by simp only [AV.rn, VR0] at h ⊢; exact h
  | .nilp, _, h => by simp only [AV.rn, VR0] at h ⊢; exact h
  | .ref i o, _, h => by
    simp only [AV.rn, VR0] at h ⊢
    rw [mu_rn hi]
    exact ⟨h.1, hi.top i h.2⟩
  | .arr i o, _, h => by
    simp only [AV.rn, VR0] at h ⊢
    rw [mu_rn hi]
    exact ⟨h.1, hi.top i h.2⟩
  | .eptr cs o, _, h => by
    simp only [AV.rn, VR0] at h ⊢
    obtain ⟨b, ob, vs, h1, h2, h3, h4⟩ := h
    exact ⟨b, ob, vs, h1, by rw [rns_length]; exact h2.rn hi, h3, VRs0.rn cs vs h4⟩
  | .list cs n g, _, h => by
    simp only [AV.rn, VR0] at h ⊢
    obtain ⟨A, cap, h1, h2, h3, h4⟩ := h
    refine ⟨A, cap, h1, h2, h3, ?_⟩
    rcases h4 with h4 | ⟨b, o, vs, h5, h6, h7, h8⟩
    · subst h4; exact .inl rfl
    · exact .inr ⟨b, o, vs, h5, by rw [rns_length]; exact h6.rn hi, h7, VRs0.rn cs vs h8⟩
  | .nilf, _, h => by simp only [AV.rn, VR0] at h ⊢; exact h
  | .mapn, _, h => by simp only [AV.rn, VR0] at h ⊢; exact h
  | .mapr i, _, h => by
    simp only [AV.rn, VR0] at h ⊢
    rw [mu_rn hi]
    exact ⟨h.1, hi.top i h.2⟩
  | .func fn cs, _, h => by
    simp only [AV.rn, VR0] at h ⊢
    obtain ⟨vs, h1, h2⟩ := h
    exact ⟨vs, h1, VRs0.rn cs vs h2⟩
  | .agg cs, _, h => by
    simp only [AV.rn, VR0] at h ⊢
    obtain ⟨vs, h1, h2⟩ := h
    exact ⟨vs, h1, VRs0.rn cs vs h2⟩
  | .tuple cs, _, h => by
    simp only [AV.rn, VR0] at h ⊢
    obtain ⟨vs, h1, h2⟩ := h
    exact ⟨vs, h1, VRs0.rn cs vs h2⟩
theorem VRs0.rn : ∀ (l : List AV) (vs : List Value), VRs0 G w l vs → VRs0 (G.rn f) w (rns f l) vs
  | [], _, h => by simp only [rns, VRs0] at h ⊢; exact h
  | a :: l, _, h => by
    simp only [rns, VRs0] at h ⊢
    obtain ⟨v, vs', h1, h2, h3⟩ := h
    exact ⟨v, vs', h1, VR0.rn a v h2, VRs0.rn l vs' h3⟩
end
theorem OwnC.rn {M : Nat → Prop} {a : AV} {v : Value} (h : OwnC M G w a v) : OwnC M (G.rn f) w (a.rn f) v := by
  cases a with
  | list cs n g =>
    cases g with
    | own t e z =>
      simp only [AV.rn, OwnC] at h ⊢
      rw [rns_length]
      rcases h with h | ⟨q, cap, cur, k1, k2, k3, k4, k5⟩
      · exact .inl h
      · exact .inr ⟨q, cap, cur, k1, k2, k3, fun k => k4 ((obj_rn hi q).1 k), k5⟩
    | _ => exact OwnC.of_plain rfl
  | _ => exact OwnC.of_plain rfl
theorem VR.rn {M : Nat → Prop} {a : AV} {v : Value} (h : VR M G w a v) : VR M (G.rn f) w (a.rn f) v := ⟨VR0.rn hi a v h.1, h.2.rn hi⟩
theorem Sim.rn {M : Nat → Prop} {s s' : List Ob} (h : Sim M G s w) (hs : ∀ i, s'[i]? = (s[f i]?).map (Ob.rn f)) (hl : s'.length = s.length) : Sim M (G.rn f) s' w := by
  have inj : ∀ i j, f i = f j → i = j := fun i j e => by rw [← hi.inv i, e, hi.inv]
  refine ⟨h.n.trans hl.symm, ?_, fun i h1 h2 => h.own _ (hi.top i h1) h2, ?_, fun {i} h1 h2 => h.lt (hi.top i h1) h2, ?_⟩
  · intro i j h1 h2 h3 h4 h5
    exact inj i j (h.inj _ _ (hi.top i h1) (hi.top j h2) h3 h4 h5)
  · intro i o h1 h2
    rw [hs] at h1
    obtain ⟨o', h3, rfl⟩ := map_some_eq h1
    exact h.live (f i) o' h3 h2
  · intro i o h1 h2
    rw [hs] at h1
    obtain ⟨o', h3, rfl⟩ := map_some_eq h1
    obtain ⟨vs, g1, g2, g3⟩ := h.at_ (f i) o' h3 h2
    refine ⟨vs, ?_, by show vs.length = (rns f o'.cs).length; rw [rns_length]; exact g2, ?_⟩
    · rw [Ob.obj_congr (o := o') (o' := Ob.rn f o') rfl]; exact g1
    · intro k a v ha hv
      have ha : (rns f o'.cs)[k]? = some a := ha
      rw [rns_map, List.getElem?_map] at ha
      obtain ⟨a', ha', rfl⟩ := map_some_eq ha
      exact (g3 k a' v ha' hv).rn hi
theorem FR.rn {M : Nat → Prop} {fr : List AV} {a : Act} (h : FR M G w fr a) : FR M (G.rn f) w (rns f fr) a := by
  refine ⟨h.defers, by rw [rns_length]; exact h.size, fun t => ?_⟩
  have := (h.at_ t).rn hi
  have e : (rns f fr).getD t .undef = (fr.getD t .undef).rn f := by
    rw [rns_map, List.getD_eq_getElem?_getD, List.getElem?_map, List.getD_eq_getElem?_getD]
    cases fr[t]? <;> rfl
  rw [e]
  exact this
end
theorem Rel.rn {f : Nat → Nat} {M : Nat → Prop} {G0 : Gh} {w0 : World} {fr : List AV} {s s' : List Ob} {a : Act} {w : World} {n0 : Nat} (hn : G0.n ≤ n0) (hi : Inv f n0 s.length) (h : Rel M G0 w0 fr s a w) (hs : ∀ i, s'[i]? = (s[f i]?).map (Ob.rn f)) (hl : s'.length = s.length) :
    Rel M G0 w0 (rns f fr) s' a w := by
  obtain ⟨G, hE, hS, hF⟩ := h
  have hi' : Inv f n0 G.n := by rw [hS.n]; exact hi
  refine ⟨G.rn f, ?_, hS.rn hi' hs hl, hF.rn hi'⟩
  have hlow : ∀ i, i < G0.n → f i = i := fun i h => hi.low i (Nat.lt_of_lt_of_le h hn)
  exact { hE with
    live := fun i h1 h2 => hE.live i h1 (by have h2 : G.live (f i) = true := h2; rw [hlow i h1] at h2; exact h2)
    mu := fun i h1 => by show G.mu (f i) = _; rw [hlow i h1]; exact hE.mu i h1
    newobj := fun i h1 h2 => by
      refine hE.newobj (f i) ?_ (hi'.top i h2)
      rcases Nat.lt_or_ge (f i) G0.n with h3 | h3
      · have h4 := hlow (f i) h3
        rw [hi.inv] at h4
        omega
      · exact h3
    n := hE.n, own := hE.own, phi := hE.phi, cell := hE.cell, row := hE.row, keep := hE.keep }
/-! the last two objects, the other way round -/
def sw (p : Nat) (i : Nat) : Nat := Bool.rec (Bool.rec i p (Nat.beq i (p + 1))) (p + 1) (Nat.beq i p)
theorem sw_eq (p i : Nat) : sw p i = if i = p then p + 1 else if i = p + 1 then p else i := by
  unfold sw
  cases h : Nat.beq i p with
  | true => rw [if_pos (Nat.eq_of_beq_eq_true h)]
  | false =>
    rw [if_neg (fun e => by subst e; rw [Nat.beq_refl] at h; cases h)]
    cases h2 : Nat.beq i (p + 1) with
    | true => rw [if_pos (Nat.eq_of_beq_eq_true h2)]
    | false => rw [if_neg (fun e => by subst e; rw [Nat.beq_refl] at h2; cases h2)]
theorem sw_inv {p n m : Nat} (h1 : n ≤ p) (h2 : p + 2 ≤ m) : Inv (sw p) n m := by
  refine ⟨fun i => ?_, fun i h => ?_, fun i h => ?_⟩
  · rw [sw_eq, sw_eq]; split <;> rename_i h3
    · subst h3; simp
    · split <;> rename_i h4
      · subst h4; simp
      · simp
  · rw [sw_eq, if_neg (by omega), if_neg (by omega)]
  · rw [sw_eq]; split <;> (try split) <;> omega
/-- two objects side by side change places -/
def swA (f : Nat → Nat) : List TOb → Nat → Option (List TOb)
  | [], _ => none
  | x :: l, 0 => match l with
    | [] => none
    | y :: l => some (y.rn f :: x.rn f :: l.map (TOb.rn f))
  | x :: l, r + 1 => match swA f l r with
    | some l' => some (x.rn f :: l')
    | none => none
theorem swA_spec {f : Nat → Nat} : ∀ {l l' : List TOb} {r : Nat}, swA f l r = some l' → r + 2 ≤ l.length ∧ l'.length = l.length ∧ ∀ i, l'[i]? = (l[sw r i]?).map (TOb.rn f)
  | [], _, _, h => by simp [swA] at h
  | [_], _, 0, h => by simp [swA] at h
  | x :: y :: l, l', 0, h => by
    simp only [swA, Option.some.injEq] at h
    subst h
    refine ⟨by simp, by simp, fun i => ?_⟩
    match i with
    | 0 => rfl
    | 1 => rfl
    | i + 2 => rw [sw_eq, if_neg (by omega), if_neg (by omega)]; simp
  | x :: l, l', r + 1, h => by
    simp only [swA] at h
    split at h
    · rename_i l2 hq
      cases h
      obtain ⟨h1, h2, h3⟩ := swA_spec hq
      refine ⟨by rw [List.length_cons]; omega, by rw [List.length_cons, h2]; rfl, fun i => ?_⟩
      match i with
      | 0 =>
        rw [sw_eq, if_neg (by omega), if_neg (by omega)]
        rfl
      | i + 1 =>
        have e : sw (r + 1) (i + 1) = sw r i + 1 := by
          rw [sw_eq, sw_eq]
          by_cases k1 : i = r
          · subst k1; rw [if_pos rfl, if_pos rfl]
          · rw [if_neg (by omega), if_neg k1]
            by_cases k2 : i = r + 1
            · subst k2; rw [if_pos rfl, if_pos rfl]
            · rw [if_neg (by omega), if_neg k2]
        rw [e, List.getElem?_cons_succ, List.getElem?_cons_succ]
        exact h3 i
    · cases h
end
end Go.Proofs.YtmacghaihlfcpaaGreat.Abs
