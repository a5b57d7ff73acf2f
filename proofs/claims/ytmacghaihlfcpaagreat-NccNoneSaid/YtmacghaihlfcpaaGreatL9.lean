/- Regions whose order is open, whose head also makes objects, stores and appends, told by a function. -/
import Derived.Test.YtmacghaihlfcpaaGreatL5
import Derived.Test.YtmacghaihlfcpaaGreatL8
namespace Go.Proofs.YtmacghaihlfcpaaGreat.Abs
noncomputable section
open Go Go.ChangeShapes Go.WideShapes Go.ChangeAt Go.RowKit
set_option linter.unusedVariables false
set_option linter.unusedSimpArgs false

def TW.dead (nb n0 : Nat) : TW → List Nat
  | .alloc r => [nb + r]
  | .store true i => [n0 + i]
  | .store false i => [i]
  | .app _ => []
def TW.ts : TW → List Nat
  | .app t => [t]
  | _ => []
/-- j is ahead of i -/
def ancq (A : Array Oper) (i j : Nat) : Bool := Nat.blt j i && ancB A A.size i j
def deadOf (nb n0 : Nat) (A : Array Oper) (i : Nat) : List (Nat × TW) → List Nat
  | [] => []
  | (j, w) :: l => match Nat.beq j i || ancq A i j || ancq A j i with
    | true => deadOf nb n0 A i l
    | false => w.dead nb n0 ++ deadOf nb n0 A i l
/-- below this a value of the operation i speaks only of what is there -/
def bdOf (nb K : Nat) (A : Array Oper) (i : Nat) : List (Nat × TW) → Nat
  | [] => nb + K
  | (j, .alloc r) :: l => match Nat.beq j i || ancq A i j with
    | true => bdOf nb K A i l
    | false => Nat.min (nb + r) (bdOf nb K A i l)
  | (_, .store _ _) :: l => bdOf nb K A i l
  | (_, .app _) :: l => bdOf nb K A i l
theorem bdOf_le {nb K : Nat} {A : Array Oper} {i : Nat} : ∀ (ws : List (Nat × TW)), nb ≤ bdOf nb K A i ws ∧ bdOf nb K A i ws ≤ nb + K ∧ ∀ j r, (j, TW.alloc r) ∈ ws → j ≠ i → bdOf nb K A i ws ≤ nb + r ∨ ancq A i j = true
  | [] => ⟨Nat.le_add_right _ _, Nat.le_refl _, fun j r h => by simp at h⟩
  | (j, .alloc r) :: l => by
    obtain ⟨h1, h2, h3⟩ := bdOf_le (nb := nb) (K := K) (A := A) (i := i) l
    unfold bdOf
    split
    · rename_i hb
      refine ⟨h1, h2, fun j' r' hm hne => ?_⟩
      rcases List.mem_cons.1 hm with e | e
      · cases e
        rw [Bool.or_eq_true] at hb
        rcases hb with hb | hb
        · exact absurd (Nat.eq_of_beq_eq_true hb) hne
        · exact .inr hb
      · exact h3 j' r' e hne
    · refine ⟨Nat.le_min.2 ⟨Nat.le_add_right _ _, h1⟩, Nat.le_trans (Nat.min_le_right _ _) h2, fun j' r' hm hne => ?_⟩
      rcases List.mem_cons.1 hm with e | e
      · cases e
        exact .inl (Nat.min_le_left _ _)
      · rcases h3 j' r' e hne with h | h
        · exact .inl (Nat.le_trans (Nat.min_le_right _ _) h)
        · exact .inr h
  | (j, .store o x) :: l => by
    obtain ⟨h1, h2, h3⟩ := bdOf_le (nb := nb) (K := K) (A := A) (i := i) l
    refine ⟨h1, h2, fun j' r' hm hne => ?_⟩
    rcases List.mem_cons.1 hm with e | e
    · cases e
    · exact h3 j' r' e hne
  | (j, .app t) :: l => by
    obtain ⟨h1, h2, h3⟩ := bdOf_le (nb := nb) (K := K) (A := A) (i := i) l
    refine ⟨h1, h2, fun j' r' hm hne => ?_⟩
    rcases List.mem_cons.1 hm with e | e
    · cases e
    · exact h3 j' r' e hne
def tsOf (A : Array Oper) (i : Nat) : List (Nat × TW) → List Nat
  | [] => []
  | (j, w) :: l => match Nat.beq j i || ancq A j i with
    | true => tsOf A i l
    | false => w.ts ++ tsOf A i l
def tsAll : List (Nat × TW) → List Nat
  | [] => []
  | (_, w) :: l => w.ts ++ tsAll l
def wsPair (nb n0 : Nat) (A : Array Oper) (j i : Nat) : TW → TW → Bool
  | .alloc r, .alloc r' => Nat.beq j i || !(Nat.beq r r')
  | .alloc r, w => !((w.dead nb n0).contains (nb + r)) || ancq A i j
  | _, .alloc _ => true
  | _, _ => Nat.beq j i || ancq A i j || ancq A j i
def wsOK (A : Array Oper) (n nb n0 : Nat) (ws : List (Nat × TW)) : Bool := ws.all fun p => Nat.blt p.1 n && ws.all fun q => wsPair nb n0 A p.1 q.1 p.2 q.2
def tmskS (dead ts : List Nat) : Nat → List TOb → List TOb
  | _, [] => []
  | i, o :: s => (match dead.contains i with
    | true => match o with
      | .cells cs t _ => .cells cs t false
      | .tarr ty xs t _ => .tarr ty xs t false
    | false => tclearO ts o) :: tmskS dead ts (i + 1) s
theorem dnS_msk {dead ts : List Nat} : ∀ (i : Nat) (s : List TOb), dnS (tmskS dead ts i s) = mskS dead ts i (dnS s)
  | _, [] => rfl
  | i, o :: s => by
    have ih := dnS_msk (dead := dead) (ts := ts) (i + 1) s
    simp only [dnS, tmskS, mskS, List.map_cons] at ih ⊢
    rw [ih]
    congr 1
    cases hd : dead.contains i with
    | true => rw [if_pos rfl]; cases o <;> rfl
    | false => rw [if_neg (by simp)]; exact dnO_clear ts o
def mskK {β : Type} (dead ts : List Nat) (s : List TOb) (k : List TOb → β) : β := match dead, ts with
  | [], [] => k s
  | _, _ => forceS (tmskS dead ts 0 s) k
theorem tmsk_nil : ∀ (i : Nat) (s : List TOb), dnS (tmskS [] [] i s) = dnS s := fun i s => by
  rw [dnS_msk]
  have : ∀ (i : Nat) (s : List Ob), mskS [] [] i s = clearStore [] s := by
    intro i s
    induction s generalizing i with
    | nil => rfl
    | cons o s ih => simp only [mskS, ih]; rfl
  rw [this, clearStore_nil]
theorem mskK_eq (dead ts : List Nat) (s : List TOb) : ∃ s', dnS s' = mskS dead ts 0 (dnS s) ∧ ∀ {β : Type} (k : List TOb → β), mskK dead ts s k = k s' := by
  cases dead with
  | nil =>
    cases ts with
    | nil => exact ⟨s, by rw [← dnS_msk]; exact (tmsk_nil 0 s).symm, fun _ => rfl⟩
    | cons a l => exact ⟨_, dnS_msk 0 s, fun k => by simp only [mskK, forceS_eq]⟩
  | cons a l => exact ⟨_, dnS_msk 0 s, fun k => by simp only [mskK, forceS_eq]⟩
section
variable {β : Type} (sc : Sc) (cf : Cfg)
def execH3 (op : Op) (frv : List TV) (sv : List TOb) (fr : List TV) (k : List TV → TV → Option β) : Option β :=
  match op with
  | .pick c x y => match tEval frv c with
    | .tt => k fr (tEval frv x)
    | .ff => k fr (tEval frv y)
    | .bool b => match c with
      | .tmp t => cond b (setK fr t .tt fun fr => k fr (tEval frv x)) (setK fr t .ff fun fr => k fr (tEval frv y))
      | _ => none
    | _ => none
  | .call c => match c.callee with
    | .value x => match tEval frv x with
      | .func (.func f) fcs => forceL ((c.args.toList.map fun y => tsoft (tEval frv y)) ++ fcs) fun args => match tfrees args with
        | true => cf.C f β args [] fun r s' => match s', tfree r with
          | [], true => k fr (tplain r)
          | _, _ => none
        | false => forceL (args.map (snapV sv 4)) fun args => match tfrees args with
          | true => cf.C f β args [] fun r s' => match s', tflat r with
            | [], true => k fr (tplain r)
            | _, _ => none
          | false => none
      | _ => none
    | _ => match tPure sc.P sc.wrap frv sv op with
      | some (g, v) => cond g (k fr v) none
      | none => none
  | .lookup t x y ok => match tLookup sc.P sv t (tEval frv x) (tEval frv y) ok with
    | some v => k fr v
    | none => none
  | op => match tPure sc.P sc.wrap frv sv op with
    | some (g, v) => cond g (k fr v) none
    | none => none
def putB {γ : Type} (nb : Nat) (fr : List TV) (d : Option Nat) (v : TV) (k : List TV → Option γ) : Option γ := forceV v fun v => match tbelow nb v with
  | true => putK fr d v k
  | false => none
def idxOf (nb n0 : Nat) : TW → Nat
  | .alloc r => nb + r
  | .store true i => n0 + i
  | .store false i => i
  | .app _ => 0
def obAt : List TOb → Nat → TOb
  | [], _ => .cells [] 0 false
  | o :: _, 0 => o
  | _ :: s, i + 1 => obAt s i
theorem obAt_eq : ∀ (s : List TOb) (i : Nat), i < s.length → s[i]? = some (obAt s i)
  | [], i, h => by simp at h
  | o :: s, 0, h => rfl
  | o :: s, i + 1, h => by simpa [obAt] using obAt_eq s i (by simpa using h)
def belowO (nb : Nat) : TOb → Bool
  | .cells cs _ _ => tbelows nb cs
  | .tarr .. => true
theorem belowO_spec {nb : Nat} {o : TOb} (h : belowO nb o = true) : belows nb (dnO o).cs = true := by
  cases o with
  | cells cs t l => exact tbelows_spec cs h
  | tarr ty xs t l => exact flat_refs nb xs
/-- a pointer, or what points to nothing -/
def tsolid (v : TV) : Bool := match v with
  | .ref _ _ => true
  | v => tfree v
def plainC (a : TV) : Bool := tsolid a && (tmark a).isNone
/-- all objects dead but one -/
def onlyS (idx : Nat) : Nat → List TOb → List TOb
  | _, [] => []
  | i, o :: s => (match Nat.beq i idx with
    | true => o
    | false => .cells [] 0 false) :: onlyS idx (i + 1) s
def tplainO : TOb → TOb
  | .cells cs t l => .cells (cs.map tplain) t l
  | .tarr ty xs t l => .tarr ty xs t l
/-- a call that turns an object -/
def callW (nb idx : Nat) (dst : Option Tmp) (c : Call) (frv : List TV) (sv : List TOb) (fr : List TV) (s : List TOb) (k : List TV → List TOb → Option β) : Option β := match c.callee with
  | .value x => match tEval frv x with
    | .func (.func f) fcs => forceL ((c.args.toList.map fun y => tsoft (tEval frv y)) ++ fcs) fun args => match obAt (sv.map tplainO) idx with
      | .cells cs t true => cond (args.all tsolid && (cs.all plainC && Nat.blt idx (sv.map tplainO).length))
        (forceS (onlyS idx 0 (sv.map tplainO)) fun so => cf.C f β args so fun r s' => match obAt (s'.map tplainO) idx with
          | .cells cs' t' l' => cond (Nat.beq (s'.map tplainO).length (sv.map tplainO).length && (cs'.all plainC && (tsolid r && tbelows nb cs')))
            (forceS (s.set idx (.cells cs' t' l')) fun s => putB nb fr dst (tplain r) fun fr => k fr s) none
          | _ => none) none
      | _ => none
    | _ => none
  | _ => none
def tAppX (P : Program) (d : Nat) (fr : List TV) (s : List TOb) (t : TypeId) (x y : TV) : Option (Bool × List TV × TV × List TOb) := match tAppend P d fr s t x y with
  | some r => some r
  | none => tAppL P d fr s t x y
/-- an operation that turns something -/
def writeH (bd K nb n0 : Nat) (w : TW) (dst : Option Tmp) (op : Op) (frv : List TV) (sv : List TOb) (fr : List TV) (s : List TOb) (k : List TV → List TOb → Option β) : Option β :=
  match w, op with
  | .alloc r, .alloc t => match tZero sc.P t with
    | some cs => match Nat.blt r K with
      | true => forceS (s.set (nb + r) (.cells cs t true)) fun s => putK fr dst (.ref (nb + r) 0) fun fr => k fr s
      | false => none
    | none => none
  | .alloc r, .box t x => if t = mapT then none else match tCells (tEval frv x) with
    | some cs => match Nat.blt r K && (tbelows nb cs && cs.all fun c => (tmark c).isNone) with
      | true => forceS (s.set (nb + r) (.cells cs t true)) fun s => putK fr dst (.ref (nb + r) 0) fun fr => k fr s
      | false => none
    | none => none
  | .store o i, .store t x y => match tStoreAt sc.P sv t (tEval frv x) (tEval frv y) with
    | some (g, s') => match tgtOf (tEval frv x) with
      | some idx => match Nat.beq idx (idxOf nb n0 (.store o i)) && Nat.blt idx s'.length with
        | true => forceO (obAt s' idx) fun ob => match belowO nb ob with
          | true => cond g (forceS (s.set idx ob) fun s => putK fr dst (.tup []) fun fr => k fr s) none
          | false => none
        | false => none
      | none => none
    | none => none
  | .app t0, .call c => match c.callee with
    | .builtin .append => match c.args.toList, c.argTypes.toList with
      | [x, y], [t, t'] => if t = t' then match tAppX sc.P (1000 + dst.getD 0) frv sv t (tEval frv x) (tEval frv y) with
          | some (g, _, v, _) => match tmark v with
            | some m => match Nat.beq m t0 with
              | true => cond g (forceS (tclearS [t0] s) fun s => putB bd fr dst (tren (fun _ => 4000 + dst.getD 0) v) fun fr => k fr s) none
              | false => none
            | none => none
          | none => none
        else none
      | _, _ => none
    | _ => none
  | .store o i, .call c => callW cf nb (idxOf nb n0 (.store o i)) dst c frv sv fr s k
  | _, _ => none
def head3 (hd : HDat) (A : Array Oper) (nb n0 : Nat) : List Oper → Nat → List TV → List TOb → (List TV → List TOb → Option β) → Option β
  | [], _, fr, s, k => k fr s
  | o :: l, i, fr, s, k => clearK (tsOf A i hd.ws) fr fun frv => mskK (deadOf nb n0 A i hd.ws) (tsOf A i hd.ws) s fun sv =>
    match lookN hd.ws i with
    | some w => match o.guard with
      | none => writeH sc cf (bdOf nb hd.K A i hd.ws) hd.K nb n0 w o.dst o.op frv sv fr s fun fr s => head3 hd A nb n0 l (i + 1) fr s k
      | some _ => none
    | none => match o.guard with
      | none => execH3 sc cf o.op frv sv fr fun fr v => putB (bdOf nb hd.K A i hd.ws) fr o.dst v fun fr => head3 hd A nb n0 l (i + 1) fr s k
      | some (g, want) => match guardSlot A g with
        | none => none
        | some t => match frv.getD t .undef with
          | .tt => if want = true then execH3 sc cf o.op frv sv fr fun fr v => putB (bdOf nb hd.K A i hd.ws) fr o.dst v fun fr => head3 hd A nb n0 l (i + 1) fr s k else putK fr o.dst (.tup []) fun fr => head3 hd A nb n0 l (i + 1) fr s k
          | .ff => if want = true then putK fr o.dst (.tup []) fun fr => head3 hd A nb n0 l (i + 1) fr s k else execH3 sc cf o.op frv sv fr fun fr v => putB (bdOf nb hd.K A i hd.ws) fr o.dst v fun fr => head3 hd A nb n0 l (i + 1) fr s k
          | .tup [] => putK fr o.dst (.tup []) fun fr => head3 hd A nb n0 l (i + 1) fr s k
          | .bool b => cond b
            (setK fr t .tt fun fr => if want = true then execH3 sc cf o.op frv sv fr fun fr v => putB (bdOf nb hd.K A i hd.ws) fr o.dst v fun fr => head3 hd A nb n0 l (i + 1) fr s k else putK fr o.dst (.tup []) fun fr => head3 hd A nb n0 l (i + 1) fr s k)
            (setK fr t .ff fun fr => if want = true then putK fr o.dst (.tup []) fun fr => head3 hd A nb n0 l (i + 1) fr s k else execH3 sc cf o.op frv sv fr fun fr v => putB (bdOf nb hd.K A i hd.ws) fr o.dst v fun fr => head3 hd A nb n0 l (i + 1) fr s k)
          | _ => none
end
def deads : Nat → List TOb
  | 0 => []
  | n + 1 => .cells [] 0 false :: deads n
theorem deads_eq : ∀ n, dnS (deads n) = List.replicate n deadO
  | 0 => rfl
  | n + 1 => by
    have := deads_eq n
    simp only [dnS, deads, List.map_cons, List.replicate_succ] at this ⊢
    rw [this]; rfl
/-- the whole region -/
def draw3 {β : Type} (sc : Sc) (cf : Cfg) (hd : HDat) (A : Array Oper) (fr : List TV) (s : List TOb) (k : List TV → List TOb → Option β) : Option β :=
  cond (drawOK A hd.n hd.L && wsOK A hd.n s.length cf.n0 hd.ws && sc.P.follows .mixedOrders)
    (if fr.length = hd.L then
      forceS (s ++ deads hd.K) fun s1 => head3 sc cf hd A s.length cf.n0 (A.toList.take hd.n) 0 fr s1 fun fr s => clearK (tsAll hd.ws) fr fun fr => runOps sc cf A (A.toList.drop hd.n) fr s k
    else none) none
end
end Go.Proofs.YtmacghaihlfcpaaGreat.Abs

namespace Go.Proofs.YtmacghaihlfcpaaGreat.Abs
noncomputable section
open Go Go.ChangeShapes Go.WideShapes Go.ChangeAt Go.RowKit
set_option linter.unusedVariables false
set_option linter.unusedSimpArgs false

def ltL (i : Nat) : Nat → Bool := fun j => decide (j < i)
theorem ancB_lt {A : Array Oper} (h : ∀ (i : Nat) (o : Oper), A[i]? = some o → ∀ e ∈ o.after, Region.binds .any e = true → e.on < i) : ∀ (f j i : Nat), ancB A f j i = true → i < j
  | 0, _, _, h0 => by simp [ancB] at h0
  | f + 1, j, i, h0 => by
    cases hj : A[j]? with
    | none => simp [ancB, hj] at h0
    | some o =>
      simp only [ancB, hj, List.any_eq_true] at h0
      obtain ⟨e, he, hb⟩ := h0
      simp only [Bool.and_eq_true, Bool.or_eq_true, beq_iff_eq] at hb
      have h1 := h j o hj e (by simpa using he) hb.1
      rcases hb.2 with h2 | h2
      · omega
      · have := ancB_lt h f e.on i h2; omega
theorem lookN_mem {α : Type} : ∀ {l : List (Nat × α)} {i : Nat} {x : α}, lookN l i = some x → (i, x) ∈ l
  | [], i, x, h => by simp [lookN] at h
  | (a, y) :: l, i, x, h => by
    simp only [lookN] at h
    split at h
    · rename_i e; cases h; subst e; simp
    · exact List.mem_cons_of_mem _ (lookN_mem h)
section
variable {A : Array Oper} {nb n0 i : Nat}
theorem dead_mem : ∀ {ws : List (Nat × TW)} {j : Nat} {w : TW}, (j, w) ∈ ws → j ≠ i → ancq A i j = false → ancq A j i = false → ∀ x ∈ w.dead nb n0, x ∈ deadOf nb n0 A i ws
  | (j', w') :: l, j, w, h, h1, h2, h3, x, hx => by
    simp only [deadOf]
    rcases List.mem_cons.1 h with e | e
    · cases e
      have : (Nat.beq j' i || ancq A i j' || ancq A j' i) = false := by
        rw [h2, h3]
        have : Nat.beq j' i = false := by
          cases hb : Nat.beq j' i with
          | false => rfl
          | true => exact absurd (Nat.eq_of_beq_eq_true hb) h1
        rw [this]; rfl
      rw [this]
      exact List.mem_append.2 (.inl hx)
    · have ih := dead_mem (ws := l) e h1 h2 h3 x hx
      split
      · exact ih
      · exact List.mem_append.2 (.inr ih)
theorem ts_mem : ∀ {ws : List (Nat × TW)} {j : Nat} {w : TW}, (j, w) ∈ ws → j ≠ i → ancq A j i = false → ∀ x ∈ w.ts, x ∈ tsOf A i ws
  | (j', w') :: l, j, w, h, h1, h3, x, hx => by
    simp only [tsOf]
    rcases List.mem_cons.1 h with e | e
    · cases e
      have : (Nat.beq j' i || ancq A j' i) = false := by
        rw [h3]
        have : Nat.beq j' i = false := by
          cases hb : Nat.beq j' i with
          | false => rfl
          | true => exact absurd (Nat.eq_of_beq_eq_true hb) h1
        rw [this]; rfl
      rw [this]
      exact List.mem_append.2 (.inl hx)
    · have ih := ts_mem (ws := l) e h1 h3 x hx
      split
      · exact ih
      · exact List.mem_append.2 (.inr ih)
end
theorem tsAll_mem : ∀ {ws : List (Nat × TW)} {j : Nat} {w : TW}, (j, w) ∈ ws → ∀ x ∈ w.ts, x ∈ tsAll ws
  | (j', w') :: l, j, w, h, x, hx => by
    simp only [tsAll]
    rcases List.mem_cons.1 h with e | e
    · cases e; exact List.mem_append.2 (.inl hx)
    · exact List.mem_append.2 (.inr (tsAll_mem e x hx))
theorem frAt_congr {A : Array Oper} {fr : List AV} {val val' : Nat → AV} : ∀ i, (∀ j, j < i → val' j = val j) → frAt A fr val' i = frAt A fr val i
  | 0, _ => rfl
  | i + 1, h => by simp only [frAt, frAt_congr i fun j hj => h j (by omega), h i (by omega)]
theorem SR_wcongr {wr wr' : Nat → Option HW} {s0 : List Ob} {K n i : Nat} (h : ∀ j, j < i → wr' j = wr j) : ∀ m, SR wr' s0 K n (ltL i) m = SR wr s0 K n (ltL i) m := by
  have hb : ∀ m, baseR wr' s0 K (ltL i) m = baseR wr s0 K (ltL i) m := by
    intro m
    induction m with
    | zero => rfl
    | succ m ih =>
      simp only [baseR, ih]
      by_cases hm : m < i
      · rw [h m hm]
      · have e : ltL i m = false := by simp [ltL, hm]
        simp only [e]
        cases wr' m with
        | none => cases wr m with
          | none => rfl
          | some w => cases w <;> rfl
        | some w => cases w <;> (cases wr m with
          | none => rfl
          | some w => cases w <;> rfl)
  intro m
  induction m with
  | zero => exact hb n
  | succ m ih =>
    simp only [SR, ih]
    by_cases hm : m < i
    · rw [h m hm]
    · have e : ltL i m = false := by simp [ltL, hm]
      simp only [e]
      rfl
theorem ltL_succ (i : Nat) : ltL (i + 1) = addL (ltL i) i := by
  funext j
  simp only [ltL, addL]
  by_cases h : j = i
  · subst h; simp
  · rw [if_neg h]
    congr 1
    simp only [eq_iff_iff]
    omega
section
variable (P : Program) (A : Array Oper) (n nb n0 K : Nat) (s0 : List Ob) (ws : List (Nat × TW)) (fr0 : List AV)
def frV (val : Nat → AV) (i : Nat) : List AV := clearMarks (tsOf A i ws) (frAt A fr0 val i)
def svV (wr : Nat → Option HW) (i : Nat) : List Ob := mskS (deadOf nb n0 A i ws) (tsOf A i ws) 0 (SR wr s0 K n (ltL i) n)
def Mt (j : Nat) (w : Option HW) : Prop := match lookN ws j with
  | none => w = none
  | some (.alloc r) => ∃ cs t, w = some (.alloc (nb + r) cs t)
  | some (.store o i) => ∃ ob, w = some (.store (idxOf nb n0 (.store o i)) ob)
  | some (.app t0) => w = some (.app [t0])
def PF (i : Nat) (o : Oper) (val : Nat → AV) (wr : Nat → Option HW) : Prop := Mt nb n0 ws i (wr i) ∧
  ((aWanted A (frV A ws fr0 val i) o = some false ∧ val i = .tuple [] ∧ wr i = none) ∨
  (aWanted A (frV A ws fr0 val i) o = some true ∧ match wr i with
    | none => (val i).refs (bdOf nb K A i ws) = true ∧ HPure P A o (frV A ws fr0 val i) (svV A n nb n0 K s0 ws wr i) (val i)
    | some (.alloc idx cs t) => HNew P A o (frV A ws fr0 val i) nb cs t ∧ val i = .ref idx 0 ∧ nb ≤ idx ∧ idx < nb + K
    | some (.store idx ob) => (val i).refs (bdOf nb K A i ws) = true ∧ belows nb ob.cs = true ∧ HWrite P A o (frV A ws fr0 val i) (svV A n nb n0 K s0 ws wr i) idx ob (val i)
    | some (.app t') => (val i).refs (bdOf nb K A i ws) = true ∧ HApp P A o (frV A ws fr0 val i) t' (val i)))
end
section
variable {P : Program} {A : Array Oper} {n nb n0 K : Nat} {s0 : List Ob} {ws : List (Nat × TW)} {fr0 : List AV}
theorem PF.congr {i : Nat} {o : Oper} {val val' : Nat → AV} {wr wr' : Nat → Option HW} (h : PF P A n nb n0 K s0 ws fr0 i o val wr) (h1 : ∀ j, j ≤ i → val' j = val j) (h2 : ∀ j, j ≤ i → wr' j = wr j) : PF P A n nb n0 K s0 ws fr0 i o val' wr' := by
  have e1 : frV A ws fr0 val' i = frV A ws fr0 val i := by unfold frV; rw [frAt_congr i fun j hj => h1 j (by omega)]
  have e2 : svV A n nb n0 K s0 ws wr' i = svV A n nb n0 K s0 ws wr i := by unfold svV; rw [SR_wcongr (wr := wr) (wr' := wr') fun j hj => h2 j (by omega)]
  unfold PF at h ⊢
  rw [h2 i (Nat.le_refl _), h1 i (Nat.le_refl _), e1, e2]
  exact h
theorem ancq_iff (hlt : ∀ (f j i : Nat), ancB A f j i = true → i < j) (i j : Nat) : ancq A i j = true ↔ ancB A A.size i j = true := by
  unfold ancq
  constructor
  · intro h; rw [Bool.and_eq_true] at h; exact h.2
  · intro h
    rw [Bool.and_eq_true]
    exact ⟨by rw [Nat.blt_eq]; exact hlt _ _ _ h, h⟩
theorem HF3_of {val : Nat → AV} {wr : Nat → Option HW} {L : Nat} (hok : drawOK A n L = true) (hws : wsOK A n nb n0 ws = true) (hpf : ∀ i, i < n → ∀ o, A[i]? = some o → PF P A n nb n0 K s0 ws fr0 i o val wr) (hwr : ∀ j, n ≤ j → wr j = none) :
    ∀ i, i < n → ∀ o, A[i]? = some o → HF3 P A n nb K s0 wr fr0 val (fun i => tsOf A i ws) (svV A n nb n0 K s0 ws wr) i o := by
  obtain ⟨c1, c2, c3, c4, c5⟩ := drawOK_spec hok
  have hlt := ancB_lt (A := A) fun i o h => (c2 i o h).1
  have hq := ancq_iff hlt
  have hqf : ∀ i j, ancB A A.size i j = false → ancq A i j = false := fun i j h => by
    cases hh : ancq A i j with
    | false => rfl
    | true => rw [(hq i j).1 hh] at h; cases h
  have hmt : ∀ j, j < n → Mt nb n0 ws j (wr j) := fun j hj => (hpf j hj A[j] (Array.getElem?_eq_getElem (by omega))).1
  -- an operation that turns something is listed
  have hl : ∀ j W, wr j = some W → ∃ w, (j, w) ∈ ws ∧ (match W, w with
      | .alloc idx cs t, .alloc r => idx = nb + r
      | .store idx ob, .store o i => idx = idxOf nb n0 (.store o i)
      | .app ts, .app t0 => ts = [t0]
      | _, _ => False) := by
    intro j W hW
    have hj : j < n := by
      rcases Nat.lt_or_ge j n with h | h
      · exact h
      · rw [hwr j h] at hW; cases hW
    have hm := hmt j hj
    unfold Mt at hm
    rw [hW] at hm
    cases hlk : lookN ws j with
    | none => rw [hlk] at hm; cases hm
    | some w =>
      rw [hlk] at hm
      refine ⟨w, lookN_mem hlk, ?_⟩
      cases w with
      | alloc r => obtain ⟨cs, t, e⟩ := hm; cases e; rfl
      | store o i => obtain ⟨ob, e⟩ := hm; cases e; rfl
      | app t0 => cases hm; rfl
  have hpair : ∀ {j i : Nat} {w w' : TW}, (j, w) ∈ ws → (i, w') ∈ ws → wsPair nb n0 A j i w w' = true := by
    intro j i w w' h1 h2
    have := List.all_eq_true.1 hws _ h1
    rw [Bool.and_eq_true] at this
    exact List.all_eq_true.1 this.2 _ h2
  have hts : ∀ i j, j ≠ i → ancB A A.size j i = false → ∀ t ∈ HW.ts (wr j), t ∈ tsOf A i ws := by
    intro i j hji ha t ht
    cases hW : wr j with
    | none => rw [hW] at ht; cases ht
    | some W =>
      obtain ⟨w, hw, hm⟩ := hl j W hW
      rw [hW] at ht
      cases W with
      | app ts =>
        cases w with
        | app t0 => subst hm; exact ts_mem hw hji (hqf _ _ ha) t ht
        | _ => exact hm.elim
      | _ => cases ht
  have hchain : ∀ i, (∃ W, wr i = some W ∧ ∀ idx cs t, W ≠ .alloc idx cs t) → ∀ j, i < j → j < n → (∀ s, effS (wr j) s = s) ∨ ancB A A.size j i = true := by
    rintro i ⟨W, hW, hna⟩ j hij hj
    cases hV : wr j with
    | none => exact .inl fun _ => rfl
    | some V =>
      obtain ⟨w, hw, hm⟩ := hl i W hW
      obtain ⟨v, hv, hm2⟩ := hl j V hV
      have hp := hpair hw hv
      have hbe : Nat.beq i j = false := by
        cases hb : Nat.beq i j with
        | false => rfl
        | true => have := Nat.eq_of_beq_eq_true hb; omega
      have fin : (Nat.beq i j || ancq A j i || ancq A i j) = true → ancB A A.size j i = true := by
        intro h
        rw [hbe, Bool.false_or, Bool.or_eq_true] at h
        rcases h with h | h
        · exact (hq _ _).1 h
        · have := hlt _ _ _ ((hq _ _).1 h); omega
      cases V with
      | alloc => exact .inl fun _ => rfl
      | store idx ob =>
        right
        cases v with
        | store o x =>
          cases W with
          | alloc idx cs t => exact absurd rfl (hna _ _ _)
          | store => cases w with
            | store => exact fin hp
            | _ => exact hm.elim
          | app => cases w with
            | app => exact fin hp
            | _ => exact hm.elim
        | _ => exact hm2.elim
      | app ts =>
        right
        cases v with
        | app t0 =>
          cases W with
          | alloc idx cs t => exact absurd rfl (hna _ _ _)
          | store => cases w with
            | store => exact fin hp
            | _ => exact hm.elim
          | app => cases w with
            | app => exact fin hp
            | _ => exact hm.elim
        | _ => exact hm2.elim
  have hbd : ∀ (i : Nat) (x : AV), (∀ idx cs t, wr i ≠ some (.alloc idx cs t)) → x.refs (bdOf nb K A i ws) = true → Bd A nb K wr i x := by
    intro i x hna hx
    obtain ⟨h1, h2, h3⟩ := bdOf_le (nb := nb) (K := K) (A := A) (i := i) ws
    refine ⟨_, h1, h2, hx, fun j idx cs t hj => ?_⟩
    obtain ⟨w, hw, hm⟩ := hl j _ hj
    have hji : j ≠ i := fun e => by subst e; exact hna _ _ _ hj
    cases w with
    | alloc r =>
      simp only at hm
      subst hm
      rcases h3 j r hw hji with h | h
      · exact .inl h
      · exact .inr ((hq _ _).1 h)
    | _ => exact hm.elim
  intro i hi o ho
  obtain ⟨_, hw⟩ := hpf i hi o ho
  refine ⟨?_, fun j hj hji ha => hts i j hji ha, ?_⟩
  · intro L hadm
    refine (SR_rel ?_ n (Nat.le_refl _)).msk
    intro j hj hne
    have hji : j ≠ i := by
      intro e; subst e
      rw [hadm.un] at hne
      simp [ltL] at hne
    have h1 : ancB A A.size i j = false := by
      cases hh : ancB A A.size i j with
      | false => rfl
      | true =>
        exfalso
        apply hne
        rw [hadm.anc j hh]
        simp [ltL, hlt _ _ _ hh]
    have h2 : ancB A A.size j i = false := by
      cases hh : ancB A A.size j i with
      | false => rfl
      | true =>
        exfalso
        apply hne
        rw [hadm.dec j hh]
        have := hlt _ _ _ hh
        simp only [ltL]
        symm
        simp
        omega
    cases hW : wr j with
    | none => trivial
    | some W =>
      obtain ⟨w, hw, hm⟩ := hl j W hW
      have hd := dead_mem (nb := nb) (n0 := n0) hw hji (hqf _ _ h1) (hqf _ _ h2)
      cases W with
      | alloc idx cs t =>
        cases w with
        | alloc r => simp only at hm; subst hm; exact hd _ (by simp [TW.dead])
        | _ => exact hm.elim
      | store idx ob =>
        cases w with
        | store o x => simp only at hm; subst hm; exact hd _ (by cases o <;> simp [TW.dead, idxOf])
        | _ => exact hm.elim
      | app ts =>
        cases w with
        | app t0 => simp only at hm; subst hm; exact ts_mem hw hji (hqf _ _ h2)
        | _ => exact hm.elim
  · rcases hw with hw | ⟨hw1, hw2⟩
    · exact .inl hw
    · refine .inr ⟨hw1, ?_⟩
      cases hW : wr i with
      | none => rw [hW] at hw2; exact ⟨hbd i _ (by rw [hW]; intro _ _ _ h; cases h) hw2.1, hw2.2⟩
      | some W =>
        rw [hW] at hw2
        cases W with
        | alloc idx cs t =>
          obtain ⟨k1, k3, k4, k5⟩ := hw2
          obtain ⟨w, hwm, hm⟩ := hl i _ hW
          refine ⟨k1, k3, k4, k5, ?_, ?_⟩
          · intro j idx' cs' t' hji hj
            obtain ⟨w', hwm', hm'⟩ := hl j _ hj
            cases w with
            | alloc r =>
              cases w' with
              | alloc r' =>
                have hp := hpair hwm hwm'
                simp only [wsPair, Bool.or_eq_true, Bool.not_eq_true'] at hp
                simp only at hm hm'
                intro e
                rcases hp with hp | hp
                · exact hji (Nat.eq_of_beq_eq_true hp).symm
                · have : r = r' := by omega
                  subst this
                  rw [Nat.beq_refl] at hp
                  cases hp
              | _ => exact hm'.elim
            | _ => exact hm.elim
          · intro j ob hj
            obtain ⟨w', hwm', hm'⟩ := hl j _ hj
            cases w with
            | alloc r =>
              cases w' with
              | store o x =>
                have hp := hpair hwm hwm'
                simp only [wsPair, Bool.or_eq_true, Bool.not_eq_true'] at hp
                simp only at hm hm'
                rcases hp with hp | hp
                · exfalso
                  have : ((TW.store o x).dead nb n0).contains (nb + r) = true := by
                    rw [← hm, hm']
                    cases o <;> simp [TW.dead, idxOf]
                  rw [this] at hp
                  cases hp
                · exact (hq _ _).1 hp
              | _ => exact hm'.elim
            | _ => exact hm.elim
        | store idx ob => exact ⟨hbd i _ (by rw [hW]; intro _ _ _ h; cases h) hw2.1, hw2.2.1, hw2.2.2, hchain i ⟨_, hW, fun _ _ _ h => by cases h⟩⟩
        | app t' => exact ⟨hbd i _ (by rw [hW]; intro _ _ _ h; cases h) hw2.1, hw2.2, hchain i ⟨_, hW, fun _ _ _ h => by cases h⟩⟩
end
end
end Go.Proofs.YtmacghaihlfcpaaGreat.Abs

namespace Go.Proofs.YtmacghaihlfcpaaGreat.Abs
noncomputable section
open Go Go.ChangeShapes Go.WideShapes Go.ChangeAt Go.RowKit
set_option linter.unusedVariables false
set_option linter.unusedSimpArgs false
section
variable {β : Type} {sc : Sc} {cf : Cfg} {b : β}
theorem tclear_bool {ts : List Nat} {v : TV} {t : Bool} (h : tclear ts v = .bool t) : v = .bool t := by
  cases v <;> simp only [tclear, tmark] at h <;> try exact h
  all_goals
    rename_i g
    cases g <;> simp only [tmark] at h <;> (try split at h) <;> simp [tplain] at h
theorem tclears_getD (ts : List Nat) (fr : List TV) (t : Nat) : (tclears ts fr).getD t .undef = tclear ts (fr.getD t .undef) := by
  unfold tclears
  rw [List.getD_eq_getElem?_getD, List.getElem?_map, List.getD_eq_getElem?_getD]
  cases fr[t]? with
  | none => rfl
  | some x => rfl
mutual
theorem refs_mono {n m : Nat} (h : n ≤ m) : ∀ (a : AV), a.refs n = true → a.refs m = true
  | .undef, _ => rfl
  | .int .., _ => rfl
  | .bool _, _ => rfl
  | .str _, _ => rfl
  | .nilp, _ => rfl
  | .nilf, _ => rfl
  | .mapn, _ => rfl
  | .ref i o, hb => by simp only [AV.refs, decide_eq_true_eq] at hb ⊢; omega
  | .arr i o, hb => by simp only [AV.refs, decide_eq_true_eq] at hb ⊢; omega
  | .mapr i, hb => by simp only [AV.refs, decide_eq_true_eq] at hb ⊢; omega
  | .eptr cs o, hb => by simp only [AV.refs] at hb ⊢; exact belows_mono h cs hb
  | .list cs n g, hb => by simp only [AV.refs] at hb ⊢; exact belows_mono h cs hb
  | .func f cs, hb => by simp only [AV.refs] at hb ⊢; exact belows_mono h cs hb
  | .agg cs, hb => by simp only [AV.refs] at hb ⊢; exact belows_mono h cs hb
  | .tuple cs, hb => by simp only [AV.refs] at hb ⊢; exact belows_mono h cs hb
theorem belows_mono {n m : Nat} (h : n ≤ m) : ∀ (l : List AV), belows n l = true → belows m l = true
  | [], _ => rfl
  | a :: l, hb => by
    simp only [belows, Bool.and_eq_true] at hb ⊢
    exact ⟨refs_mono h a hb.1, belows_mono h l hb.2⟩
end
theorem HPure_lookup {P : Program} {A : Array Oper} {o : Oper} {fr : List AV} {sv : List Ob} {v : AV} {t : TypeId} {x y : Operand} {ok : Bool} (ho : o.op = .lookup t x y ok) (h : aLookup P sv t (aEval fr x) (aEval fr y) ok = some v) : HPure P A o fr sv v := by
  have h' : aLookup P sv t (aEval (aForget (readsOf A o) fr) x) (aEval (aForget (readsOf A o) fr) y) ok = some v := by
    rw [aEval_forget (by simp [ho, Op.operands]), aEval_forget (by simp [ho, Op.operands])]
    exact h
  intro M G w a s hF hs hS hf K Q hK
  obtain ⟨cv, h1, h2⟩ := Step_lookup ho h' M G w a hS hf
  unfold Oper.wp
  rw [h1, Oper.upon_value]
  exact hK cv G w (Ext.refl _ _ _) hs h2
theorem execH3_sound (hC : CallSound sc.P cf.C) {A : Array Oper} {o : Oper} {frv fr : List TV} {sv : List TOb} {k : List TV → TV → Option β} (hfr : ∀ (ct : Nat) (t : Bool), frv.getD ct .undef = .bool t → dn (fr.getD ct .undef) = .bool t)
    (h : execH3 sc cf o.op frv sv fr k = some b) : ∃ fr' v, k fr' v = some b ∧ dns fr' = dns fr ∧ HPure sc.P A o (dns frv) (dnS sv) (dn v) := by
  have viaPure : (match tPure sc.P sc.wrap frv sv o.op with
      | some (g, v) => cond g (k fr v) none
      | none => none) = some b → ∃ fr' v, k fr' v = some b ∧ dns fr' = dns fr ∧ HPure sc.P A o (dns frv) (dnS sv) (dn v) := by
    intro h
    split at h
    · rename_i g v h1
      obtain ⟨h2, h3⟩ := cond_some h
      obtain ⟨a, h4, h5⟩ := tPure_spec h1 h2
      exact ⟨fr, v, h3, rfl, (HPure_pure (A := A) h4).weaken h5⟩
    · cases h
  obtain ⟨dst, op, type, pos, after, guard⟩ := o
  unfold execH3 at h
  dsimp only at h
  split at h
  · rename_i c x y
    have pick : ∀ {t : Bool} {fr2 : List TV} {z : Operand}, dns fr2 = dns fr → aEval (dns frv) c = .bool t → z = (if t = true then x else y) → k fr2 (tEval frv z) = some b →
        ∃ fr' v, k fr' v = some b ∧ dns fr' = dns fr ∧ HPure sc.P A ⟨dst, .pick c x y, type, pos, after, guard⟩ (dns frv) (dnS sv) (dn v) := by
      intro t fr2 z h1 h2 h3 h4
      refine ⟨fr2, _, h4, h1, HPure_pure ?_⟩
      rw [dn_tEval]
      simp only [aPureV, h2]
      subst h3
      cases t <;> rfl
    split at h
    · rename_i hc
      exact pick (t := true) rfl (by rw [← dn_tEval, hc]; rfl) rfl h
    · rename_i hc
      exact pick (t := false) rfl (by rw [← dn_tEval, hc]; rfl) rfl h
    · rename_i t hc
      split at h
      · rename_i ct
        have hc' : dn (fr.getD ct .undef) = .bool t := hfr ct t ((nthR_eq _ _).symm.trans hc)
        simp only [setK_eq] at h
        cases t with
        | true => exact pick (t := true) (dns_set_same (by rw [hc']; rfl)) (by rw [← dn_tEval, hc]; rfl) rfl h
        | false => exact pick (t := false) (dns_set_same (by rw [hc']; rfl)) (by rw [← dn_tEval, hc]; rfl) rfl h
      · cases h
    · cases h
  · rename_i c
    split at h
    · rename_i x hc
      split at h
      · rename_i f fcs hf
        rw [forceL_eq] at h
        have hf' : aEval (dns frv) x = .func (.func f) (dns fcs) := by rw [← dn_tEval, hf]; rfl
        have hargs : dns ((c.args.toList.map fun y => tsoft (tEval frv y)) ++ fcs) = (c.args.toList.map fun y => (aEval (dns frv) y).soft) ++ dns fcs := by rw [dns_app, ← argsOf_eq]
        split at h
        · rename_i hfree
          obtain ⟨hen, r, s', hok, hk'⟩ := hC f β _ [] _ b h
          split at hk'
          · rename_i hr
            have hfa := tfrees_spec _ hfree
            rw [hargs] at hok hfa
            refine ⟨fr, _, hk', rfl, ?_⟩
            rw [dn_tplain]
            exact HPure_callP rfl hc hf' hen (hok.weaken (AV.plain_wk _)) hfa (free_plain (tfree_spec r hr)) (AV.mark_plain _)
          · cases hk'
        · rw [forceL_eq] at h
          split at h
          · rename_i hfree
            obtain ⟨hen, r, s', hok, hk'⟩ := hC f β _ [] _ b h
            split at hk'
            · rename_i hr
              refine ⟨fr, _, hk', rfl, ?_⟩
              rw [dn_tplain]
              refine HPure_callR rfl hc hf' hen (hok.weaken (AV.plain_wk _)) (fun M G w cv hS hcv => ?_) (flat_plain (tflat_spec r hr)) (AV.mark_plain _)
              rw [← hargs] at hcv
              exact snaps_spec hS 4 _ cv hfree hcv
            · cases hk'
          · cases h
      · cases h
    · exact viaPure h
  · rename_i t x y ok
    split at h
    · rename_i v hv
      refine ⟨fr, v, h, rfl, HPure_lookup rfl ?_⟩
      rw [← dn_tEval, ← dn_tEval]
      exact tLookup_spec hv
    · cases h
  · exact viaPure h
theorem HApp.more {P : Program} {A : Array Oper} {o : Oper} {fr : List AV} {v : AV} (h : HApp P A o fr [] v) (ts : List Nat) : HApp P A o fr ts v :=
  fun M G w a s hF hS hf K Q hK => h M G w a s hF hS hf K Q fun cv G' w' h1 h2 h3 => hK cv G' w' (h1.mono fun _ _ h => absurd h.2 (by simp)) (by rw [clearStore_nil] at h2; exact h2.weaken (clearStore_wk _ _)) h3
theorem HApp_none {P : Program} {A : Array Oper} {o : Oper} {fr : List AV} {c : Call} {x y : Operand} {t e : TypeId} {cs : List AV} {n size : Nat} {g g2 : Tag} (ho : o.op = .call c) (hc : c.callee = .builtin .append) (ha : c.args = #[x, y]) (ht : c.argTypes = #[t, t]) (he : aElem P t = some (e, size))
    (hx : aEval fr x = .list cs n g) (hy : aEval fr y = .list [] 0 g2) : HApp P A o fr [] (.list cs n g) := by
  intro M G w a s hF hS hf K Q hK
  have hm : ∀ z, z = x ∨ z = y → aEval (aForget (readsOf A o) fr) z = aEval fr z := fun z hz => aEval_forget (by simp [ho, Op.operands, Call.operands, ha]; rcases hz with rfl | rfl <;> simp)
  obtain ⟨cv, h1, h2⟩ := Step_append_none (s := s) ho hc ha ht he ((hm x (.inl rfl)).trans hx) ((hm y (.inr rfl)).trans hy) M G w a hS hf
  unfold Oper.wp
  rw [h1, Oper.upon_value]
  exact hK cv G w (Ext.refl _ _ _) (by rw [clearStore_nil]; exact hS) (by rw [hm x (.inl rfl), hx] at h2; exact h2)
theorem Sim.reTag {M : Nat → Prop} {G : Gh} {s : List Ob} {w : World} (h : Sim M G s w) (M2 : Nat → Prop) (ρ : Nat → Nat) (hk : ∀ (i : Nat) (o : Ob), s[i]? = some o → ∀ a ∈ o.cs, ∀ t, a.mark = some t → ∀ g, M2 g → G.tg g ≠ t) : Sim M (G.ren M2 ρ) s w := by
  refine ⟨h.n, h.inj, h.own, h.live, h.lt, fun i o hi hl => ?_⟩
  obtain ⟨vs, h1, h2, h3⟩ := h.at_ i o hi hl
  refine ⟨vs, h1, h2, fun k a v ha hv => ⟨VR0.mono (Ext.ren G w M2 ρ) a v (h3 k a v ha hv).1, ?_⟩⟩
  have ho := (h3 k a v ha hv).2
  cases a with
  | list cs n g =>
    cases g with
    | own t e z =>
      simp only [OwnC] at ho ⊢
      rcases ho with ho | ⟨q, cap, cur, k1, k2, k3, k4, k5, k6, k7⟩
      · exact .inl ho
      · refine .inr ⟨q, cap, cur, k1, k2, k3, k4, k5, ?_, k7⟩
        simp only [Gh.ren]
        rw [if_neg fun hh => hk i o hi _ (List.mem_of_getElem? ha) t rfl q hh k6]
        exact k6
    | _ => exact OwnC.of_plain rfl
  | _ => exact OwnC.of_plain rfl
/-- a row by another mark -/
theorem HApp_none_ren {P : Program} {A : Array Oper} {o : Oper} {fr : List AV} {c : Call} {x y : Operand} {t e : TypeId} {cs : List AV} {n size m : Nat} {g g2 : Tag} (d : Nat) (ho : o.op = .call c) (hc : c.callee = .builtin .append) (ha : c.args = #[x, y]) (ht : c.argTypes = #[t, t]) (he : aElem P t = some (e, size))
    (hx : aEval fr x = .list cs n g) (hy : aEval fr y = .list [] 0 g2) (hmk : ∀ q, (AV.list cs n g).mark = some q → q = m) : HApp P A o fr [m] ((AV.list cs n g).ren fun _ => d) := by
  intro M G w a s hF hS hf K Q hK
  have hm : ∀ z, z = x ∨ z = y → aEval (aForget (readsOf A o) fr) z = aEval fr z := fun z hz => aEval_forget (by simp [ho, Op.operands, Call.operands, ha]; rcases hz with rfl | rfl <;> simp)
  obtain ⟨cv, h1, h2⟩ := Step_append_none (s := s) ho hc ha ht he ((hm x (.inl rfl)).trans hx) ((hm y (.inr rfl)).trans hy) M G w a hS hf
  rw [hm x (.inl rfl), hx] at h2
  unfold Oper.wp
  rw [h1, Oper.upon_value]
  have hE := Ext.ren G w (fun b => M b ∧ G.tg b ∈ [m]) (fun _ => d)
  refine hK cv (G.ren (fun b => M b ∧ G.tg b ∈ [m]) fun _ => d) w hE ?_ ?_
  · refine (hS.weaken (clearStore_wk [m] s)).reTag _ _ fun i o hi b hb q hq g hg => ?_
    unfold clearStore at hi
    rw [List.getElem?_map] at hi
    obtain ⟨o0, _, rfl⟩ := map_some_eq hi
    obtain ⟨b0, _, rfl⟩ := List.mem_map.1 hb
    have h4 := clearMark_mark hq
    intro h5
    rw [← h5] at h4
    simp only [List.contains_eq_mem, decide_eq_false_iff_not] at h4
    exact h4 hg.2
  · have h3 := h2.2
    refine ⟨VR0.mono hE _ _ ?_, ?_⟩
    · have h4 := h2.1
      cases g with
      | own t0 e0 z0 =>
        simp only [AV.ren, VR0] at h4 ⊢
        obtain ⟨A, cap, k1, k2, _, k4⟩ := h4
        exact ⟨A, cap, k1, k2, (fun h => by cases h), k4⟩
      | _ => exact h4
    cases g with
    | own t0 e0 z0 =>
      have := hmk t0 rfl
      subst this
      simp only [AV.ren, OwnC] at h3 ⊢
      rcases h3 with h3 | ⟨q, cap, cur, k1, k2, k3, k4, k5, k6, k7⟩
      · exact .inl h3
      · exact .inr ⟨q, cap, cur, k1, k2, k3, k4, k5, by simp only [Gh.ren]; rw [if_pos ⟨k2, by simp [k6]⟩], k7⟩
    | _ => exact OwnC.of_plain rfl
theorem dn_retag (d : Nat) (v : TV) : dn (tren (fun _ => d) v) = (dn v).ren fun _ => d := dn_tren _ v
theorem tAppend_app {P : Program} {A : Array Oper} {o : Oper} {fr fr' : List TV} {s s' : List TOb} {c : Call} {x y : Operand} {t : TypeId} {d d2 m : Nat} {g : Bool} {v : TV} (ho : o.op = .call c) (hc : c.callee = .builtin .append) (ha : c.args = #[x, y]) (ht : c.argTypes = #[t, t])
    (h : tAppend P d fr s t (tEval fr x) (tEval fr y) = some (g, fr', v, s')) (hg : gdP g) (hm : tmark v = some m) : HApp P A o (dns fr) [m] (dn (tren (fun _ => d2) v)) := by
  unfold tAppend at h
  split at h
  · cases h
  rename_i e size he
  split at h
  · rename_i gy hy
    have hy' : aEval (dns fr) y = .list [] 0 gy := by rw [← dn_tEval, hy]; rfl
    split at h
    · rename_i ty xs gx hx
      cases h
      have hx' : aEval (dns fr) x = .list (xs.flatMap (cellsOf ty)) xs.length gx := by rw [← dn_tEval, hx]; rfl
      rw [hx] at hm ⊢
      rw [dn_retag]
      exact HApp_none_ren d2 ho hc ha ht he hx' hy' fun q hq => by
        have e : (dn (.tl ty xs gx)).mark = some q := hq
        rw [dn_mark, hm] at e
        exact (Option.some.inj e).symm
    · rename_i gx hx
      cases h
      have hx' : aEval (dns fr) x = .list [] 0 gx := by rw [← dn_tEval, hx]; rfl
      rw [hx] at hm ⊢
      rw [dn_retag]
      exact HApp_none_ren d2 ho hc ha ht he hx' hy' fun q hq => by
        have e : (dn (.ll [] 0 gx)).mark = some q := hq
        rw [dn_mark, hm] at e
        exact (Option.some.inj e).symm
    · cases h
  · rename_i ty ys gy hy
    have hy' : aEval (dns fr) y = .list (ys.flatMap (cellsOf ty)) ys.length gy := by rw [← dn_tEval, hy]; rfl
    split at h
    · rename_i hcnd
      obtain ⟨hs, h0⟩ := hcnd
      split at h
      · rename_i xs t0 hown
        cases h
        have ht0 : t0 = m := by simpa [tmark] using hm
        subst ht0
        have hfit := fits_of h0 (by simpa only [gdP, fits_iff] using hg)
        obtain ⟨xv, hxv⟩ : ∃ xv, tEval fr x = xv := ⟨_, rfl⟩
        have hx' : aEval (dns fr) x = dn xv := by rw [← dn_tEval, hxv]
        rw [hxv] at hown
        have own : ∀ {zs : List (El ty)}, aEval (dns fr) x = .list (zs.flatMap (cellsOf ty)) zs.length (.own t0 e size) → fitsB P e size (zs.length + ys.length) = true → HApp P A o (dns fr) [t0] (dn (tren (fun _ => d2) (.tl ty (zs ++ ys) (.own t0 e size)))) := by
          intro zs hx2 hfit
          show HApp P A o (dns fr) [t0] (.list ((zs ++ ys).flatMap (cellsOf ty)) (zs ++ ys).length (.own d2 e size))
          rw [List.flatMap_append, List.length_append]
          rcases Nat.eq_zero_or_pos ys.length with hz | hz
          · have hnil := List.eq_nil_of_length_eq_zero hz
            subst hnil
            have := HApp_none_ren (A := A) (m := t0) d2 ho hc ha ht he hx2 hy' fun q hq => (Option.some.inj hq).symm
            rw [List.flatMap_nil, List.append_nil]
            exact this
          · exact HApp_own d2 ho hc ha ht he hx2 hy' hz (by rw [flat_len, hs]) (flat_one ys) hfit
        have full : ∀ {zs : List (El ty)}, aEval (dns fr) x = .list (zs.flatMap (cellsOf ty)) zs.length .full → fitsB P e size (zs.length + ys.length) = true → HApp P A o (dns fr) [t0] (dn (tren (fun _ => d2) (.tl ty (zs ++ ys) (.own t0 e size)))) := by
          intro zs hx2 hfit
          show HApp P A o (dns fr) [t0] (.list ((zs ++ ys).flatMap (cellsOf ty)) (zs ++ ys).length (.own d2 e size))
          rw [List.flatMap_append, List.length_append]
          rcases Nat.eq_zero_or_pos ys.length with hz | hz
          · have hnil := List.eq_nil_of_length_eq_zero hz
            subst hnil
            have := ((HApp_none (A := A) ho hc ha ht he hx2 hy').more [t0]).weaken (WkM.full (t := d2) (e := e) (z := size) (by rw [flat_len, hs]))
            rw [List.flatMap_nil, List.append_nil]
            exact this
          · exact (HApp_full d2 ho hc ha ht he hx2 hy' hz (by rw [flat_len, hs]) (by rw [flat_len, hs]) (flat_one ys) hfit).more _
        unfold tOwned at hown
        split at hown
        · split at hown
          · rename_i hc2
            obtain ⟨rfl, rfl⟩ := hc2
            obtain ⟨zs, h1, h2⟩ := map_some_eq hown
            cases h2
            obtain ⟨e1, rfl⟩ := castTo_some h1
            subst e1
            exact own hx' hfit
          · cases hown
        · obtain ⟨zs, h1, h2⟩ := map_some_eq hown
          cases h2
          obtain ⟨e1, rfl⟩ := castTo_some h1
          subst e1
          exact full hx' hfit
        · cases hown
          exact full (zs := []) hx' hfit
        · split at hown
          · rename_i hc2
            obtain ⟨rfl, rfl⟩ := hc2
            cases hown
            exact own (zs := []) hx' hfit
          · cases hown
        · cases hown
      · cases h
    · cases h
  · cases h
theorem tAppX_app {P : Program} {A : Array Oper} {o : Oper} {fr fr' : List TV} {s s' : List TOb} {c : Call} {x y : Operand} {t : TypeId} {d d2 m : Nat} {g : Bool} {v : TV} (ho : o.op = .call c) (hc : c.callee = .builtin .append) (ha : c.args = #[x, y]) (ht : c.argTypes = #[t, t])
    (h : tAppX P d fr s t (tEval fr x) (tEval fr y) = some (g, fr', v, s')) (hg : gdP g) (hm : tmark v = some m) : HApp P A o (dns fr) [m] (dn (tren (fun _ => d2) v)) := by
  unfold tAppX at h
  split at h
  · rename_i r hr
    cases h
    exact tAppend_app ho hc ha ht hr hg hm
  unfold tAppL at h
  split at h
  case h_2 => cases h
  rename_i e size cs n gx cs2 m2 gy he hx hy
  have hx' : aEval (dns fr) x = .list (dns cs) n gx := by rw [← dn_tEval]; exact tListOf_spec hx
  have hy' : aEval (dns fr) y = .list (dns cs2) m2 gy := by rw [← dn_tEval]; exact tListOf_spec hy
  split at h
  case isFalse => cases h
  rename_i hcnd
  obtain ⟨⟨h0, h1, h2⟩, h3⟩ := hcnd
  have h1' : (dns cs2).length = m2 * size := by rw [dns_length]; exact h1
  have h2' : (dns cs2).all AV.one = true := by rw [tones_spec]; exact h2
  split at h
  · rename_i t0 e' z'
    split at h
    · rename_i hc2
      obtain ⟨rfl, rfl⟩ := hc2
      cases h
      have ht0 : t0 = m := by simpa [tmark] using hm
      subst ht0
      have hfit := fits_of h3 (by simpa only [gdP, fits_iff] using hg)
      simp only [tren, dn, dns_app]
      exact HApp_own d2 ho hc ha ht he hx' hy' h0 h1' h2' hfit
    · cases h
  · split at h
    · rename_i hl
      cases h
      have ht0 : d = m := by simpa [tmark] using hm
      subst ht0
      have hfit := fits_of h3 (by simpa only [gdP, fits_iff] using hg)
      simp only [tren, dn, dns_app]
      exact (HApp_full d2 ho hc ha ht he hx' hy' h0 (by rw [dns_length]; exact hl) h1' h2' hfit).more _
    · cases h
  · cases h
theorem HStore_of {P : Program} {A : Array Oper} {o : Oper} {fr : List TV} {sv s' : List TOb} {t : TypeId} {x y : Operand} {g : Bool} {idx : Nat} (ho : o.op = .store t x y) (h : tStoreAt P sv t (tEval fr x) (tEval fr y) = some (g, s')) (hg : gdP g) (ht : tgtOf (tEval fr x) = some idx) (hi : idx < s'.length) :
    HStore P A o (dns fr) (dnS sv) idx (dnO (obAt s' idx)) := by
  have hm : ∀ z, z = x ∨ z = y → aEval (aForget (readsOf A o) (dns fr)) z = dn (tEval fr z) := fun z hz => by
    rw [aEval_forget (by simp [ho, Op.operands]; rcases hz with rfl | rfl <;> simp), dn_tEval]
  obtain ⟨idx', h1, h2⟩ := tStoreAt_core ho (hm x (.inl rfl)) (hm y (.inr rfl)) h hg
  rw [ht] at h1
  cases h1
  intro M G w a hS hf
  obtain ⟨w', k1, k2, k3, k4, k5, k6⟩ := h2 M G w a hS hf
  exact ⟨w', k1, k2, k3, k4, k5, _, k6, by rw [dnS_get, obAt_eq _ _ hi]; rfl⟩
theorem putB_some {γ : Type} {nb : Nat} {fr : List TV} {d : Option Nat} {v : TV} {k : List TV → Option γ} {c : γ} (h : putB nb fr d v k = some c) : tbelow nb v = true ∧ k (tPut fr d v) = some c := by
  unfold putB at h
  rw [forceV_eq] at h
  split at h
  · rename_i hb; rw [putK_eq] at h; exact ⟨hb, h⟩
  · cases h
theorem tsolid_spec (v : TV) (h : tsolid v = true) : (dn v).solid = true := by
  unfold tsolid at h
  split at h
  · rfl
  · exact free_solid _ (tfree_spec v h)
theorem tsolids_spec : ∀ (l : List TV), l.all tsolid = true → solids (dns l) = true
  | [], _ => rfl
  | v :: l, h => by
    simp only [List.all_cons, Bool.and_eq_true] at h
    simp only [dns, solids, Bool.and_eq_true]
    exact ⟨tsolid_spec v h.1, tsolids_spec l h.2⟩
theorem plainC_spec : ∀ (l : List TV), l.all plainC = true → solids (dns l) = true ∧ ∀ a ∈ dns l, a.mark = none
  | [], _ => ⟨rfl, fun a h => by cases h⟩
  | v :: l, h => by
    simp only [List.all_cons, Bool.and_eq_true, plainC] at h
    obtain ⟨h1, h2⟩ := plainC_spec l h.2
    refine ⟨by simp only [dns, solids, Bool.and_eq_true]; exact ⟨tsolid_spec v h.1.1, h1⟩, fun a ha => ?_⟩
    simp only [dns, List.mem_cons] at ha
    rcases ha with rfl | ha
    · rw [dn_mark]; simpa using h.1.2
    · exact h2 a ha
theorem onlyS_get {idx : Nat} : ∀ (i : Nat) (s : List TOb) (k : Nat), (onlyS idx i s)[k]? = (s[k]?).map fun o => if i + k = idx then o else .cells [] 0 false
  | _, [], k => by simp [onlyS]
  | i, o :: s, 0 => by
    simp only [onlyS, List.getElem?_cons_zero, Option.map_some, Nat.add_zero]
    cases h : Nat.beq i idx with
    | true => rw [if_pos (Nat.eq_of_beq_eq_true h)]
    | false => rw [if_neg (Nat.ne_of_beq_eq_false h)]
  | i, o :: s, k + 1 => by
    simp only [onlyS, List.getElem?_cons_succ]
    rw [onlyS_get (i + 1) s k]
    rw [show i + 1 + k = i + (k + 1) by omega]
theorem onlyS_length {idx : Nat} : ∀ (i : Nat) (s : List TOb), (onlyS idx i s).length = s.length
  | _, [] => rfl
  | i, o :: s => by simp only [onlyS, List.length_cons, onlyS_length (i + 1) s]
theorem solid_plain {a : AV} (h : a.solid = true) : a.plain.solid = true := by
  unfold AV.plain
  split
  · simpa only [AV.solid] using h
  · exact h
def plainS (s : List Ob) : List Ob := s.map fun o => { o with cs := o.cs.map AV.plain }
theorem plainS_wk (s : List Ob) : WkS s (plainS s) := by
  refine ⟨by simp [plainS], fun i o o' h h' => ?_⟩
  unfold plainS at h'
  rw [List.getElem?_map, h] at h'
  cases h'
  refine fun hl => ⟨rfl, hl, by simp, fun k a a' ha ha' => ?_⟩
  rw [List.getElem?_map, ha] at ha'
  cases ha'
  exact fun M G w v h => ⟨h.1.plain, OwnC.of_plain (AV.mark_plain a)⟩
theorem dnS_plainO (s : List TOb) : dnS (s.map tplainO) = plainS (dnS s) := by
  unfold dnS plainS
  rw [List.map_map, List.map_map]
  apply List.map_congr_left
  intro o _
  cases o with
  | cells cs t l =>
    simp only [Function.comp, tplainO, dnO, dns_map]
    congr 1
    rw [List.map_map, List.map_map]
    exact List.map_congr_left fun a _ => dn_tplain a
  | tarr ty xs t l =>
    simp only [Function.comp, tplainO, dnO]
    congr 1
    conv => lhs; rw [← List.map_id (xs.flatMap (cellsOf ty))]
    apply List.map_congr_left
    intro a ha
    have := flat_mark xs a ha
    cases a <;> first | rfl | skip
    rename_i cs n g
    cases g <;> first | rfl | cases this
theorem Ok.plainS {P : Program} {f : FuncId} {args : List AV} {s s' : List Ob} {r : AV} (h : Ok P f args s r s') : Ok P f args s r (plainS s') := by
  intro M G w cargs hS hG hargs
  refine (h M G w cargs hS hG hargs).mono ?_
  rintro e w' ⟨v, G', h1, h2, h3, h4⟩
  exact ⟨v, G', h1, h2, h3.weaken (plainS_wk _), h4⟩
theorem HWrite.view {P : Program} {A : Array Oper} {o : Oper} {fr : List AV} {sv sv' : List Ob} {idx : Nat} {ob : Ob} {v : AV} (h : HWrite P A o fr sv' idx ob v) (k : WkS sv sv') : HWrite P A o fr sv idx ob v :=
  fun M G w a s hF hs hS hf K Q hK => h M G w a s hF hs (hS.weaken k) hf K Q hK
theorem callW_spec {β : Type} {b : β} {sc : Sc} {cf : Cfg} (hC : CallSound sc.P cf.C) {A : Array Oper} {o : Oper} {c : Call} {nb idx : Nat} {frv fr : List TV} {sv s : List TOb} {k : List TV → List TOb → Option β} (ho : o.op = .call c)
    (h : callW cf nb idx o.dst c frv sv fr s k = some b) : ∃ v ob fr2 s2, dns fr2 = aPut (dns fr) o.dst v ∧ dnS s2 = (dnS s).set idx ob ∧ v.refs nb = true ∧ belows nb ob.cs = true ∧ HWrite sc.P A o (dns frv) (dnS sv) idx ob v ∧ k fr2 s2 = some b := by
  unfold callW at h
  split at h
  case h_2 => cases h
  rename_i x hcl
  split at h
  case h_2 => cases h
  rename_i f fcs hfn
  rw [forceL_eq] at h
  split at h
  case h_2 => cases h
  rename_i cs t hob
  obtain ⟨hc1, h⟩ := cond_some h
  rw [forceS_eq] at h
  obtain ⟨hen, r, s', hok, h⟩ := hC f β _ _ _ b h
  split at h
  case h_2 => cases h
  rename_i cs' t' l' hob'
  obtain ⟨hc2, h⟩ := cond_some h
  rw [forceS_eq] at h
  obtain ⟨hb1, h⟩ := putB_some h
  simp only [Bool.and_eq_true, Nat.blt_eq] at hc1 hc2
  obtain ⟨a1, a2, a3⟩ := hc1
  obtain ⟨b1, b2, b3, b4⟩ := hc2
  have b1 := Nat.eq_of_beq_eq_true b1
  have hf' : aEval (dns frv) x = .func (.func f) (dns fcs) := by rw [← dn_tEval, hfn]; rfl
  have hargs : dns ((c.args.toList.map fun y => tsoft (tEval frv y)) ++ fcs) = (c.args.toList.map fun y => (aEval (dns frv) y).soft) ++ dns fcs := by rw [dns_app, ← argsOf_eq]
  have hsa := tsolids_spec _ a1
  rw [hargs] at hok hsa
  obtain ⟨p1, p2⟩ := plainC_spec _ a2
  obtain ⟨q1, q2⟩ := plainC_spec _ b2
  have hsvi : (sv.map tplainO)[idx]? = some (.cells cs t true) := by rw [obAt_eq _ _ a3, hob]
  have hs'i : (s'.map tplainO)[idx]? = some (.cells cs' t' l') := by rw [obAt_eq _ _ (by rw [b1]; exact a3), hob']
  refine ⟨dn (tplain r), ⟨dns cs', t', l'⟩, _, _, by rw [dns_tPut], dnS_set _ _ _, tbelow_spec _ hb1, tbelows_spec _ b4, ?_, h⟩
  rw [dn_tplain]
  refine HWrite.view (sv' := dnS (sv.map tplainO)) ?_ (by rw [dnS_plainO]; exact plainS_wk _)
  refine HWrite_call (S := dnS (onlyS idx 0 (sv.map tplainO))) (S' := dnS (s'.map tplainO)) (ob0 := ⟨dns cs, t, true⟩) ho hcl hf' hen (by rw [dnS_plainO s']; exact (hok.weaken (AV.plain_wk _)).plainS) hsa (solid_plain (tsolid_spec r b3)) (AV.mark_plain _) ?_ ?_ rfl p2 p1 ?_ ?_ q2 q1 ?_ ?_
  · intro j o hj ho
    rw [dnS_get, onlyS_get] at ho
    cases hs : (sv.map tplainO)[j]? with
    | none => rw [hs] at ho; cases ho
    | some o' =>
      rw [hs] at ho
      simp only [Option.map_some, Nat.zero_add] at ho
      rw [if_neg hj] at ho
      cases ho
      rfl
  · rw [dnS_get, onlyS_get, hsvi]
    simp only [Option.map_some, Nat.zero_add, if_true]
    rfl
  · rw [dnS_length, dnS_length, onlyS_length]; exact b1
  · rw [dnS_get, hs'i]; rfl
  · rw [dnS_length, dnS_length, onlyS_length]
  · rw [dnS_get, hsvi]; rfl
def updV {α : Type} (f : Nat → α) (i : Nat) (x : α) : Nat → α := fun j => if j = i then x else f j
theorem updV_same {α : Type} (f : Nat → α) (i : Nat) (x : α) : updV f i x i = x := by simp [updV]
theorem updV_lt {α : Type} {f : Nat → α} {i j : Nat} {x : α} (h : j < i) : updV f i x j = f j := by simp [updV, Nat.ne_of_lt h]
def mm (nb n0 : Nat) : HW → TW → Prop
  | .alloc idx cs t, .alloc r => idx = nb + r
  | .store idx ob, .store o i => idx = idxOf nb n0 (.store o i)
  | .app ts, .app t0 => ts = [t0]
  | _, _ => False
theorem Mt_some {nb n0 j : Nat} {ws : List (Nat × TW)} {W : HW} (hm : Mt nb n0 ws j (some W)) : ∃ w, (j, w) ∈ ws ∧ mm nb n0 W w := by
  unfold Mt at hm
  cases hlk : lookN ws j with
  | none => rw [hlk] at hm; cases hm
  | some w =>
    rw [hlk] at hm
    refine ⟨w, lookN_mem hlk, ?_⟩
    cases w with
    | alloc r => obtain ⟨cs, t, e⟩ := hm; cases e; rfl
    | store o i => obtain ⟨ob, e⟩ := hm; cases e; rfl
    | app t0 => cases hm; rfl
theorem wsOK_pair {A : Array Oper} {n nb n0 j i : Nat} {ws : List (Nat × TW)} {w w' : TW} (hws : wsOK A n nb n0 ws = true) (h1 : (j, w) ∈ ws) (h2 : (i, w') ∈ ws) : wsPair nb n0 A j i w w' = true := by
  have := List.all_eq_true.1 hws _ h1
  rw [Bool.and_eq_true] at this
  exact List.all_eq_true.1 this.2 _ h2
theorem head3_sound (hC : CallSound sc.P cf.C) {hd : HDat} {A : Array Oper} {nb : Nat} {s0 : List Ob} {fr0 : List AV} {k : List TV → List TOb → Option β} {L : Nat} (hok : drawOK A hd.n L = true) (hws : wsOK A hd.n nb cf.n0 hd.ws = true) (hnb : nb = s0.length) :
    ∀ (l : List Oper) (i : Nat) (val : Nat → AV) (wr : Nat → Option HW) (fr : List TV) (s : List TOb), (∀ j, l[j]? = if j < l.length then A[i + j]? else none) → i + l.length = hd.n →
      dns fr = frAt A fr0 val i → dnS s = SR wr s0 hd.K hd.n (ltL i) hd.n → (∀ j, j < i → ∀ o, A[j]? = some o → PF sc.P A hd.n nb cf.n0 hd.K s0 hd.ws fr0 j o val wr) → (∀ j, i ≤ j → wr j = none) →
      head3 sc cf hd A nb cf.n0 l i fr s k = some b →
      ∃ val' wr' F S, k F S = some b ∧ dns F = frAt A fr0 val' hd.n ∧ dnS S = SR wr' s0 hd.K hd.n (ltL hd.n) hd.n ∧ (∀ j, j < hd.n → ∀ o, A[j]? = some o → PF sc.P A hd.n nb cf.n0 hd.K s0 hd.ws fr0 j o val' wr') ∧ (∀ j, hd.n ≤ j → wr' j = none)
  | [], i, val, wr, fr, s, hl, hin, hf, hs, hpf, hwr, h => by
    have e : i = hd.n := by simpa using hin
    subst e
    exact ⟨val, wr, fr, s, h, hf, hs, hpf, hwr⟩
  | o :: l, i, val, wr, fr, s, hl, hin, hf, hs, hpf, hwr, h => by
    have ho : A[i]? = some o := by simpa using (hl 0).symm
    have hl' : ∀ j, l[j]? = if j < l.length then A[i + 1 + j]? else none := fun j => by
      have := hl (j + 1)
      simpa [Nat.add_assoc, Nat.add_comm 1 j] using this
    have hin' : i + 1 + l.length = hd.n := by rw [← hin, List.length_cons]; omega
    have hilt : i < hd.n := by omega
    have hAsz : i < A.size := (Array.getElem?_eq_some_iff.1 ho).1
    simp only [head3, clearK_eq] at h
    obtain ⟨frv, hfrv⟩ : ∃ frv, frv = tclears (tsOf A i hd.ws) fr := ⟨_, rfl⟩
    rw [← hfrv] at h
    obtain ⟨sv, hsv, hmk⟩ := mskK_eq (deadOf nb cf.n0 A i hd.ws) (tsOf A i hd.ws) s
    rw [hmk] at h
    have efr : dns frv = frV A hd.ws fr0 val i := by rw [hfrv, dns_tclears, hf]; rfl
    have esv : dnS sv = svV A hd.n nb cf.n0 hd.K s0 hd.ws wr i := by rw [hsv, hs]; rfl
    -- one operation more
    have more : ∀ (v : AV) (W : Option HW) (fr2 : List TV) (s2 : List TOb), dns fr2 = aPut (dns fr) o.dst v → dnS s2 = SR (updV wr i W) s0 hd.K hd.n (ltL (i + 1)) hd.n →
        PF sc.P A hd.n nb cf.n0 hd.K s0 hd.ws fr0 i o (updV val i v) (updV wr i W) → head3 sc cf hd A nb cf.n0 l (i + 1) fr2 s2 k = some b →
        ∃ val' wr' F S, k F S = some b ∧ dns F = frAt A fr0 val' hd.n ∧ dnS S = SR wr' s0 hd.K hd.n (ltL hd.n) hd.n ∧ (∀ j, j < hd.n → ∀ o, A[j]? = some o → PF sc.P A hd.n nb cf.n0 hd.K s0 hd.ws fr0 j o val' wr') ∧ (∀ j, hd.n ≤ j → wr' j = none) := by
      intro v W fr2 s2 e1 e2 hp hh
      refine head3_sound hC hok hws hnb l (i + 1) (updV val i v) (updV wr i W) fr2 s2 hl' hin' ?_ e2 ?_ ?_ hh
      · rw [e1, hf]
        simp only [frAt]
        rw [frAt_congr (val := val) (val' := updV val i v) i fun j hj => updV_lt hj, ho, updV_same]
        rfl
      · intro j hj o' ho'
        by_cases hji : j = i
        · subst hji
          rw [ho] at ho'
          cases ho'
          exact hp
        · exact (hpf j (by omega) o' ho').congr (fun q hq => updV_lt (by omega)) fun q hq => updV_lt (by omega)
      · intro j hj
        simp only [updV]
        rw [if_neg (by omega)]
        exact hwr j (by omega)
    have hfrV : ∀ v, frV A hd.ws fr0 (updV val i v) i = dns frv := fun v => by
      rw [efr]; unfold frV; rw [frAt_congr (val := val) i fun j hj => updV_lt hj]
    have hsvV : ∀ W, svV A hd.n nb cf.n0 hd.K s0 hd.ws (updV wr i W) i = dnS sv := fun W => by
      rw [esv]; unfold svV; rw [SR_wcongr (wr := wr) fun j hj => updV_lt hj]
    have hSR : ∀ W, SR (updV wr i W) s0 hd.K hd.n (ltL i) hd.n = dnS s := fun W => by
      rw [hs, SR_wcongr (wr := wr) fun j hj => updV_lt hj]
    have hSRn : SR (updV wr i none) s0 hd.K hd.n (ltL (i + 1)) hd.n = dnS s := by
      rw [ltL_succ, SR_add hilt (by simp [ltL]) (by rw [updV_same]; intro _ _ _ h; cases h) (by rw [updV_same]; intro h; exact absurd rfl h), updV_same, hSR]
      rfl
    have hnone : ∀ j, i < j → ∀ W s', effS (updV wr i W j) s' = s' := fun j hj W s' => by
      simp only [updV]
      rw [if_neg (by omega), hwr j (by omega)]
      rfl
    have hMtn : lookN hd.ws i = none → Mt nb cf.n0 hd.ws i none := fun hlk => by unfold Mt; rw [hlk]
    -- it is carried out, and turns nothing
    have pure : ∀ (fr2 : List TV), dns fr2 = dns fr → lookN hd.ws i = none → aWanted A (dns frv) o = some true → execH3 sc cf o.op frv sv fr2 (fun fr v => putB (bdOf nb hd.K A i hd.ws) fr o.dst v fun fr => head3 sc cf hd A nb cf.n0 l (i + 1) fr s k) = some b →
        ∃ val' wr' F S, k F S = some b ∧ dns F = frAt A fr0 val' hd.n ∧ dnS S = SR wr' s0 hd.K hd.n (ltL hd.n) hd.n ∧ (∀ j, j < hd.n → ∀ o, A[j]? = some o → PF sc.P A hd.n nb cf.n0 hd.K s0 hd.ws fr0 j o val' wr') ∧ (∀ j, hd.n ≤ j → wr' j = none) := by
      intro fr2 e2 hlk hw hx
      have hts2 : ∀ (ct : Nat) (t : Bool), frv.getD ct .undef = .bool t → dn (fr2.getD ct .undef) = .bool t := by
        intro ct t hc
        rw [← dns_getD, e2, dns_getD]
        rw [hfrv, tclears_getD] at hc
        rw [tclear_bool hc]
        rfl
      obtain ⟨fr3, v, h1, h2, h3⟩ := execH3_sound (A := A) hC hts2 hx
      obtain ⟨h4, h5⟩ := putB_some h1
      refine more (dn v) none _ s (by rw [dns_tPut, h2, e2]) hSRn.symm ⟨by rw [updV_same]; exact hMtn hlk, .inr ⟨by rw [hfrV]; exact hw, ?_⟩⟩ h5
      rw [updV_same, updV_same, hfrV, hsvV]
      exact ⟨tbelow_spec v h4, h3⟩
    have skip : ∀ (fr2 : List TV), dns fr2 = dns fr → lookN hd.ws i = none → aWanted A (dns frv) o = some false → putK fr2 o.dst (.tup []) (fun fr => head3 sc cf hd A nb cf.n0 l (i + 1) fr s k) = some b →
        ∃ val' wr' F S, k F S = some b ∧ dns F = frAt A fr0 val' hd.n ∧ dnS S = SR wr' s0 hd.K hd.n (ltL hd.n) hd.n ∧ (∀ j, j < hd.n → ∀ o, A[j]? = some o → PF sc.P A hd.n nb cf.n0 hd.K s0 hd.ws fr0 j o val' wr') ∧ (∀ j, hd.n ≤ j → wr' j = none) := by
      intro fr2 e2 hlk hw hx
      rw [putK_eq] at hx
      refine more (.tuple []) none _ s (by rw [dns_tPut, e2]; rfl) hSRn.symm ⟨by rw [updV_same]; exact hMtn hlk, .inl ⟨by rw [hfrV]; exact hw, updV_same _ _ _, updV_same _ _ _⟩⟩ hx
    split at h
    · rename_i w hlk
      split at h
      · rename_i hg
        have hw : aWanted A (dns frv) o = some true := by unfold aWanted; rw [hg]
        obtain ⟨dst, op, type, pos, after, guard⟩ := o
        have mk : ∀ (cs : List TV) (t : TypeId) (r : Nat), w = .alloc r → r < hd.K → HNew sc.P A ⟨dst, op, type, pos, after, guard⟩ (dns frv) nb (dns cs) t →
            head3 sc cf hd A nb cf.n0 l (i + 1) (tPut fr dst (.ref (nb + r) 0)) (s.set (nb + r) (.cells cs t true)) k = some b →
            ∃ val' wr' F S, k F S = some b ∧ dns F = frAt A fr0 val' hd.n ∧ dnS S = SR wr' s0 hd.K hd.n (ltL hd.n) hd.n ∧ (∀ j, j < hd.n → ∀ o, A[j]? = some o → PF sc.P A hd.n nb cf.n0 hd.K s0 hd.ws fr0 j o val' wr') ∧ (∀ j, hd.n ≤ j → wr' j = none) := by
          intro cs t r hwr0 hrK hnew hh
          subst hwr0
          refine more (.ref (nb + r) 0) (some (.alloc (nb + r) (dns cs) t)) _ _ (by rw [dns_tPut]; rfl) ?_ ⟨by rw [updV_same]; unfold Mt; rw [hlk]; exact ⟨_, _, rfl⟩, .inr ⟨by rw [hfrV]; exact hw, ?_⟩⟩ hh
          · rw [ltL_succ, SR_alloc (i := i) (idx := nb + r) (cs := dns cs) (t := t) hilt (by simp [ltL]) (updV_same _ _ _) ?_ ?_ ?_, hSR]
            · rw [dnS_set]; rfl
            · intro j idx' cs' t' hji hj e
              simp only [updV] at hj
              rw [if_neg hji] at hj
              rcases Nat.lt_or_ge j i with hlt | hge
              · have hp := (hpf j hlt (A[j]'(by omega)) (Array.getElem?_eq_getElem (by omega))).1
                rw [hj] at hp
                obtain ⟨w', hw', hm'⟩ := Mt_some hp
                cases w' with
                | alloc r' =>
                  have hpp := wsOK_pair hws hw' (lookN_mem hlk)
                  simp only [wsPair, Bool.or_eq_true, Bool.not_eq_true'] at hpp
                  simp only [mm] at hm'
                  rcases hpp with hpp | hpp
                  · exact hji (Nat.eq_of_beq_eq_true hpp)
                  · have : r' = r := by omega
                    subst this
                    rw [Nat.beq_refl] at hpp
                    cases hpp
                | _ => exact hm'.elim
              · rw [hwr j hge] at hj; cases hj
            · intro j idx' ob hl hj e
              simp only [ltL, decide_eq_true_eq] at hl
              simp only [updV] at hj
              rw [if_neg (by omega)] at hj
              have hp := (hpf j hl (A[j]'(by omega)) (Array.getElem?_eq_getElem (by omega))).1
              rw [hj] at hp
              obtain ⟨w', hw', hm'⟩ := Mt_some hp
              cases w' with
              | store o' x' =>
                have hpp := wsOK_pair hws (lookN_mem hlk) hw'
                simp only [wsPair, Bool.or_eq_true, Bool.not_eq_true'] at hpp
                simp only [mm] at hm'
                rcases hpp with hpp | hpp
                · have : ((TW.store o' x').dead nb cf.n0).contains (nb + r) = true := by
                    rw [← e, hm']
                    cases o' <;> simp [TW.dead, idxOf]
                  rw [this] at hpp
                  cases hpp
                · unfold ancq at hpp
                  rw [Bool.and_eq_true, Nat.blt_eq] at hpp
                  omega
              | _ => exact hm'.elim
            · exact hnew.2.2.1
          · rw [updV_same, updV_same, hfrV]
            exact ⟨hnew, rfl, by omega, by omega⟩
        unfold writeH at h
        dsimp only at h
        split at h
        · rename_i r t
          split at h
          · rename_i cs hz
            split at h
            · rename_i hr
              rw [forceS_eq, putK_eq] at h
              have hrK : r < hd.K := by rw [Nat.blt_eq] at hr; exact hr
              have hz' := tZero_spec hz
              exact mk cs t r rfl hrK (HNew_zero rfl hz') h
            · cases h
          · cases h
        · rename_i r t x
          split at h
          · cases h
          rename_i ht
          split at h
          · rename_i cs hcs
            split at h
            · rename_i hr
              rw [Bool.and_eq_true, Bool.and_eq_true] at hr
              obtain ⟨hr, hbel, hmk⟩ := hr
              rw [forceS_eq, putK_eq] at h
              have hrK : r < hd.K := by rw [Nat.blt_eq] at hr; exact hr
              refine mk cs t r rfl hrK (HNew_box ht rfl (by rw [← dn_tEval]; exact tCells_spec hcs) (tbelows_spec cs hbel) (fun a ha => ?_)) h
              rw [dns_map] at ha
              obtain ⟨v, hv, rfl⟩ := List.mem_map.1 ha
              rw [dn_mark]
              simpa using List.all_eq_true.1 hmk v hv
            · cases h
          · cases h
        · rename_i own ix t x y
          split at h
          · rename_i g s' hst
            split at h
            · rename_i idx htg
              split at h
              · rename_i hidx
                rw [Bool.and_eq_true, Nat.blt_eq] at hidx
                have hidx1 := Nat.eq_of_beq_eq_true hidx.1
                rw [forceO_eq] at h
                split at h
                · rename_i hbo
                  obtain ⟨hg1, h⟩ := cond_some h
                  rw [forceS_eq, putK_eq] at h
                  refine more (.tuple []) (some (.store idx (dnO (obAt s' idx)))) _ _ (by rw [dns_tPut]; rfl) ?_ ⟨by rw [updV_same]; unfold Mt; rw [hlk, hidx1]; exact ⟨_, rfl⟩, .inr ⟨by rw [hfrV]; exact hw, ?_⟩⟩ h
                  · rw [ltL_succ, SR_add hilt (by simp [ltL]) (by rw [updV_same]; intro _ _ _ h; cases h) (fun _ j hj _ => hnone j hj _), updV_same, hSR]
                    exact dnS_set _ _ _
                  · rw [updV_same, updV_same, hfrV, hsvV]
                    exact ⟨rfl, belowO_spec hbo, (HStore_of rfl hst hg1 htg hidx.2).write⟩
                · cases h
              · cases h
            · cases h
          · cases h
        · rename_i t0 c
          split at h
          · rename_i hcl
            split at h
            · rename_i x y t t' hargs htys
              split at h
              · rename_i htt
                subst htt
                split at h
                · rename_i g fr' v s' hap
                  split at h
                  · rename_i m hm
                    split at h
                    · rename_i hmt
                      have hmt := Nat.eq_of_beq_eq_true hmt
                      subst hmt
                      obtain ⟨hg1, h⟩ := cond_some h
                      rw [forceS_eq] at h
                      obtain ⟨hb1, h⟩ := putB_some h
                      have ha : c.args = #[x, y] := by
                        apply Array.ext'
                        rw [hargs]
                      have ht : c.argTypes = #[t, t] := by
                        apply Array.ext'
                        rw [htys]
                      refine more (dn (tren (fun _ => 4000 + dst.getD 0) v)) (some (.app [m])) _ _ (by rw [dns_tPut]) ?_ ⟨by rw [updV_same]; unfold Mt; rw [hlk], .inr ⟨by rw [hfrV]; exact hw, ?_⟩⟩ h
                      · rw [ltL_succ, SR_add hilt (by simp [ltL]) (by rw [updV_same]; intro _ _ _ h; cases h) (fun _ j hj _ => hnone j hj _), updV_same, hSR]
                        exact dnS_clear _ _
                      · rw [updV_same, updV_same, hfrV]
                        exact ⟨tbelow_spec _ hb1, tAppX_app rfl hcl ha ht hap hg1 hm⟩
                    · cases h
                  · cases h
                · cases h
              · cases h
            · cases h
          · cases h
        · rename_i own ix c
          obtain ⟨v, ob, fr2, s2, e1, e2, h1, h2, h3, h4⟩ := callW_spec (A := A) (o := ⟨dst, .call c, type, pos, after, guard⟩) hC rfl h
          refine more v (some (.store (idxOf nb cf.n0 (.store own ix)) ob)) fr2 s2 e1 ?_ ⟨by rw [updV_same]; unfold Mt; rw [hlk]; exact ⟨_, rfl⟩, .inr ⟨by rw [hfrV]; exact hw, ?_⟩⟩ h4
          · rw [ltL_succ, SR_add hilt (by simp [ltL]) (by rw [updV_same]; intro _ _ _ h; cases h) (fun _ j hj _ => hnone j hj _), updV_same, hSR]
            exact e2
          · rw [updV_same, updV_same, hfrV, hsvV]
            exact ⟨refs_mono (bdOf_le (nb := nb) (K := hd.K) (A := A) (i := i) hd.ws).1 v h1, h2, h3⟩
        · cases h
      · cases h
    · rename_i hlk
      split at h
      · rename_i hg
        exact pure fr rfl hlk (by unfold aWanted; rw [hg]) h
      · rename_i g want hg
        split at h
        · cases h
        · rename_i t ht
          have wanted : ∀ {v : Bool}, dn (frv.getD t .undef) = .bool v → aWanted A (dns frv) o = some (v == want) := by
            intro v hv
            unfold aWanted
            rw [hg]
            dsimp only
            rw [show (A[g]?).bind (·.dst) = some t from ht]
            dsimp only
            rw [dns_getD, hv]
          have nowant : dn (frv.getD t .undef) = .tuple [] → aWanted A (dns frv) o = some false := by
            intro hv
            unfold aWanted
            rw [hg]
            dsimp only
            rw [show (A[g]?).bind (·.dst) = some t from ht]
            dsimp only
            rw [dns_getD, hv]
          split at h
          · rename_i hv
            have hw := wanted (v := true) (by rw [hv]; rfl)
            split at h
            · rename_i hwt; subst hwt; exact pure fr rfl hlk hw h
            · rename_i hwt
              have : want = false := by simpa using hwt
              subst this
              exact skip fr rfl hlk hw h
          · rename_i hv
            have hw := wanted (v := false) (by rw [hv]; rfl)
            split at h
            · rename_i hwt; subst hwt; exact skip fr rfl hlk hw h
            · rename_i hwt
              have : want = false := by simpa using hwt
              subst this
              exact pure fr rfl hlk hw h
          · rename_i hv
            exact skip fr rfl hlk (nowant (by rw [hv]; rfl)) h
          · rename_i v hv
            have hv0 : fr.getD t .undef = .bool v := by
              have : (tclears (tsOf A i hd.ws) fr).getD t .undef = .bool v := by rw [← hfrv]; exact hv
              rw [tclears_getD] at this
              exact tclear_bool this
            have hsame : ∀ {u : TV}, dn u = .bool v → dns (fr.set t u) = dns fr := fun hu => dns_set_same (by rw [hv0, hu]; rfl)
            have hw := wanted (v := v) (by rw [hv]; rfl)
            simp only [setK_eq] at h
            cases v with
            | true =>
              simp only [cond_true] at h
              split at h
              · rename_i hwt; subst hwt; exact pure _ (hsame rfl) hlk hw h
              · rename_i hwt
                have : want = false := by simpa using hwt
                subst this
                exact skip _ (hsame rfl) hlk hw h
            | false =>
              simp only [cond_false] at h
              split at h
              · rename_i hwt; subst hwt; exact skip _ (hsame rfl) hlk hw h
              · rename_i hwt
                have : want = false := by simpa using hwt
                subst this
                exact pure _ (hsame rfl) hlk hw h
          · cases h
theorem draw3_sound (hC : CallSound sc.P cf.C) {hd : HDat} {A : Array Oper} {id : Nat} {fr : List TV} {s : List TOb} {k : List TV → List TOb → Option β} (h : draw3 sc cf hd A fr s k = some b) :
    ∃ F S, k F S = some b ∧ AW cf.n0 sc.P (.region id A true) (dns fr) (dnS s) (Ex .normal F S) := by
  unfold draw3 at h
  obtain ⟨h1, h2⟩ := cond_some h
  rw [Bool.and_eq_true, Bool.and_eq_true] at h1
  obtain ⟨⟨hok, hws⟩, hm⟩ := h1
  split at h2
  case isFalse => cases h2
  rename_i hL
  rw [forceS_eq] at h2
  have hn : hd.n ≤ A.size := (drawOK_spec hok).1
  have hlen : (A.toList.take hd.n).length = hd.n := by simp; omega
  obtain ⟨val, wr, F, S, h3, h4, h5, h6, h7⟩ := head3_sound (nb := s.length) (s0 := dnS s) (fr0 := dns fr) hC hok hws (dnS_length s).symm (A.toList.take hd.n) 0 (fun _ => .undef) (fun _ => none) fr (s ++ deads hd.K)
    (fun j => by
      rw [List.getElem?_take, hlen, Nat.zero_add]
      by_cases hj : j < hd.n
      · rw [if_pos hj, if_pos hj]; simp
      · rw [if_neg hj, if_neg hj]) (by rw [hlen, Nat.zero_add]) rfl (by
      rw [dnS_app, deads_eq]
      have : ∀ m, SR (fun _ => none) (dnS s) hd.K hd.n (ltL 0) m = dnS s ++ List.replicate hd.K deadO := by
        have hb : ∀ m, baseR (fun _ => none) (dnS s) hd.K (ltL 0) m = dnS s ++ List.replicate hd.K deadO := by
          intro m
          induction m with
          | zero => rfl
          | succ m ih => simp only [baseR, ih]
        intro m
        induction m with
        | zero => exact hb _
        | succ m ih => simp only [SR, ih]; simp [ltL]
      exact (this _).symm) (fun j hj => by omega) (fun _ _ => rfl) h2
  rw [clearK_eq] at h3
  obtain ⟨F2, S2, h8, h9⟩ := runOps_sound (n0 := cf.n0) hC (A := A) (A.toList.drop hd.n) (tclears (tsAll hd.ws) F) S k h3
  refine ⟨F2, S2, h8, ?_⟩
  have hHF := HF3_of (P := sc.P) (nb := s.length) (n0 := cf.n0) (K := hd.K) (s0 := dnS s) (fr0 := dns fr) hok hws h6 h7
  refine AL_draw3 (n := hd.n) (K := hd.K) (wr := wr) (val := val) hm (by rw [dns_length, hL]; exact hok) h7 (by rw [dnS_length]; exact hHF) ?_
  have e1 : SR wr (dnS s) hd.K hd.n (fun _ => true) hd.n = dnS S := by
    rw [h5]
    exact SR_congr (fun j hj => by simp [ltL, hj]) _ (Nat.le_refl _)
  rw [e1]
  refine AL_weaken ?_ (.refl _) h9
  rw [dns_tclears, h4]
  refine ⟨by simp [clearMarks_length], fun t => ?_⟩
  rw [clearMarks_getD, clearMarks_getD, ← clearMark_absorb (ts := tsAll hd.ws) (t' := tsR wr (fun _ => true) hd.n)]
  · exact clear_wk _ _
  · intro x hx
    obtain ⟨j, hj1, _, hj3⟩ := tsR_mem.1 hx
    have hm2 := (h6 j hj1 A[j] (Array.getElem?_eq_getElem (by omega))).1
    cases hW : wr j with
    | none => rw [hW] at hj3; cases hj3
    | some W =>
      rw [hW] at hm2 hj3
      obtain ⟨w, hw1, hw2⟩ := Mt_some hm2
      cases W with
      | app ts =>
        cases w with
        | app t0 => simp only [mm] at hw2; subst hw2; exact tsAll_mem hw1 x hj3
        | _ => exact hw2.elim
      | _ => cases hj3
end
end
end Go.Proofs.YtmacghaihlfcpaaGreat.Abs
