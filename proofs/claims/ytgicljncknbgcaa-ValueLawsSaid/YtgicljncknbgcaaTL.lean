/- Regions whose order is open, whose head also makes objects, stores and appends, told by a function. -/
import Derived.Test.YtgicljncknbgcaaTK
import Derived.Test.YtgicljncknbgcaaAZ
namespace Go.Proofs.Ytgicljncknbgcaa.Abs
open Go Go.ChangeShapes Go.WideShapes Go.ChangeAt Go.RowKit
set_option linter.unusedVariables false
set_option linter.unusedSimpArgs false

def TW.dead (nb n0 : Nat) : TW → List Nat
  | .alloc r => [nb + r]
  | .store true i => [n0 + i]
  | .store false i => [i]
  | .app _ => []
def TW.ts : TW → List Nat
  | .app t => [t]
  | _ => []
/-- j is ahead of i -/
def ancq (A : Array Oper) (i j : Nat) : Bool := Nat.blt j i && ancB A A.size i j
def deadOf (nb n0 : Nat) (A : Array Oper) (i : Nat) : List (Nat × TW) → List Nat
  | [] => []
  | (j, w) :: l => match Nat.beq j i || ancq A i j || ancq A j i with
    | true => deadOf nb n0 A i l
    | false => w.dead nb n0 ++ deadOf nb n0 A i l
def tsOf (A : Array Oper) (i : Nat) : List (Nat × TW) → List Nat
  | [] => []
  | (j, w) :: l => match Nat.beq j i || ancq A j i with
    | true => tsOf A i l
    | false => w.ts ++ tsOf A i l
def tsAll : List (Nat × TW) → List Nat
  | [] => []
  | (_, w) :: l => w.ts ++ tsAll l
def wsPair (nb n0 : Nat) (A : Array Oper) (j i : Nat) : TW → TW → Bool
  | .alloc r, .alloc r' => Nat.beq j i || !(Nat.beq r r')
  | .alloc r, w => !((w.dead nb n0).contains (nb + r)) || ancq A i j
  | _, .alloc _ => true
  | _, _ => Nat.beq j i || ancq A i j || ancq A j i
def wsOK (A : Array Oper) (n nb n0 : Nat) (ws : List (Nat × TW)) : Bool := ws.all fun p => Nat.blt p.1 n && ws.all fun q => wsPair nb n0 A p.1 q.1 p.2 q.2
def tmskS (dead ts : List Nat) : Nat → List TOb → List TOb
  | _, [] => []
  | i, o :: s => (match dead.contains i with
    | true => match o with
      | .cells cs t _ => .cells cs t false
      | .tarr ty xs t _ => .tarr ty xs t false
    | false => tclearO ts o) :: tmskS dead ts (i + 1) s
theorem dnS_msk {dead ts : List Nat} : ∀ (i : Nat) (s : List TOb), dnS (tmskS dead ts i s) = mskS dead ts i (dnS s)
  | _, [] => rfl
  | i, o :: s => by
    have ih := dnS_msk (dead := dead) (ts := ts) (i + 1) s
    simp only [dnS, tmskS, mskS, List.map_cons] at ih ⊢
    rw [ih]
    congr 1
    cases hd : dead.contains i with
    | true => rw [if_pos rfl]; cases o <;> rfl
    | false => rw [if_neg (by simp)]; exact dnO_clear ts o
def mskK {β : Type} (dead ts : List Nat) (s : List TOb) (k : List TOb → β) : β := match dead, ts with
  | [], [] => k s
  | _, _ => forceS (tmskS dead ts 0 s) k
theorem tmsk_nil : ∀ (i : Nat) (s : List TOb), dnS (tmskS [] [] i s) = dnS s := fun i s => by
  rw [dnS_msk]
  have : ∀ (i : Nat) (s : List Ob), mskS [] [] i s = clearStore [] s := by
    intro i s
    induction s generalizing i with
    | nil => rfl
    | cons o s ih => simp only [mskS, ih]; rfl
  rw [this, clearStore_nil]
theorem mskK_eq (dead ts : List Nat) (s : List TOb) : ∃ s', dnS s' = mskS dead ts 0 (dnS s) ∧ ∀ {β : Type} (k : List TOb → β), mskK dead ts s k = k s' := by
  cases dead with
  | nil =>
    cases ts with
    | nil => exact ⟨s, by rw [← dnS_msk]; exact (tmsk_nil 0 s).symm, fun _ => rfl⟩
    | cons a l => exact ⟨_, dnS_msk 0 s, fun k => by simp only [mskK, forceS_eq]⟩
  | cons a l => exact ⟨_, dnS_msk 0 s, fun k => by simp only [mskK, forceS_eq]⟩
section
variable {β : Type} (sc : Sc) (cf : Cfg)
def execH3 (op : Op) (frv : List TV) (sv : List TOb) (fr : List TV) (k : List TV → TV → Option β) : Option β :=
  match op with
  | .pick c x y => match tEval frv c with
    | .tt => k fr (tEval frv x)
    | .ff => k fr (tEval frv y)
    | .bool b => match c with
      | .tmp t => cond b (setK fr t .tt fun fr => k fr (tEval frv x)) (setK fr t .ff fun fr => k fr (tEval frv y))
      | _ => none
    | _ => none
  | .call c => match c.callee with
    | .value x => match tEval frv x with
      | .func (.func f) fcs => forceL ((c.args.toList.map fun y => tsoft (tEval frv y)) ++ fcs) fun args => match tfrees args with
        | true => cf.C f β args [] fun r s' => match s', tfree r with
          | [], true => k fr (tplain r)
          | _, _ => none
        | false => forceL (args.map (snapV sv 4)) fun args => match tfrees args with
          | true => cf.C f β args [] fun r s' => match s', tflat r with
            | [], true => k fr (tplain r)
            | _, _ => none
          | false => none
      | _ => none
    | _ => match tPure sc.P sc.wrap frv sv op with
      | some (g, v) => cond g (k fr v) none
      | none => none
  | op => match tPure sc.P sc.wrap frv sv op with
    | some (g, v) => cond g (k fr v) none
    | none => none
def putB {γ : Type} (nb : Nat) (fr : List TV) (d : Option Nat) (v : TV) (k : List TV → Option γ) : Option γ := forceV v fun v => match tbelow nb v with
  | true => putK fr d v k
  | false => none
def idxOf (nb n0 : Nat) : TW → Nat
  | .alloc r => nb + r
  | .store true i => n0 + i
  | .store false i => i
  | .app _ => 0
def obAt : List TOb → Nat → TOb
  | [], _ => .cells [] 0 false
  | o :: _, 0 => o
  | _ :: s, i + 1 => obAt s i
theorem obAt_eq : ∀ (s : List TOb) (i : Nat), i < s.length → s[i]? = some (obAt s i)
  | [], i, h => by simp at h
  | o :: s, 0, h => rfl
  | o :: s, i + 1, h => by simpa [obAt] using obAt_eq s i (by simpa using h)
def belowO (nb : Nat) : TOb → Bool
  | .cells cs _ _ => tbelows nb cs
  | .tarr .. => true
theorem belowO_spec {nb : Nat} {o : TOb} (h : belowO nb o = true) : belows nb (dnO o).cs = true := by
  cases o with
  | cells cs t l => exact tbelows_spec cs h
  | tarr ty xs t l => exact flat_refs nb xs
/-- an operation that turns something -/
def writeH (K nb n0 : Nat) (w : TW) (dst : Option Tmp) (op : Op) (frv : List TV) (sv : List TOb) (fr : List TV) (s : List TOb) (k : List TV → List TOb → Option β) : Option β :=
  match w, op with
  | .alloc r, .alloc t => match tZero sc.P t with
    | some cs => match Nat.blt r K with
      | true => forceS (s.set (nb + r) (.cells cs t true)) fun s => putK fr dst (.ref (nb + r) 0) fun fr => k fr s
      | false => none
    | none => none
  | .store o i, .store t x y => match tStoreAt sc.P sv t (tEval frv x) (tEval frv y) with
    | some (g, s') => match tgtOf (tEval frv x) with
      | some idx => match Nat.beq idx (idxOf nb n0 (.store o i)) && Nat.blt idx s'.length with
        | true => forceO (obAt s' idx) fun ob => match belowO nb ob with
          | true => cond g (forceS (s.set idx ob) fun s => putK fr dst (.tup []) fun fr => k fr s) none
          | false => none
        | false => none
      | none => none
    | none => none
  | .app t0, .call c => match c.callee with
    | .builtin .append => match c.args.toList, c.argTypes.toList with
      | [x, y], [t, t'] => if t = t' then match tAppend sc.P (1000 + dst.getD 0) frv sv t (tEval frv x) (tEval frv y) with
          | some (g, _, v, _) => match tmark v with
            | some m => match Nat.beq m t0 with
              | true => cond g (forceS (tclearS [t0] s) fun s => putB nb fr dst (tren (fun _ => 4000 + dst.getD 0) v) fun fr => k fr s) none
              | false => none
            | none => none
          | none => none
        else none
      | _, _ => none
    | _ => none
  | _, _ => none
def head3 (hd : HDat) (A : Array Oper) (nb n0 : Nat) : List Oper → Nat → List TV → List TOb → (List TV → List TOb → Option β) → Option β
  | [], _, fr, s, k => k fr s
  | o :: l, i, fr, s, k => clearK (tsOf A i hd.ws) fr fun frv => mskK (deadOf nb n0 A i hd.ws) (tsOf A i hd.ws) s fun sv =>
    match lookN hd.ws i with
    | some w => match o.guard with
      | none => writeH sc hd.K nb n0 w o.dst o.op frv sv fr s fun fr s => head3 hd A nb n0 l (i + 1) fr s k
      | some _ => none
    | none => match o.guard with
      | none => execH3 sc cf o.op frv sv fr fun fr v => putB nb fr o.dst v fun fr => head3 hd A nb n0 l (i + 1) fr s k
      | some (g, want) => match guardSlot A g with
        | none => none
        | some t => match frv.getD t .undef with
          | .tt => if want = true then execH3 sc cf o.op frv sv fr fun fr v => putB nb fr o.dst v fun fr => head3 hd A nb n0 l (i + 1) fr s k else putK fr o.dst (.tup []) fun fr => head3 hd A nb n0 l (i + 1) fr s k
          | .ff => if want = true then putK fr o.dst (.tup []) fun fr => head3 hd A nb n0 l (i + 1) fr s k else execH3 sc cf o.op frv sv fr fun fr v => putB nb fr o.dst v fun fr => head3 hd A nb n0 l (i + 1) fr s k
          | .tup [] => putK fr o.dst (.tup []) fun fr => head3 hd A nb n0 l (i + 1) fr s k
          | .bool b => cond b
            (setK fr t .tt fun fr => if want = true then execH3 sc cf o.op frv sv fr fun fr v => putB nb fr o.dst v fun fr => head3 hd A nb n0 l (i + 1) fr s k else putK fr o.dst (.tup []) fun fr => head3 hd A nb n0 l (i + 1) fr s k)
            (setK fr t .ff fun fr => if want = true then putK fr o.dst (.tup []) fun fr => head3 hd A nb n0 l (i + 1) fr s k else execH3 sc cf o.op frv sv fr fun fr v => putB nb fr o.dst v fun fr => head3 hd A nb n0 l (i + 1) fr s k)
          | _ => none
end
def deads : Nat → List TOb
  | 0 => []
  | n + 1 => .cells [] 0 false :: deads n
theorem deads_eq : ∀ n, dnS (deads n) = List.replicate n deadO
  | 0 => rfl
  | n + 1 => by
    have := deads_eq n
    simp only [dnS, deads, List.map_cons, List.replicate_succ] at this ⊢
    rw [this]; rfl
/-- the whole region -/
def draw3 {β : Type} (sc : Sc) (cf : Cfg) (hd : HDat) (A : Array Oper) (fr : List TV) (s : List TOb) (k : List TV → List TOb → Option β) : Option β :=
  cond (drawOK A hd.n hd.L && wsOK A hd.n s.length cf.n0 hd.ws && sc.P.follows .mixedOrders)
    (if fr.length = hd.L then
      forceS (s ++ deads hd.K) fun s1 => head3 sc cf hd A s.length cf.n0 (A.toList.take hd.n) 0 fr s1 fun fr s => clearK (tsAll hd.ws) fr fun fr => runOps sc cf A (A.toList.drop hd.n) fr s k
    else none) none
end Go.Proofs.Ytgicljncknbgcaa.Abs
