/- The contract of package value's alike. -/
import Derived.Test.YtlmjcifiofobpaaDec
import Derived.Deep.LoopGhost
import Derived.Deep.DeepMust
import Derived.Deep.CutBlock
import Derived.Deep.DeepCutAuto
namespace Go.Proofs.Ytlmjcifiofobpaa
open Go.ChangeShapes Go.WideShapes Go.ChangeAt Go.RowKit
set_option linter.unusedVariables false
set_option linter.unusedSimpArgs false

/-- a slice of values, read at b, off -/
def ValsAt (W : World) (b off : Nat) (l : List Val) : Prop := ∀ k (hk : k < l.length), W.cell? ⟨b, off + k * 3, none⟩ = some (.int .u8 l[k].k) ∧ W.cell? ⟨b, off + k * 3 + 1, none⟩ = some (.int .i64 l[k].n) ∧ W.cell? ⟨b, off + k * 3 + 2, none⟩ = some (.string l[k].s)
theorem ValsAt.below {W W' : World} {b off B : Nat} {l : List Val} (h : ValsAt W b off l) (hb : Below B W W') (hg : b < B) : ValsAt W' b off l :=
  fun k hk => ⟨(hb.cell (p := ⟨b, _, none⟩) hg).trans (h k hk).1, (hb.cell (p := ⟨b, _, none⟩) hg).trans (h k hk).2.1, (hb.cell (p := ⟨b, _, none⟩) hg).trans (h k hk).2.2⟩
def badV (v : Val) : Bool := !isNum v && v.k != 0
def kindOf (l : List Val) : Int := if l.any (·.k == 2) then 2 else 1
def anyNull (l : List Val) : Bool := l.any (·.k == 0)
def anyBad (l : List Val) : Bool := l.any badV
def asDec (v : Val) : Val := ⟨2, (decF v).1.n, ⟨#[]⟩⟩
def asInt (v : Val) : Val := ⟨1, v.n, ⟨#[]⟩⟩
def allDec (l : List Val) : Bool := l.all fun v => (decF v).2 == 0
def alikeF (l : List Val) : List Val × Bool × Int :=
  if anyBad l then ([], false, 8) else if anyNull l then ([], true, 0) else if kindOf l = 2 then if allDec l then (l.map asDec, false, 0) else ([], false, 9) else (l.map asInt, false, 0)

theorem take_more {α : Type} (l : List α) (k : Nat) (h : k < l.length) : l.take (k + 1) = l.take k ++ [l[k]] := List.take_succ_eq_append_getElem h
theorem badV_cases (v : Val) (h : badV v = false) : v.k = 0 ∨ v.k = 1 ∨ v.k = 2 := by
  unfold badV isNum at h
  simp at h
  omega
theorem badV_true (v : Val) (h : badV v = true) : isNum v = false ∧ (v.k != 0) = true := by
  unfold badV at h
  simpa using h
theorem kindOf_snoc (l : List Val) (v : Val) : kindOf (l ++ [v]) = if v.k = 2 then 2 else kindOf l := by
  unfold kindOf
  rw [List.any_append]
  by_cases h : v.k = 2 <;> simp [h]
theorem anyNull_snoc (l : List Val) (v : Val) : anyNull (l ++ [v]) = (anyNull l || v.k == 0) := by unfold anyNull; simp
theorem anyBad_snoc (l : List Val) (v : Val) : anyBad (l ++ [v]) = (anyBad l || badV v) := by unfold anyBad; simp
theorem anyBad_of_take (l : List Val) (k : Nat) (hk : k < l.length) (h : badV l[k] = true) : anyBad l = true := by
  unfold anyBad
  rw [List.any_eq_true]
  exact ⟨l[k], List.getElem_mem hk, h⟩

/-- what the first loop has found when it has seen l -/
def Seen (w : World) (l : List Val) (k : Nat) (n kd : Value) (wr : World) : Prop :=
  ∃ (N : Bool) (KD : Int), n = .bool N ∧ kd = .int .u8 KD ∧ N = anyNull (l.take k) ∧ KD = kindOf (l.take k) ∧ anyBad (l.take k) = false ∧ Below w.heap.size w wr
def AlikePost (w : World) (l : List Val) (e : Ending) (w' : World) : Prop :=
  ∃ (A : Option Addr) (n cap : Nat), e = .returned (.tuple #[.slice A n cap, .bool (alikeF l).2.1, .int .i64 (alikeF l).2.2]) ∧ n = (alikeF l).1.length ∧ Below w.heap.size w w' ∧
    (n = 0 ∨ ∃ g, A = some ⟨g, 0, none⟩ ∧ ValsAt w' g 0 (alikeF l).1 ∧ g < w'.heap.size ∧ w.heap.size ≤ g)
theorem AlikePost.none {w w' : World} {l : List Val} {b : Bool} {i : Int} (h : alikeF l = ([], b, i)) (hb : Below w.heap.size w w') : AlikePost w l (.returned (.tuple #[.slice none 0 0, .bool b, .int .i64 i])) w' :=
  ⟨Option.none, 0, 0, by rw [h], by rw [h]; rfl, hb, .inl rfl⟩

theorem seen_step {w w1 : World} {l : List Val} {k : Nat} {N N' : Bool} {KD : Int} {v : Val} (hN : N = anyNull (l.take k)) (hKD : KD = kindOf (l.take k)) (hbad : anyBad (l.take k) = false)
    (ht : l.take (k + 1) = l.take k ++ [v]) (hb : badV v = false) (hN' : N' = (N || v.k == 0)) (hw : Below w.heap.size w w1) : Seen w l (k + 1) (.bool N') (.int .u8 (max KD v.k)) w1 := by
  refine ⟨N', max KD v.k, rfl, rfl, ?_, ?_, ?_, hw⟩
  · rw [ht, anyNull_snoc, ← hN, hN']
  · rw [ht, kindOf_snoc, ← hKD]
    have h1 : 1 ≤ KD ∧ KD ≤ 2 := by rw [hKD]; unfold kindOf; split <;> omega
    have h2 := badV_cases v hb
    split <;> omega
  · rw [ht, anyBad_snoc, hbad, hb]; rfl

def cellsOf (l : List Val) : List Value := l.flatMap fun v => [.int .u8 v.k, .int .i64 v.n, .string v.s]
theorem cellsOf_get : ∀ (l : List Val) (k : Nat) (hk : k < l.length), (cellsOf l)[k * 3]? = some (.int .u8 l[k].k) ∧ (cellsOf l)[k * 3 + 1]? = some (.int .i64 l[k].n) ∧ (cellsOf l)[k * 3 + 2]? = some (.string l[k].s)
  | [], k, hk => by simp at hk
  | v :: l, 0, _ => ⟨rfl, rfl, rfl⟩
  | v :: l, k + 1, hk => by
    have ih := cellsOf_get l k (by simpa using hk)
    have e : cellsOf (v :: l) = [.int .u8 v.k, .int .i64 v.n, .string v.s] ++ cellsOf l := rfl
    rw [e]
    simp only [List.getElem_cons_succ]
    refine ⟨?_, ?_, ?_⟩
    · rw [List.getElem?_append_right (by simp; omega)]; exact (congrArg _ (by simp; omega)).trans ih.1
    · rw [List.getElem?_append_right (by simp; omega)]; exact (congrArg _ (by simp; omega)).trans ih.2.1
    · rw [List.getElem?_append_right (by simp; omega)]; exact (congrArg _ (by simp; omega)).trans ih.2.2
theorem cellsOf_len (l : List Val) : (cellsOf l).length = l.length * 3 := by
  induction l with
  | nil => rfl
  | cons v l ih => rw [show cellsOf (v :: l) = [.int .u8 v.k, .int .i64 v.n, .string v.s] ++ cellsOf l from rfl, List.length_append, ih]; simp; omega
theorem cellsOf_snoc (l : List Val) (v : Val) : cellsOf (l ++ [v]) = cellsOf l ++ [.int .u8 v.k, .int .i64 v.n, .string v.s] := by unfold cellsOf; simp

theorem AlikePost.own {w w' : World} {l outs : List Val} {x : Value} (h : alikeF l = (outs, false, 0)) (ho : w'.ownsRow w.heap.size 38 3 x outs.length (cellsOf outs)) (hb : Below w.heap.size w w') :
    AlikePost w l (.returned (.tuple #[x, .bool false, .int .i64 0])) w' := by
  have ho' := ho
  rcases ho.2 with ⟨rfl, h0⟩ | ⟨g, cap, cur, rfl, hg, hh, _⟩
  · exact ⟨Option.none, 0, 0, by rw [h], by rw [h]; exact h0.symm, hb, .inl rfl⟩
  · refine ⟨some ⟨g, 0, Option.none⟩, outs.length, cap, by rw [h], by rw [h], hb, .inr ⟨g, rfl, ?_, ?_⟩⟩
    · rw [h]
      intro k hk
      obtain ⟨c1, c2, c3⟩ := cellsOf_get outs k hk
      dsimp only at hk
      refine ⟨?_, ?_, ?_⟩
      · rw [Nat.zero_add, ho'.cellAt _ (by omega)]; exact c1
      · rw [Nat.zero_add, ho'.cellAt _ (by omega)]; exact c2
      · rw [Nat.zero_add, ho'.cellAt _ (by omega)]; exact c3
    · rcases Nat.lt_or_ge g w'.heap.size with h1 | h1
      · exact ⟨h1, hg⟩
      · rw [Array.getElem?_eq_none h1] at hh; cases hh

theorem own_later {w w' : World} {base : Nat} {e : TypeId} {size : Nat} {v : Value} {n : Nat} {xs : List Value} (h : w.ownsRow base e size v n xs) (hb : Below w.heap.size w w') : w'.ownsRow base e size v n xs := by
  obtain ⟨h1, h2⟩ := h
  refine ⟨h1, ?_⟩
  rcases h2 with h2 | ⟨g, cap, cur, hv, hg, hh, r⟩
  · exact .inl h2
  · have hlt : g < w.heap.size := by
      rcases Nat.lt_or_ge g w.heap.size with h3 | h3
      · exact h3
      · rw [Array.getElem?_eq_none h3] at hh; cases hh
    exact .inr ⟨g, cap, cur, hv, hg, (hb.block g hlt).trans hh, r⟩
def rowOf (l : List Val) (kd : Int) (k : Nat) : List Value := cellsOf ((l.take k).map (if kd = 2 then asDec else asInt))
theorem made_dec {l : List Val} {k : Nat} {KD : Int} {v : Val} (hall : KD = 2 → allDec (l.take k) = true) (hk : KD = 2) (ht : l.take (k + 1) = l.take k ++ [v]) (hv : (decF v).2 = 0) :
    (rowOf l KD k ++ [.int .u8 KD, .int .i64 (decF v).1.n, .string ⟨#[]⟩] = rowOf l KD (k + 1)) ∧ (KD = 2 → allDec (l.take (k + 1)) = true) := by
  subst hk
  unfold rowOf
  rw [ht]
  refine ⟨?_, fun _ => ?_⟩
  · rw [List.map_append, List.map_cons, List.map_nil, cellsOf_snoc]
    rfl
  · have := hall rfl
    unfold allDec at *
    rw [List.all_append, this]
    simp [hv]
theorem own_block_ge {w : World} {base : Nat} {e : TypeId} {size : Nat} {v : Value} {n : Nat} {xs : List Value} (h : w.ownsRow base e size v n xs) : ∀ k, v.ownBlock = some k → base ≤ k := by
  intro k hk
  rcases h.2 with ⟨rfl, _⟩ | ⟨g, cap, cur, rfl, hg, _⟩
  · simp [Value.ownBlock] at hk
  · simp [Value.ownBlock] at hk
    omega
theorem made_int {l : List Val} {k : Nat} {KD : Int} {v : Val} (hall : KD = 2 → allDec (l.take k) = true) (hk : ¬ KD = 2) (h1 : KD = 1) (ht : l.take (k + 1) = l.take k ++ [v]) :
    (rowOf l KD k ++ [.int .u8 KD, .int .i64 v.n, .string ⟨#[]⟩] = rowOf l KD (k + 1)) ∧ (KD = 2 → allDec (l.take (k + 1)) = true) := by
  subst h1
  unfold rowOf
  rw [ht]
  refine ⟨?_, fun h => absurd h hk⟩
  rw [List.map_append, List.map_cons, List.map_nil, cellsOf_snoc]
  rfl
theorem alike_made {l : List Val} (h1 : anyBad l = false) (h2 : false = anyNull l) (h3 : kindOf l = 2 → allDec (l.take l.length) = true) : alikeF l = (l.map (if kindOf l = 2 then asDec else asInt), false, 0) := by
  rw [List.take_of_length_le (Nat.le_refl _)] at h3
  unfold alikeF
  rw [h1, ← h2]
  by_cases h : kindOf l = 2
  · simp [h, h3 h]
  · simp [h]
theorem alike_over {l : List Val} {k : Nat} (h1 : anyBad l = false) (h2 : false = anyNull l) (h3 : kindOf l = 2) (hk : k < l.length) (h : ¬ (decF l[k]).2 = 0) : alikeF l = ([], false, (decF l[k]).2) := by
  have h4 : allDec l = false := by
    unfold allDec
    rw [List.all_eq_false]
    exact ⟨l[k], List.getElem_mem hk, by simpa using h⟩
  have h5 : (decF l[k]).2 = 9 := by
    unfold decF at *
    split <;> rename_i h6
    · rw [if_pos h6] at h; exact absurd rfl h
    · rw [if_neg h6] at h
      split <;> rename_i h7
      · rw [if_pos h7] at h; exact absurd rfl h
      · rfl
  unfold alikeF
  rw [h1, ← h2, h5]
  simp [h3, h4]
theorem info38 : (Try.prog.info? 38).map (fun i => (i.zero, i.size, i.bytes)) = some (some (.agg #[.int .u8 0, .int .i64 0, .string ⟨#[]⟩]), 3, 32) := by kernel_rfl

/-- what the second loop has made of the first k -/
def Made (w : World) (l : List Val) (kd : Int) (k : Nat) (out : Value) (wr : World) : Prop :=
  wr.ownsRow w.heap.size 38 3 out k (rowOf l kd k) ∧ Below w.heap.size w wr ∧ (kd = 2 → allDec (l.take k) = true)

set_option maxRecDepth 100000 in
set_option maxHeartbeats 6400000 in
theorem alike_calls (l : List Val) (b off cap : Nat) (w : World) (hl : l.length ≤ 60000) (hv : ValsAt w b off l) (hbk : b < w.heap.size) (hok : ∀ v ∈ l, Val.ok v) :
    Calls Try.prog 80 #[.slice (some ⟨b, off, none⟩) l.length cap] w (AlikePost w l) := by
  have HV := hide hv
  have HK := hide hok
  clear hv hok
  go_enter Try.func80, Try.ntmps80
  go_upto_block 0 with fail
  go_cut [2, 3, 4, 5] (fun s2 s3 s4 s5 wx => s2 = .slice none 0 0 ∧ s4 = .int .i64 0 ∧ Seen w l l.length s3 s5 wx)
  case first =>
    go_wp2_with fail
    go_loopw [2, 3, 4, 5, 12] (fun r2 n r4 kd i wr => ∃ k : Nat, k ≤ l.length ∧ i = .int .i64 k ∧ r2 = .slice none 0 0 ∧ r4 = .int .i64 0 ∧ Seen w l k n kd wr) (fun _ _ _ _ i _ => l.length - (intOf i).toNat)
    case atStart => exact ⟨0, Nat.zero_le _, rfl, rfl, rfl, _, _, rfl, rfl, rfl, rfl, rfl, below_refl w⟩
    case round =>
      obtain ⟨k, hk, rfl, rfl, rfl, hseen⟩ := hrel
      obtain ⟨N, KD, rfl, rfl, hN, hKD, hbad, hbw⟩ := hseen
      have HB := hide (And.intro hN (And.intro hKD (And.intro hbad hbw)))
      obtain ⟨hKD3, hKD4⟩ : 1 ≤ KD ∧ KD ≤ 2 := by rw [hKD]; unfold kindOf; split <;> omega
      clear hbad hN hKD
      by_cases hlt : k < l.length
      · obtain ⟨c1, c2, c3⟩ := HV.out.below hbw hbk k hlt
        obtain ⟨v1, v2, v3⟩ := HK.out l[k] (List.getElem_mem hlt)
        have HT := hide (take_more l k hlt)
        have HBD := hide (fun h => anyBad_of_take l k hlt h)
        clear hbw
        obtain ⟨v, hvk⟩ : ∃ v, l[k] = v := ⟨_, rfl⟩
        rw [hvk] at c1 c2 c3 v1 v2 v3 HT HBD
        clear hvk
        have HI := hide (fun W => isnum_calls v W)
        cases hbd : badV v
        · have HBF := hide hbd
          have hcs := badV_cases v hbd
          clear hbd
          rcases hcs with h0 | h0 | h0
          · have HI0 := hide (show isNum v = false by unfold isNum; simp [h0])
            have HK0 := hide h0
            have q1 : (v.k != 0) = false := by simp [h0]
            have q2 : (v.k == 0) = true := by simp [h0]
            clear h0
            cases N
            all_goals
              go_wp2_with fail
              refine (HI.out _).mono ?_
              rintro e w1 ⟨rfl, hn⟩
              obtain ⟨d1, -, -, -, -, -⟩ := ((Three.new _ _ _ _ _).below hn (by simp)).facts
              have hB := hide ((HB.out.2.2.2.alloc HB.out.2.2.2.size _).trans (hn.mono (by have := HB.out.2.2.2.size; simp; omega)))
              clear hn
              have hi := HI0.out
              go_wp2_with fail
              go_roundw
              case rel => exact ⟨k + 1, by omega, by go_num, rfl, rfl, seen_step HB.out.1 HB.out.2.1 HB.out.2.2.1 HT.out HBF.out (by rw [q2]; rfl) hB.out⟩
              case measure => simp [intOf]; omega
          · have HI0 := hide (show isNum v = true by unfold isNum; simp [h0])
            have HK0 := hide h0
            have q1 : (v.k != 0) = true := by simp [h0]
            have q2 : (v.k == 0) = false := by simp [h0]
            clear h0
            cases N
            all_goals
              go_wp2_with fail
              refine (HI.out _).mono ?_
              rintro e w1 ⟨rfl, hn⟩
              obtain ⟨d1, -, -, -, -, -⟩ := ((Three.new _ _ _ _ _).below hn (by simp)).facts
              have hB := hide ((HB.out.2.2.2.alloc HB.out.2.2.2.size _).trans (hn.mono (by have := HB.out.2.2.2.size; simp; omega)))
              clear hn
              have hi := HI0.out
              go_wp2_with fail
              go_roundw
              case rel => exact ⟨k + 1, by omega, by go_num, rfl, rfl, seen_step HB.out.1 HB.out.2.1 HB.out.2.2.1 HT.out HBF.out (by rw [q2]; rfl) hB.out⟩
              case measure => simp [intOf]; omega
          · have HI0 := hide (show isNum v = true by unfold isNum; simp [h0])
            have HK0 := hide h0
            have q1 : (v.k != 0) = true := by simp [h0]
            have q2 : (v.k == 0) = false := by simp [h0]
            clear h0
            cases N
            all_goals
              go_wp2_with fail
              refine (HI.out _).mono ?_
              rintro e w1 ⟨rfl, hn⟩
              obtain ⟨d1, -, -, -, -, -⟩ := ((Three.new _ _ _ _ _).below hn (by simp)).facts
              have hB := hide ((HB.out.2.2.2.alloc HB.out.2.2.2.size _).trans (hn.mono (by have := HB.out.2.2.2.size; simp; omega)))
              clear hn
              have hi := HI0.out
              go_wp2_with fail
              go_roundw
              case rel => exact ⟨k + 1, by omega, by go_num, rfl, rfl, seen_step HB.out.1 HB.out.2.1 HB.out.2.2.1 HT.out HBF.out (by rw [q2]; rfl) hB.out⟩
              case measure => simp [intOf]; omega
        · obtain ⟨q1, q2⟩ := badV_true v hbd
          have hf := hide (unhide HBD hbd)
          have HI0 := hide q1
          clear hbd HBD q1
          go_wp2_with fail
          refine (HI.out _).mono ?_
          rintro e w1 ⟨rfl, hn⟩
          obtain ⟨d1, -, -, -, -, -⟩ := ((Three.new _ _ _ _ _).below hn (by simp)).facts
          have hB := hide ((HB.out.2.2.2.alloc HB.out.2.2.2.size _).trans (hn.mono (by have := HB.out.2.2.2.size; simp; omega)))
          clear hn
          have hi := HI0.out
          go_wp2_with fail
          go_ret3
          exact AlikePost.none (by unfold alikeF; rw [if_pos hf.out]) hB.out
      · obtain rfl : k = l.length := by omega
        go_wp2_with fail
        go_meet
        exact ⟨rfl, rfl, N, KD, rfl, rfl, HB.out⟩
  case rest =>
    obtain ⟨rfl, rfl, N, KD, rfl, rfl, hN, hKD, hbad, hbw⟩ := hcut
    rw [List.take_of_length_le (Nat.le_refl _)] at hN hKD hbad
    have HB := hide (And.intro hN (And.intro hKD (And.intro hbad hbw)))
    obtain ⟨hKD3, hKD4⟩ : 1 ≤ KD ∧ KD ≤ 2 := by rw [hKD]; unfold kindOf; split <;> omega
    clear hN hKD hbad hbw
    cases N
    · obtain ⟨i0, hi, hz0, hz1, hz2⟩ := info_parts info38
      go_wp2_with fail
      go_loopw [2, 4, 38] (fun o r4 i wr => ∃ k : Nat, k ≤ l.length ∧ i = .int .i64 k ∧ r4 = .int .i64 0 ∧ Made w l KD k o wr) (fun _ _ i _ => l.length - (intOf i).toNat)
      case atStart => exact ⟨0, Nat.zero_le _, rfl, rfl, ⟨by simp [rowOf, cellsOf], .inl ⟨rfl, rfl⟩⟩, HB.out.2.2.2, fun _ => by simp [allDec]⟩
      case round =>
        obtain ⟨k, hk, rfl, rfl, hown, hbw, hall⟩ := hrel
        have HM := hide (And.intro hbw hall)
        by_cases hlt : k < l.length
        · obtain ⟨c1, c2, c3⟩ := HV.out.below hbw hbk k hlt
          have hv3 := HK.out l[k] (List.getElem_mem hlt)
          have HT := hide (take_more l k hlt)
          clear hbw hall
          obtain ⟨v, hvk⟩ : ∃ v, l[k] = v := ⟨_, rfl⟩
          rw [hvk] at c1 c2 c3 hv3 HT
          have HD := hide (fun W => dec_calls v W hv3.2.2)
          have HVK := hide hvk
          clear hvk hv3
          by_cases hkd : KD = 2
          · have hk2 : (KD == 2) = true := by simpa using hkd
            have HKD := hide hkd
            clear hkd
            go_wp2_with fail
            refine (HD.out _).mono ?_
            rintro e w1 ⟨rfl, hn⟩
            obtain ⟨d1, d2, d3, f1, f2, f3⟩ := ((Three.new _ _ _ _ _).below hn (by simp)).facts
            have hB := hide (((Below.refl wr.heap.size wr).alloc (Nat.le_refl _) _).trans (hn.mono (by simp)))
            have hsz := hB.out.size
            have hsz2 : wr.heap.size + 1 ≤ w1.heap.size := by have := hn.size; simp at this; omega
            clear hn
            by_cases hov : (decF v).2 = 0
            · have hov' : ((decF v).2 != 0) = false := by simpa using hov
              have HOV := hide hov
              clear hov
              have hfin := hide (made_dec (v := v) HM.out.2 HKD.out HT.out HOV.out)
              unfold Val.enc
              go_wp2_with (at_builtin; go_must (refine wpList_append_own _ rfl _ _ 72 rfl w.heap.size 38 i0 _ 3 32 Try.underlying72 hi hz0 hz1 hz2 rfl (by decide) _ k (rowOf l KD k) rfl ?_ ⟨w1.heap.size, 0, none⟩ 1 1 [.int .u8 KD, .int .i64 (decF v).1.n, .string ⟨#[]⟩] rfl rfl ?_ ?_ ?_ ?_ ?_ ?_))
              · exact own_later hown ((((hB.out.setCell (p := ⟨wr.heap.size, 0, none⟩) (Nat.le_refl _) _).setCell (p := ⟨wr.heap.size, 1, none⟩) (Nat.le_refl _) _).setCell (p := ⟨wr.heap.size, 2, none⟩) (Nat.le_refl _) _).alloc (by simpa using hsz) _)
              · intro j u hu
                match j, hu with
                | 0, h => cases h; simp [go_sem]
                | 1, h => cases h; simp [go_sem]
                | 2, h => cases h; simp [go_sem]
              · intro u hu
                simp at hu
                rcases hu with rfl | rfl | rfl <;> rfl
              · unfold maxLen; omega
              · omega
              · have := HM.out.1.size; simp; omega
              intro v2 w2 hown2 hgrow2 _
              rw [hfin.out.1] at hown2
              have hw2 := hide (HM.out.1.trans (((((hB.out.setCell (p := ⟨wr.heap.size, 0, none⟩) (Nat.le_refl _) _).setCell (p := ⟨wr.heap.size, 1, none⟩) (Nat.le_refl _) _).setCell (p := ⟨wr.heap.size, 2, none⟩) (Nat.le_refl _) _).alloc (by simpa using hsz) _).mono HM.out.1.size |>.grown hgrow2 (by have := HM.out.1.size; simp; omega) (own_block_ge hown)))
              clear hgrow2
              go_wp2_with fail
              go_roundw
              case rel => exact ⟨k + 1, by omega, by go_num, by rw [HOV.out], hown2, hw2.out, hfin.out.2⟩
              case measure => simp [intOf]; omega
            · have hov' : ((decF v).2 != 0) = true := by simpa using hov
              have hfin := hide (alike_over (l := l) HB.out.2.2.1 HB.out.1 (by rw [← HB.out.2.1]; exact HKD.out) hlt (by rw [HVK.out]; exact hov))
              rw [HVK.out] at hfin
              clear hov
              unfold Val.enc
              go_wp2_with fail
              go_ret3
              exact AlikePost.none hfin.out (HM.out.1.trans ((((hB.out.setCell (p := ⟨wr.heap.size, 0, none⟩) (Nat.le_refl _) _).setCell (p := ⟨wr.heap.size, 1, none⟩) (Nat.le_refl _) _).setCell (p := ⟨wr.heap.size, 2, none⟩) (Nat.le_refl _) _).mono HM.out.1.size))
          · have hk2 : (KD == 2) = false := by simpa using hkd
            have HKD := hide hkd
            have hfin := hide (made_int (l := l) (v := v) HM.out.2 hkd (by omega) HT.out)
            clear hkd HD
            go_wp2_with (at_builtin; go_must (refine wpList_append_own _ rfl _ _ 72 rfl w.heap.size 38 i0 _ 3 32 Try.underlying72 hi hz0 hz1 hz2 rfl (by decide) _ k (rowOf l KD k) rfl ?_ ⟨wr.heap.size + 1, 0, none⟩ 1 1 [.int .u8 KD, .int .i64 v.n, .string ⟨#[]⟩] rfl rfl ?_ ?_ ?_ ?_ ?_ ?_))
            · exact own_later hown (((Below.refl wr.heap.size wr).alloc (Nat.le_refl _) _).alloc (by simp) _)
            · intro j u hu
              match j, hu with
              | 0, h => cases h; simp [go_sem]
              | 1, h => cases h; simp [go_sem]
              | 2, h => cases h; simp [go_sem]
            · intro u hu
              simp at hu
              rcases hu with rfl | rfl | rfl <;> rfl
            · unfold maxLen; omega
            · omega
            · have := HM.out.1.size; simp; omega
            intro v2 w2 hown2 hgrow2 _
            rw [hfin.out.1] at hown2
            have hw2 := hide (HM.out.1.trans ((((Below.refl wr.heap.size wr).alloc (Nat.le_refl _) _).alloc (by simp) _).mono HM.out.1.size |>.grown hgrow2 (by have := HM.out.1.size; simp; omega) (own_block_ge hown)))
            clear hgrow2
            go_wp2_with fail
            go_roundw
            case rel => exact ⟨k + 1, by omega, by go_num, rfl, hown2, hw2.out, hfin.out.2⟩
            case measure => simp [intOf]; omega
        · obtain rfl : k = l.length := by omega
          have hfin := hide (alike_made (l := l) HB.out.2.2.1 HB.out.1 (by rw [← HB.out.2.1]; exact HM.out.2))
          go_wp2_with fail
          go_ret3
          refine AlikePost.own hfin.out ?_ HM.out.1
          rw [List.length_map]
          unfold rowOf at hown
          rw [List.take_of_length_le (Nat.le_refl _), HB.out.2.1] at hown
          exact hown
    · go_wp2_with fail
      go_ret3
      exact AlikePost.none (by unfold alikeF; rw [HB.out.2.2.1, ← HB.out.1]; rfl) HB.out.2.2.2
end Go.Proofs.Ytlmjcifiofobpaa
