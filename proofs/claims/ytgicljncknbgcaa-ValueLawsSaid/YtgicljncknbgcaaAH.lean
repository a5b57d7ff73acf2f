/- append. -/
import Derived.Test.YtgicljncknbgcaaAG
import Derived.Laws.OwnMore
namespace Go.Proofs.Ytgicljncknbgcaa.Abs
open Go Go.ChangeShapes Go.WideShapes Go.ChangeAt Go.RowKit
set_option linter.unusedVariables false
set_option linter.unusedSimpArgs false

def clearStore (ts : List Nat) (s : List Ob) : List Ob := s.map fun o => { o with cs := o.cs.map (clearMark ts) }
theorem clearStore_get {ts : List Nat} {s : List Ob} {i : Nat} {o : Ob} (h : (clearStore ts s)[i]? = some o) : ∃ o', s[i]? = some o' ∧ o = { o' with cs := o'.cs.map (clearMark ts) } := by
  unfold clearStore at h
  rw [List.getElem?_map] at h
  cases hh : s[i]? with
  | none => rw [hh] at h; cases h
  | some o' => rw [hh] at h; simp at h; exact ⟨o', rfl, h.symm⟩
/-- the store behind a step that writes one of its own rows beyond what is seen of it -/
theorem Sim.clear {M : Nat → Prop} {G : Gh} {s : List Ob} {w : World} (ts : List Nat) (h : Sim M G s w) : Sim M G (clearStore ts s) w := by
  refine ⟨by simp [clearStore, h.n], h.inj, h.own, ?_, h.lt, ?_⟩
  · intro i o hi hol
    obtain ⟨o', h1, rfl⟩ := clearStore_get hi
    exact h.live i o' h1 hol
  · intro i o hi hl
    obtain ⟨o', h1, rfl⟩ := clearStore_get hi
    obtain ⟨vs, h2, h3, h4⟩ := h.at_ i o' h1 hl
    refine ⟨vs, h2, by simpa using h3, fun k a v hk hv => ?_⟩
    rw [List.getElem?_map] at hk
    cases hh : o'.cs[k]? with
    | none => rw [hh] at hk; cases hk
    | some x =>
      rw [hh] at hk
      simp at hk
      subst hk
      obtain ⟨k1, k2⟩ := h4 k x v hh hv
      exact ⟨clearMark_VR0 ts k1, clearMark_OwnC ts k2⟩
theorem Sim.keepRow {M : Nat → Prop} {G G' : Gh} {s : List Ob} {w w' : World} {g t0 : Nat} (h : Sim M G s w) (hE : Ext (fun b => b = g) G w G' w') (hn : G'.n = G.n) (hmu : G'.mu = G.mu) (hlive : G'.live = G.live) (hown : ∀ i, i < G.n → G.live i = true → G'.own (G.mu i) = false)
    (hb : ∀ i, i < G.n → G.live i = true → w'.heap[G.mu i]? = w.heap[G.mu i]?) (htg : G.tg g = t0) : Sim M G' (clearStore [t0] s) w' := by
  have hc := h.clear [t0]
  refine ⟨hn.trans hc.n, ?_, ?_, ?_, fun {i} hi hl => by
    rw [hn] at hi
    rw [hlive] at hl
    rw [hmu]
    exact Nat.lt_of_lt_of_le (h.lt hi hl) hE.size, ?_⟩
  · rw [hn, hmu, hlive]; exact hc.inj
  · intro i hi hl
    rw [hn] at hi
    rw [hlive] at hl
    rw [hmu]
    exact hown i hi hl
  · intro i o hi hol
    rw [hlive]
    exact hc.live i o hi hol
  · intro i o hi hl
    obtain ⟨vs, h2, h3, h4⟩ := hc.at_ i o hi hl
    have hi' : i < G.n := by rw [hc.n]; exact lt_of_some hi
    refine ⟨vs, ?_, h3, fun k a v hk hv => ?_⟩
    · rw [hmu, hb i hi' (hc.live i o hi hl)]
      exact h2
    · refine (h4 k a v hk hv).keep hE ?_
      intro b t hm ht _ _ _ _ hbg
      obtain ⟨o', e1, rfl⟩ := clearStore_get hi
      rw [List.getElem?_map] at hk
      cases hh : o'.cs[k]? with
      | none => rw [hh] at hk; cases hk
      | some x =>
        rw [hh] at hk
        simp at hk
        subst hk
        have := clearMark_mark hm
        subst hbg
        rw [← ht, htg] at this
        simp at this
theorem FR.keepRow {M : Nat → Prop} {G G' : Gh} {w w' : World} {fr : List AV} {a : Act} {g t0 : Nat} (hf : FR M G w fr a) (hE : Ext (fun b => b = g) G w G' w') (htg : G.tg g = t0) : FR M G' w' (clearMarks [t0] fr) a := by
  refine (hf.clear [t0]).keep hE ?_
  intro t b k hk hb _ _ _ _ hbg
  unfold clearMarks at hk
  rw [List.getD_eq_getElem?_getD, List.getElem?_map] at hk
  cases hh : fr[t]? with
  | none => rw [hh] at hk; cases hk
  | some x =>
    rw [hh] at hk
    have := clearMark_mark hk
    subst hbg
    rw [← hb, htg] at this
    simp at this

theorem own_list {M : Nat → Prop} {G' : Gh} {w' : World} {cs : List AV} {vs : List Value} {cur : Array Value} {e : TypeId} {size n cap g d : Nat} (hM : M g) (how : G'.own g = true) (hob : ¬ G'.obj g) (hphi : G'.phi g = cs.length) (htg : G'.tg g = d)
    (hh : w'.heap[g]? = some (.cells cur e (0, 0))) (hn : n ≤ cap) (hcap : cap ≤ maxLen) (hcur : cur.size = cap * size) (hcs : cs.length = n * size) (htake : cur.toList.take (n * size) = vs) (hv : VRs0 G' w' cs vs) :
    VR M G' w' (.list cs n (.own d e size)) (.slice (some ⟨g, 0, none⟩) n cap) := by
  have hlt : g < w'.heap.size := by
    rcases Nat.lt_or_ge g w'.heap.size with h1 | h1
    · exact h1
    · rw [Array.getElem?_eq_none h1] at hh; cases hh
  refine ⟨?_, .inr ⟨g, cap, cur, rfl, hM, how, hob, hphi, htg, hh, hn, hcap, hcur, hcs⟩⟩
  simp only [VR0]
  refine ⟨_, cap, rfl, hn, (fun h => by cases h), .inr ⟨g, 0, vs, rfl, ⟨hlt, hob, fun _ => by omega⟩, ?_, hv⟩⟩
  intro i v hi
  rw [Nat.zero_add]
  have : w'.heap[g]? = some (.cells cur.toList.toArray e (0, 0)) := by simpa using hh
  rw [cell_of_vs this, ← hi, ← htake, List.getElem?_take]
  split
  · rfl
  · rename_i hge
    rw [← htake, List.getElem?_take, if_neg hge] at hi
    cases hi
/-- may as many elements of a type be in memory? -/
def fitsB (P : Program) (e : TypeId) (size n : Nat) : Bool :=
  match P.info? e with
  | some i => decide (n * i.bytes ≤ 140737488355328) && decide (n ≤ 140737488355328) && (match i.zero with | some z => z.cells.size == size | none => false)
  | none => false
theorem fitsB_spec {P : Program} {e : TypeId} {size n : Nat} (h : fitsB P e size n = true) : ∃ i z, P.info? e = some i ∧ i.zero = some z ∧ z.cells.size = size ∧ n * i.bytes ≤ 140737488355328 ∧ n ≤ 140737488355328 := by
  unfold fitsB at h
  split at h
  · rename_i i hi
    cases hz : i.zero with
    | none => rw [hz] at h; simp at h
    | some z =>
      rw [hz] at h
      simp at h
      exact ⟨i, z, hi, hz, h.2, h.1.1, h.1.2⟩
  · cases h
section
variable {P : Program} {o : Oper} {fr : List AV} {s : List Ob}
theorem news_of {G : Gh} {w : World} {cs : List AV} {m size : Nat} {g : Tag} {v : Value} (hv : VR0 G w (.list cs m g) v) (hl : cs.length = m * size) (h0 : 0 < m) (hs : 0 < size) (hone : cs.all AV.one = true) :
    ∃ (ad : Addr) (cap : Nat) (news : List Value), v = .slice (some ad) m cap ∧ news.length = m * size ∧ (∀ j u, news[j]? = some u → w.cell? (ad.add j) = some u) ∧ (∀ u ∈ news, u.oneCell' = true) ∧ VRs0 G w cs news := by
  simp only [VR0] at hv
  obtain ⟨A, cap, e1, e2, e3, e4⟩ := hv
  have hne : cs ≠ [] := by
    intro h
    subst h
    have := Nat.mul_pos h0 hs
    simp at hl
    omega
  rcases e4 with e4 | ⟨b, ob, vs, rfl, e5, e6, e7⟩
  · exact absurd e4 hne
  · refine ⟨⟨b, ob, none⟩, cap, vs, e1, e7.length.trans hl, fun j u hj => by rw [Addr_add]; exact e6 j u hj, ?_, e7⟩
    intro u hu
    obtain ⟨j, hj⟩ := List.getElem?_of_mem hu
    have hj' : j < cs.length := by have := lt_of_some hj; have := e7.length; omega
    obtain ⟨u', k1, k2⟩ := e7.get j cs[j] (List.getElem?_eq_getElem hj')
    rw [hj] at k1
    cases k1
    exact one_cell (List.all_eq_true.1 hone _ (List.getElem_mem hj')) k2
theorem VRs0.app {G : Gh} {w : World} : ∀ {l m : List AV} {x y : List Value}, VRs0 G w l x → VRs0 G w m y → VRs0 G w (l ++ m) (x ++ y)
  | [], _, _, _, h1, h2 => by simp only [VRs0] at h1; subst h1; exact h2
  | a :: l, m, x, y, h1, h2 => by
    simp only [VRs0] at h1
    obtain ⟨v, vs', rfl, h3, h4⟩ := h1
    simp only [List.cons_append, VRs0]
    exact ⟨v, _, rfl, h3, h4.app h2⟩
/-- a new row of the call's own -/
theorem new_row {M : Nat → Prop} {G : Gh} {w : World} {a : Act} {cs : List AV} {vs : List Value} {arr : Array Value} {e : TypeId} {size n cap d : Nat} (hF : Fresh M w) (hS : Sim M G s w) (hf : FR M G w fr a)
    (hv : VRs0 G w cs vs) (hn : n ≤ cap) (hcap : cap ≤ maxLen) (hcur : arr.size = cap * size) (hcs : cs.length = n * size) (htake : arr.toList.take (n * size) = vs) :
    ∃ G', Ext (fun _ => False) G w G' (w.drew.alloc (.cells arr e)) ∧ Sim M G' s (w.drew.alloc (.cells arr e)) ∧ FR M G' (w.drew.alloc (.cells arr e)) fr a ∧ VR M G' (w.drew.alloc (.cells arr e)) (.list cs n (.own d e size)) (.slice (some ⟨w.heap.size, 0, none⟩) n cap) := by
  have hg := grown_drew_alloc w (.cells arr e)
  have hm := More.addRow G w d cs.length
  have hE := Ext.grow hg hm
  refine ⟨_, hE, hS.grow hg hm rfl, hf.grow hE, own_list (hF _ (Nat.le_refl _)) (by simp [Gh.addRow]) ?_ (by simp [Gh.addRow]) (by simp [Gh.addRow]) (heap_alloc_new w.drew _) hn hcap hcur hcs htake (VRs0.mono hE cs vs hv)⟩
  rintro ⟨i, hi, h1, h2⟩
  have := hS.lt (i := i) hi h1
  simp only [Gh.addRow] at h2
  omega
/-- a step that leaves every old row as it was -/
def StepF (P : Program) (o : Oper) (fr : List AV) (s : List Ob) (fr' : List AV) (v : AV) (s' : List Ob) : Prop :=
  ∀ M G w a, Fresh M w → Sim M G s w → FR M G w fr a → ∀ (K : Act → World → Prop) (Q : Exit → Act → World → Prop),
    (∀ cv G' w', Ext (fun _ => False) G w G' w' → Sim M G' s' w' → FR M G' w' fr' a → VR M G' w' v cv → K (a.put o.dst cv) w') → o.wp P a w K Q
theorem StepF.step {fr' : List AV} {v : AV} {s' : List Ob} (h : StepF P o fr s fr' v s') : Step P o fr s fr' v s' :=
  fun M G w a hF hS hf K Q hK => h M G w a hF hS hf K Q fun cv G' w' hE => hK cv G' w' (hE.mono fun _ _ => False.elim)
theorem Step_append_fullF {c : Call} {x y : Operand} {t e : TypeId} {cs cs2 : List AV} {n m size : Nat} {g2 : Tag} (d : Nat) (ho : o.op = .call c) (hc : c.callee = .builtin .append) (ha : c.args = #[x, y]) (ht : c.argTypes = #[t, t]) (he : aElem P t = some (e, size))
    (hx : aEval fr x = .list cs n .full) (hy : aEval fr y = .list cs2 m g2) (h0 : 0 < m) (hl1 : cs.length = n * size) (hl2 : cs2.length = m * size) (hone : cs2.all AV.one = true) (hfit : fitsB P e size (n + m) = true) :
    StepF P o fr s fr (.list (cs ++ cs2) (n + m) (.own d e size)) s := by
  intro M G w a hF hS hf K Q hK
  have hv := (hf.eval x).1
  rw [hx] at hv
  simp only [VR0] at hv
  obtain ⟨A, cap, e1, e2, e3, e4⟩ := hv
  have hu := (hf.eval y).1
  rw [hy] at hu
  obtain ⟨k2, i', k3, k4, k5⟩ := aElem_spec he
  obtain ⟨i, z, f1, f2, f3, f4, f5⟩ := fitsB_spec hfit
  rw [k3] at f1
  cases f1
  obtain ⟨ad, capy, news, r1, r2, r3, r4, r5⟩ := news_of hu hl2 h0 k5 hone
  have hcap : cap = n := e3 trivial
  subst hcap
  -- the old cells
  have hold : ∃ vs : List Value, VRs0 G w cs vs ∧ vs.length = cap * size ∧ (∀ b, A = some b → ∀ j v, vs[j]? = some v → w.cell? (b.add j) = some v) ∧ (A = none → cap = 0) := by
    rcases e4 with e4 | ⟨b, ob, vs, rfl, e5, e6, e7⟩
    · subst e4
      refine ⟨[], by simp only [VRs0], by simpa using hl1, fun b _ j v hj => by simp at hj, fun _ => ?_⟩
      have : cap * size = 0 := by simpa using hl1.symm
      rcases Nat.mul_eq_zero.1 this with h | h
      · exact h
      · omega
    · refine ⟨vs, e7, e7.length.trans hl1, fun b' hb j v hj => ?_, fun h => by cases h⟩
      cases hb
      rw [Addr_add]
      exact e6 j v hj
  obtain ⟨vs, q1, q2, q3, q4⟩ := hold
  have hlen : (vs ++ news).length = (cap + m) * size := by rw [List.length_append, q2, r2, Nat.add_mul]
  have hge := grownCap_ge w (cap + m) cap e
  have hcm : grownCap w (cap + m) cap e ≤ maxLen := grownCap_le_maxLen w (cap + m) cap e (by unfold maxLen; omega)
  have hrun : (Builtin.append_ #[t, t] o.type #[a.eval x, a.eval y]).run P w = .ok (.slice (some ⟨w.heap.size, 0, none⟩) (cap + m) (grownCap w (cap + m) cap e))
      (w.drew.alloc (.cells (vs.toArray ++ news.toArray ++ Builtin.zeroCells z.cells (grownCap w (cap + m) cap e - (cap + m))) e)) := by
    rw [e1, r1]
    cases A with
    | none =>
      have := q4 rfl
      subst this
      have hvs : vs = [] := List.eq_nil_of_length_eq_zero (by simpa using q2)
      subst hvs
      have := run_append_nil (P := P) w t o.type e i' z k2 k3 f2 ad m capy news (by rw [r2, k4]) r3 h0 (by omega) (by have := f4; simp only [Nat.zero_add] at this; omega)
      simpa using this
    | some b =>
      exact run_append_grow (P := P) w t o.type e i' z k2 k3 f2 b cap cap vs (by rw [q2, k4]) (q3 b rfl) ad m capy news (by rw [r2, k4]) r3 (by omega) (by omega) (growslice_fits (by omega) f4)
  have hsz : (vs.toArray ++ news.toArray ++ Builtin.zeroCells z.cells (grownCap w (cap + m) cap e - (cap + m))).size = grownCap w (cap + m) cap e * size := by
    simp only [Array.size_append, List.size_toArray, size_zeroCells, f3, q2, r2, ← Nat.add_mul]
    congr 1
    omega
  have htk : (vs.toArray ++ news.toArray ++ Builtin.zeroCells z.cells (grownCap w (cap + m) cap e - (cap + m))).toList.take ((cap + m) * size) = vs ++ news := by
    simp only [Array.toList_append, List.append_assoc]
    rw [← List.append_assoc, ← hlen]
    exact List.take_left
  obtain ⟨G', p1, p2, p3, p4⟩ := new_row (d := d) (e := e) hF hS hf (q1.app r5) hge hcm hsz (by rw [List.length_append, hl1, hl2, Nat.add_mul]) htk
  unfold Oper.wp
  have hexec : (execOp a.eval o).run P w = .ok (.value (.slice (some ⟨w.heap.size, 0, none⟩) (cap + m) (grownCap w (cap + m) cap e))) (w.drew.alloc (.cells (vs.toArray ++ news.toArray ++ Builtin.zeroCells z.cells (grownCap w (cap + m) cap e - (cap + m))) e)) := by
    simp only [execOp, ho, Sem.run_bind, resolve, hc, ha, ht, invoke, builtin, Sem.run_pure, Result.andThen_ok, List.map_toArray, List.map_cons, List.map_nil]
    rw [hrun]
    rfl
  rw [hexec, Oper.upon_value]
  exact hK _ G' _ p1 p2 p3 p4
theorem Step_append_full {c : Call} {x y : Operand} {t e : TypeId} {cs cs2 : List AV} {n m size : Nat} {g2 : Tag} (d : Nat) (ho : o.op = .call c) (hc : c.callee = .builtin .append) (ha : c.args = #[x, y]) (ht : c.argTypes = #[t, t]) (he : aElem P t = some (e, size))
    (hx : aEval fr x = .list cs n .full) (hy : aEval fr y = .list cs2 m g2) (h0 : 0 < m) (hl1 : cs.length = n * size) (hl2 : cs2.length = m * size) (hone : cs2.all AV.one = true) (hfit : fitsB P e size (n + m) = true) :
    Step P o fr s fr (.list (cs ++ cs2) (n + m) (.own d e size)) s :=
  (Step_append_fullF d ho hc ha ht he hx hy h0 hl1 hl2 hone hfit).step
/-- a step that writes rows of these marks alone -/
def StepM (P : Program) (o : Oper) (ts : List Nat) (fr : List AV) (s : List Ob) (fr' : List AV) (v : AV) (s' : List Ob) : Prop :=
  ∀ M G w a, Fresh M w → Sim M G s w → FR M G w fr a → ∀ (K : Act → World → Prop) (Q : Exit → Act → World → Prop),
    (∀ cv G' w', Ext (fun b => M b ∧ G.tg b ∈ ts) G w G' w' → Sim M G' s' w' → FR M G' w' fr' a → VR M G' w' v cv → K (a.put o.dst cv) w') → o.wp P a w K Q
theorem StepM.step {ts : List Nat} {fr' : List AV} {v : AV} {s' : List Ob} (h : StepM P o ts fr s fr' v s') : Step P o fr s fr' v s' :=
  fun M G w a hF hS hf K Q hK => h M G w a hF hS hf K Q fun cv G' w' hE => hK cv G' w' (hE.mono fun _ _ h => h.1)
theorem Step_append_ownM {c : Call} {x y : Operand} {t e : TypeId} {cs cs2 : List AV} {n m size t0 : Nat} {g2 : Tag} (d : Nat) (ho : o.op = .call c) (hc : c.callee = .builtin .append) (ha : c.args = #[x, y]) (ht : c.argTypes = #[t, t]) (he : aElem P t = some (e, size))
    (hx : aEval fr x = .list cs n (.own t0 e size)) (hy : aEval fr y = .list cs2 m g2) (h0 : 0 < m) (hl2 : cs2.length = m * size) (hone : cs2.all AV.one = true) (hfit : fitsB P e size (n + m) = true) :
    StepM P o [t0] fr s (clearMarks [t0] fr) (.list (cs ++ cs2) (n + m) (.own d e size)) (clearStore [t0] s) := by
  intro M G w a hF hS hf K Q hK
  have hvr := hf.eval x
  rw [hx] at hvr
  obtain ⟨hv, hown⟩ := hvr
  simp only [VR0] at hv
  obtain ⟨A, cap0, e1, e2, e3, e4⟩ := hv
  have hu := (hf.eval y).1
  rw [hy] at hu
  obtain ⟨k2, i', k3, k4, k5⟩ := aElem_spec he
  obtain ⟨i, z, f1, f2, f3, f4, f5⟩ := fitsB_spec hfit
  rw [k3] at f1
  cases f1
  obtain ⟨ad, capy, news, r1, r2, r3, r4, r5⟩ := news_of hu hl2 h0 k5 hone
  have hexec : ∀ v' w', (Builtin.append_ #[t, t] o.type #[a.eval x, a.eval y]).run P w = .ok v' w' → (execOp a.eval o).run P w = .ok (.value v') w' := by
    intro v' w' hrun
    simp only [execOp, ho, Sem.run_bind, resolve, hc, ha, ht, invoke, builtin, Sem.run_pure, Result.andThen_ok, List.map_toArray, List.map_cons, List.map_nil]
    rw [hrun]
    rfl
  have grow : ∀ (old : Nat) (vs : List Value), old < n + m → VRs0 G w cs vs → vs.length = n * size → cs.length = n * size →
      (Builtin.append_ #[t, t] o.type #[a.eval x, a.eval y]).run P w = .ok (.slice (some ⟨w.heap.size, 0, none⟩) (n + m) (grownCap w (n + m) old e)) (w.drew.alloc (.cells (vs.toArray ++ news.toArray ++ Builtin.zeroCells z.cells (grownCap w (n + m) old e - (n + m))) e)) → o.wp P a w K Q := by
    intro old vs hold hvs hvl hcl hrun
    have hge := grownCap_ge w (n + m) old e
    have hcm : grownCap w (n + m) old e ≤ maxLen := grownCap_le_maxLen w (n + m) old e (by unfold maxLen; omega)
    have hlen : (vs ++ news).length = (n + m) * size := by rw [List.length_append, hvl, r2, Nat.add_mul]
    have hsz : (vs.toArray ++ news.toArray ++ Builtin.zeroCells z.cells (grownCap w (n + m) old e - (n + m))).size = grownCap w (n + m) old e * size := by
      simp only [Array.size_append, List.size_toArray, size_zeroCells, f3, hvl, r2, ← Nat.add_mul]
      congr 1
      omega
    have htk : (vs.toArray ++ news.toArray ++ Builtin.zeroCells z.cells (grownCap w (n + m) old e - (n + m))).toList.take ((n + m) * size) = vs ++ news := by
      simp only [Array.toList_append, List.append_assoc]
      rw [← List.append_assoc, ← hlen]
      exact List.take_left
    obtain ⟨G', p1, p2, p3, p4⟩ := new_row (d := d) (e := e) hF hS hf (hvs.app r5) hge hcm hsz (by rw [List.length_append, hcl, hl2, Nat.add_mul]) htk
    unfold Oper.wp
    rw [hexec _ _ hrun, Oper.upon_value]
    exact hK _ G' _ (p1.mono fun _ _ => False.elim) (p2.clear _) (p3.clear _) p4
  rcases hown with ⟨A', hfull, hl1⟩ | ⟨g, cap, cur, hv', hMg, hog, hobj, hphi, htg, hh, hncap, hcapm, hcur, hcl⟩
  · rw [e1] at hfull
    cases hfull
    have hold : ∃ vs : List Value, VRs0 G w cs vs ∧ vs.length = n * size ∧ (∀ b, A = some b → ∀ j v, vs[j]? = some v → w.cell? (b.add j) = some v) ∧ (A = none → n = 0) := by
      rcases e4 with e4 | ⟨b, ob, vs, rfl, e5, e6, e7⟩
      · subst e4
        refine ⟨[], by simp only [VRs0], by simpa using hl1, fun b _ j v hj => by simp at hj, fun _ => ?_⟩
        have : n * size = 0 := by simpa using hl1.symm
        rcases Nat.mul_eq_zero.1 this with h | h
        · exact h
        · omega
      · refine ⟨vs, e7, e7.length.trans hl1, fun b' hb j v hj => ?_, fun h => by cases h⟩
        cases hb
        rw [Addr_add]
        exact e6 j v hj
    obtain ⟨vs, q1, q2, q3, q4⟩ := hold
    refine grow n vs (by omega) q1 q2 hl1 ?_
    rw [e1, r1]
    cases A with
    | none =>
      have := q4 rfl
      subst this
      have hvs : vs = [] := List.eq_nil_of_length_eq_zero (by simpa using q2)
      subst hvs
      have := run_append_nil (P := P) w t o.type e i' z k2 k3 f2 ad m capy news (by rw [r2, k4]) r3 h0 (by omega) (by have := f4; simp only [Nat.zero_add] at this; omega)
      simpa using this
    | some b =>
      exact run_append_grow (P := P) w t o.type e i' z k2 k3 f2 b n n vs (by rw [q2, k4]) (q3 b rfl) ad m capy news (by rw [r2, k4]) r3 (by omega) (by omega) (growslice_fits (by omega) f4)
  · rw [e1] at hv'
    cases hv'
    have hvs : ∃ vs : List Value, VRs0 G w cs vs ∧ vs.length = n * size ∧ cur.toList.take (n * size) = vs := by
      have hlc : n * size ≤ cur.toList.length := by
        have := Nat.mul_le_mul_right size hncap
        simp; omega
      rcases e4 with e4 | ⟨b, ob, vs, e5', e5, e6, e7⟩
      · subst e4
        have h1 : n * size = 0 := by simpa using hcl.symm
        exact ⟨[], by simp only [VRs0], by simpa using h1.symm, by rw [h1]; simp⟩
      · cases e5'
        have hl := e7.length
        refine ⟨vs, e7, hl.trans hcl, List.ext_getElem? fun j => ?_⟩
        rw [List.getElem?_take]
        have hh' : w.heap[g]? = some (.cells cur.toList.toArray e (0, 0)) := by simpa using hh
        split
        · rename_i hj
          have hj' : j < vs.length := by omega
          have := e6 j vs[j] (List.getElem?_eq_getElem hj')
          rw [Nat.zero_add, cell_of_vs hh'] at this
          rw [this, List.getElem?_eq_getElem hj']
        · rename_i hj
          rw [List.getElem?_eq_none (by omega)]
    obtain ⟨vs, q1, q2, q3⟩ := hvs
    have hrow : w.ownsRow 0 e size (.slice (some ⟨g, 0, none⟩) n cap0) n vs := ⟨q2, .inr ⟨g, cap0, cur, rfl, Nat.zero_le _, hh, hncap, hcapm, hcur, q3⟩⟩
    by_cases hroom : n + m ≤ cap0
    · obtain ⟨w', g1, g2', g3⟩ := run_append_fits (P := P) w 0 t o.type e i' size k2 k3 k4 g n cap0 vs hrow ad m capy news r2 r3 r4 hroom
      have hglt : g < w.heap.size := by
        rcases Nat.lt_or_ge g w.heap.size with h1 | h1
        · exact h1
        · rw [Array.getElem?_eq_none h1] at hh; cases hh
      rcases g2'.2 with ⟨hbad, _⟩ | ⟨g', cap', cur', hv2, _, hh2, hn2, hcap2, hcur2, htake2⟩
      · cases hbad
      · cases hv2
        obtain ⟨G', hG'⟩ : ∃ G' : Gh, G' = { G with phi := fun b => if b = g then (cs ++ cs2).length else G.phi b, tg := fun b => if b = g then d else G.tg b } := ⟨_, rfl⟩
        have hE : Ext (fun b => b = g) G w G' w' := by
          subst hG'
          refine ⟨g3.size, g3.os, g3.tape, g3.output, Nat.le_refl _, fun _ _ h => h, fun _ _ => rfl, fun j h4 h5 => by simp only at h5; omega, fun _ _ => rfl, ?_, ?_, ?_, ?_⟩
          · intro b hb ho'
            simp only
            split
            · rename_i hbg; subst hbg; rw [hphi]; simp
            · exact Nat.le_refl _
          · intro b hb ho' hw
            refine g3.block b hb ?_
            intro e
            cases e
            rw [hog] at hw
            cases hw
          · intro b hb ho' hw k hk
            by_cases hbg : b = g
            · subst hbg
              have hh' : w.heap[b]? = some (.cells cur.toList.toArray e (0, 0)) := by simpa using hh
              have hh2' : w'.heap[b]? = some (.cells cur'.toList.toArray e (0, 0)) := by simpa using hh2
              rw [cell_of_vs hh', cell_of_vs hh2']
              rw [hphi, hcl] at hk
              have a1 : (cur.toList.take (n * size))[k]? = cur.toList[k]? := by rw [List.getElem?_take, if_pos hk]
              have a2 : (cur'.toList.take ((n + m) * size))[k]? = cur'.toList[k]? := by rw [List.getElem?_take, if_pos (by rw [Nat.add_mul]; omega)]
              rw [← a1, ← a2, q3, htake2, List.getElem?_append_left (by omega)]
            · exact World.cell?_of_block (w := w) (g3.block b hb (fun e => hbg (by cases e; rfl)))
          · intro b hb ho' hw hbg
            exact ⟨g3.block b hb (fun e => hbg (by cases e; rfl)), by simp only; rw [if_neg hbg], by simp only; rw [if_neg hbg]⟩
        have hobne : ∀ i, i < G.n → G.live i = true → G.mu i ≠ g := fun i hi hl e => hobj ⟨i, hi, hl, e⟩
        have hS' : Sim M G' (clearStore [t0] s) w' := by
          refine hS.keepRow hE (by rw [hG']) (by rw [hG']) (by rw [hG']) (fun i hi hl => by rw [hG']; exact hS.own i hi hl) (fun i hi hl => g3.block _ (hS.lt hi hl) (fun e => hobne i hi hl (by cases e; rfl))) htg
        have hf' := hf.keepRow hE htg
        unfold Oper.wp
        rw [hexec _ _ (by rw [e1, r1]; exact g1), Oper.upon_value]
        refine hK _ G' w' (hE.mono fun b _ hb => by subst hb; exact ⟨hMg, by rw [htg]; simp⟩) hS' hf' ?_
        refine own_list hMg (by rw [hG']; exact hog) ?_ (by rw [hG']; simp) (by rw [hG']; simp) hh2 hn2 hcap2 hcur2 (by rw [List.length_append, hcl, hl2, Nat.add_mul]) htake2 (VRs0.mono hE _ _ (q1.app r5))
        rw [hG']
        exact hobj
    · refine grow cap0 vs (by omega) q1 q2 hcl ?_
      rw [e1, r1]
      exact run_append_grow (P := P) w t o.type e i' z k2 k3 f2 ⟨g, 0, none⟩ n cap0 vs (by rw [q2, k4]) (hrow.cells (g := g) rfl) ad m capy news (by rw [r2, k4]) r3 (by omega) (by omega) (growslice_fits (by omega) f4)
theorem Step_append_own {c : Call} {x y : Operand} {t e : TypeId} {cs cs2 : List AV} {n m size t0 : Nat} {g2 : Tag} (d : Nat) (ho : o.op = .call c) (hc : c.callee = .builtin .append) (ha : c.args = #[x, y]) (ht : c.argTypes = #[t, t]) (he : aElem P t = some (e, size))
    (hx : aEval fr x = .list cs n (.own t0 e size)) (hy : aEval fr y = .list cs2 m g2) (h0 : 0 < m) (hl2 : cs2.length = m * size) (hone : cs2.all AV.one = true) (hfit : fitsB P e size (n + m) = true) :
    Step P o fr s (clearMarks [t0] fr) (.list (cs ++ cs2) (n + m) (.own d e size)) (clearStore [t0] s) :=
  (Step_append_ownM d ho hc ha ht he hx hy h0 hl2 hone hfit).step
theorem Step_append_none {c : Call} {x y : Operand} {t e : TypeId} {cs : List AV} {n size : Nat} {g g2 : Tag} (ho : o.op = .call c) (hc : c.callee = .builtin .append) (ha : c.args = #[x, y]) (ht : c.argTypes = #[t, t]) (he : aElem P t = some (e, size))
    (hx : aEval fr x = .list cs n g) (hy : aEval fr y = .list [] 0 g2) : Still P o fr s (aEval fr x) := fun M G w a hS hf => by
    refine ⟨a.eval x, ?_, hf.eval x⟩
    have hv := (hf.eval x).1
    rw [hx] at hv
    simp only [VR0] at hv
    obtain ⟨A, cap, e1, e2, e3, e4⟩ := hv
    have hu := (hf.eval y).1
    rw [hy] at hu
    simp only [VR0] at hu
    obtain ⟨A2, cap2, u1, u2, u3, u4⟩ := hu
    obtain ⟨k2, i', k3, k4, k5⟩ := aElem_spec he
    have hrun : (Builtin.append_ #[t, t] o.type #[a.eval x, a.eval y]).run P w = .ok (a.eval x) w := by
      rw [e1, u1]
      cases A <;> cases A2 <;> simp [Builtin.append_, run_underlying k2, run_sizeOf k3, Builtin.lenOf, Builtin.firstCells, e2, loadCells, loadCellsFrom, storeCells]
    simp only [execOp, ho, Sem.run_bind, resolve, hc, ha, ht, invoke, builtin, Sem.run_pure, Result.andThen_ok, List.map_toArray, List.map_cons, List.map_nil]
    rw [hrun]
    rfl
end
end Go.Proofs.Ytgicljncknbgcaa.Abs
