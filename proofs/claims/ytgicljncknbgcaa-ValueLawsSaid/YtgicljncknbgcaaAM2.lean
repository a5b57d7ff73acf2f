/- Functions: how a contract is proved and used. -/
import Derived.Test.YtgicljncknbgcaaAR
namespace Go.Proofs.Ytgicljncknbgcaa.Abs
open Go Go.ChangeShapes Go.WideShapes Go.ChangeAt Go.RowKit
set_option linter.unusedVariables false
set_option linter.unusedSimpArgs false

/-- as a result: nothing is known of what is behind its slices -/
def AV.soft2 : AV → AV
  | .agg cs => .agg (cs.map AV.soft)
  | a => a.soft
theorem VRs0.soft {G : Gh} {w : World} : ∀ {cs : List AV} {vs : List Value}, VRs0 G w cs vs → VRs0 G w (cs.map AV.soft) vs
  | [], _, h => by simpa only [List.map_nil, VRs0] using h
  | a :: as, vs, h => by
    simp only [VRs0] at h
    obtain ⟨v, vs', rfl, h1, h2⟩ := h
    simp only [List.map_cons, VRs0]
    exact ⟨v, vs', rfl, h1.soft, h2.soft⟩
theorem VR0.soft2 {G : Gh} {w : World} {a : AV} {v : Value} (h : VR0 G w a v) : VR0 G w a.soft2 v := by
  cases a with
  | agg cs =>
    simp only [AV.soft2, VR0] at h ⊢
    obtain ⟨vs, h1, h2⟩ := h
    exact ⟨vs, h1, h2.soft⟩
  | _ => exact h.soft
theorem VRs0.soft2 {G : Gh} {w : World} : ∀ {cs : List AV} {vs : List Value}, VRs0 G w cs vs → VRs0 G w (cs.map AV.soft2) vs
  | [], _, h => by simpa only [List.map_nil, VRs0] using h
  | a :: as, vs, h => by
    simp only [VRs0] at h
    obtain ⟨v, vs', rfl, h1, h2⟩ := h
    simp only [List.map_cons, VRs0]
    exact ⟨v, vs', rfl, h1.soft2, h2.soft2⟩
def softR : List AV → AV
  | [a] => a.soft2
  | l => .tuple (l.map AV.soft2)
mutual
theorem VR0.refs {G : Gh} {w : World} : ∀ (a : AV) (v : Value), VR0 G w a v → a.refs G.n = true
  | .undef, _, _ => rfl
  | .int .., _, _ => rfl
  | .bool _, _, _ => rfl
  | .str _, _, _ => rfl
  | .nilp, _, _ => rfl
  | .nilf, _, _ => rfl
  | .ref i o, _, h => by simp only [VR0] at h; simp [AV.refs, h.2]
  | .arr i o, _, h => by simp only [VR0] at h; simp [AV.refs, h.2]
  | .eptr cs o, _, h => by
    simp only [VR0] at h
    obtain ⟨b, ob, vs, h1, h2, h3, h4⟩ := h
    simp only [AV.refs]
    exact VRs0.refs cs vs h4
  | .list cs n g, _, h => by
    simp only [VR0] at h
    obtain ⟨A, cap, h1, h2, h3, h4⟩ := h
    simp only [AV.refs]
    rcases h4 with rfl | ⟨b, o, vs, h5, h6, h7, h8⟩
    · rfl
    · exact VRs0.refs cs vs h8
  | .func fn cs, _, h => by
    simp only [VR0] at h
    obtain ⟨vs, h1, h2⟩ := h
    simp only [AV.refs]
    exact VRs0.refs cs vs h2
  | .agg cs, _, h => by
    simp only [VR0] at h
    obtain ⟨vs, h1, h2⟩ := h
    simp only [AV.refs]
    exact VRs0.refs cs vs h2
  | .tuple cs, _, h => by
    simp only [VR0] at h
    obtain ⟨vs, h1, h2⟩ := h
    simp only [AV.refs]
    exact VRs0.refs cs vs h2
theorem VRs0.refs {G : Gh} {w : World} : ∀ (cs : List AV) (vs : List Value), VRs0 G w cs vs → belows G.n cs = true
  | [], _, _ => rfl
  | a :: as, _, h => by
    simp only [VRs0] at h
    obtain ⟨v, vs', h1, h2, h3⟩ := h
    simp only [belows, Bool.and_eq_true]
    exact ⟨VR0.refs a v h2, VRs0.refs as vs' h3⟩
end
theorem Sim.refs {M : Nat → Prop} {G : Gh} {s : List Ob} {w : World} (h : Sim M G s w) {i : Nat} {o : Ob} (hi : s[i]? = some o) (hl : o.live = true) : belows s.length o.cs = true := by
  obtain ⟨vs, h1, h2, h3⟩ := h.at_ i o hi hl
  rw [← h.n]
  exact VRs0.refs o.cs vs (VRs0.mk h2 fun k a v ha hv => (h3 k a v ha hv).1)
end Go.Proofs.Ytgicljncknbgcaa.Abs
