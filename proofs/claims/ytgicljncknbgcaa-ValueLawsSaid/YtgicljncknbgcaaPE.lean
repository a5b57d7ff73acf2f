/- A law that the reckoning tells: called with an empty store in any world it returns that, and what was there stays as it was. -/
import Derived.Test.YtgicljncknbgcaaTN
import Derived.WalkKit
import Derived.ProofKit
import Derived.OpenShut
import Derived.Carry
namespace Go.Proofs.Ytgicljncknbgcaa.Abs
open Go Go.ChangeShapes Go.WideShapes Go.ChangeAt Go.RowKit
theorem law_calls {P : Program} {f : FuncId} {pts : List Ty} {m : Els pts → Option (RT [.bool])} (h : EntSound P f (specEnt pts [.bool] m)) {x : Els pts} {args : List TV} (hx : decA pts args = some x) (hm : m x = some true)
    (w : World) {cargs : List Value} {G : Gh} (hG : G.n = 0) (hown : ∀ b, G.own b = false) (ha : VRs0 G w (dns args) cargs) :
    Calls P f cargs.toArray w fun e w' => e = .returned (.bool true) ∧ Below w.heap.size w w' := by
  obtain ⟨_, r, s', h1, h2⟩ := h Unit args [] (fun r _ => match r with | .bool true => some () | _ => none) () (by unfold specEnt; rw [hx]; simp only [hm]; rfl)
  have hr : r = .bool true := by
    revert h2
    cases r <;> intro h2 <;> try (cases h2; done)
    rename_i b
    cases b
    · cases h2
    · rfl
  subst hr
  have hS : Sim (fun _ => False) G (dnS []) w := ⟨hG, fun i j hi => by omega, fun i hi => by omega, fun i o hi => by simp [dnS] at hi, fun {i} hi => by omega, fun i o hi => by simp [dnS] at hi⟩
  refine (h1 _ G w cargs hS ha).mono ?_
  rintro e w' ⟨v, G', rfl, hv, _, hE⟩
  have hv' : v = .bool true := hv
  subst hv'
  refine ⟨rfl, hE.os, hE.tape, hE.output, hE.size, fun b hb => hE.cell b hb ?_ (hown b)⟩
  rintro ⟨i, hi, _⟩
  omega
section
variable {H : Type} {enc : TypeId × Value → H} {P : Program}
theorem trodAll_kept (hl : laidOutB P = true) {W W' : World} (hb : Below W.heap.size W W') :
    ∀ (ts : List TypeId) (vs : List Value) (ds : List (DataW H)) (ps : List MemPlace), (∀ t ∈ ts, P.readableRec t = true ∧ t < P.types.size) → (∀ x ∈ ps, x.block < W.heap.size) →
      DataW.TrodAll enc P W 0 (fun _ => true) true ts vs ds ps → DataW.TrodAll enc P W' 0 (fun b => decide (b < W.heap.size)) true ts vs ds ps
  | [], [], [], ps, _, _, h => h
  | t :: ts, v :: vs, d :: ds, ps, hr, hlt, h => by
    obtain ⟨p, q, h1, h2, rfl⟩ := h
    obtain ⟨r1, r2⟩ := hr t (by simp)
    exact ⟨p, q, Below.trod hl r1 r2 h1 hb fun x hx => hlt x (by simp [hx]), trodAll_kept hl hb ts vs ds q (fun u hu => hr u (by simp [hu])) (fun x hx => hlt x (by simp [hx])) h2, rfl⟩
  | [], [], _ :: _, _, _, _, h => h.elim
  | [], _ :: _, _, _, _, _, h => h.elim
  | _ :: _, [], _, _, _, _, h => h.elim
  | _ :: _, _ :: _, [], _, _, _, h => h.elim

/-- what a law's row asks behind the call -/
theorem law_post (hl : laidOutB P = true) {f : Func} {s : ChangeSpec} {tb : TypeId} {W W' : World} {args : Array Value} {ds : List (DataW H)} {before : List MemPlace}
    (hr : ∀ t ∈ f.params.toList, P.readableRec t = true ∧ t < P.types.size) (hv : s.vars = []) (hres : f.resultTypes = #[tb]) (htb : P.underlying tb = some .bool)
    (hW : DataW.Whole enc P f.params.toList s.vars false W args.toList ds [] before) (hf1 : (s.fn H ds).results = [.lit (.bool true)]) (hf2 : (s.fn H ds).args = ds) (hf3 : (s.fn H ds).vars = [])
    (hb : Below W.heap.size W W') : s.post enc P f false true false false W args (.bool true) W' := by
  have hlt : ∀ p ∈ before, p.block < W.heap.size := fun p hp => hW.lt p hp
  have hW0 := hW
  obtain ⟨p, q, h1, h2, rfl, h3, h4⟩ := hW
  rw [hv] at h2
  have hq : q = [] := h2
  subst hq
  rw [List.append_nil] at hlt hW0
  refine ⟨ds, [], p, [], p, [], hW0, ?_, ?_, ?_, ?_, fun h => absurd h (by simp)⟩
  · rw [List.append_nil, hf1, hres]
    exact trodAll_mk1 (shut_bool htb true)
  · rw [List.append_nil, hf2]
    exact trodAll_kept hl hb _ _ _ _ hr hlt h1
  · rw [List.append_nil, hf3, hv]
    rfl
  · exact World.keptBut_mono (fun x hx => ⟨hx, .inr (.inl hx)⟩) (hb.frame (· ∈ p))
end
end Go.Proofs.Ytgicljncknbgcaa.Abs
