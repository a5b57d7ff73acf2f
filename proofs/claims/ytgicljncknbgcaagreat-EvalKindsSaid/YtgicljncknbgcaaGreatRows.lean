/-
  No cell of these rows narrows 'for every input' (looked for: loops, veiled, ifaces, maps, wideKeys, modest, calm, conditions, laid).
  DERIVED. THE GIVEN ROWS OF THIS SEAT. 8 by the template 'for every input the law returns true; each argument reads behind the call as it read before'; 0 by the template 'total and deterministic' (their statements: YtgicljncknbgcaaGreatTotals.lean).
  GIVEN WITH THE SEED: the statements are not yours to turn. If you find one false, say at which input.
  Laid BY PROGRAM, IN A SANDBOX (cutbox-rows.mjs): the forced cells as the released guide's own fill.sh prints them over the translation 18de3bb3a8b82c97… (all of the seat's roots in one cut). By AI agents, Wed Nov 11 2026. No macro, syntax, notation, axiom, sorry.
-/
import Derived.Test.YtgicljncknbgcaaGreatChecked
import GoSem.Claim
import GoSem.ClaimJoined
import GoSem.ClaimMapViews
import Derived.JoinedTies
import Derived.KernelRfl
namespace Go.Proofs.YtgicljncknbgcaaGreat
/- THE CELL 'sum', in the pinned program and in every row, IS THE sha256 OF THE DUMP (.gsa) THAT YtgicljncknbgcaaGreatProg.lean LOADS. Nothing in Lean hashes anything: it is a label: what it is worth is what the hold of that sum in a sandbox is worth. -/
noncomputable def Tryz.pinned : Pinned := { name := "ytgicljncknbgcaagreat", sum := "18de3bb3a8b82c97fceb6b90a81f32a887859987fbc13a79bbc3921abfecc827", checked := Tryz.checked }
namespace Rows
def none {H : Type} : Left H := { results := [], args := [] }

/-- 'witanlaw10.EvalKinds': WHATEVER THE INPUT: true; the input reads as it did. -/
def evalKindsSpec : ChangeSpec := { name := "evalKinds", fn := fun _ => fun
  | [d1, d2, d3, d4] => { results := [.lit (.bool true)], args := [d1, d2, d3, d4] }
  | _ => none }
def evalKindsRow : OpenClaim := { program := "ytgicljncknbgcaagreat", sum := "18de3bb3a8b82c97fceb6b90a81f32a887859987fbc13a79bbc3921abfecc827", func := "witan/witanlaw10.EvalKinds", spec := "evalKinds", inPlace := ["internal/bytealg.IndexByteString", "internal/bytealg.IndexString"], unfollowed := true, recurses := true, named := ["internal/bytealg.MaxLen", "math/bits.divideError", "math/bits.overflowError"], apart := false }
def EvalKindsSaid : Prop := evalKindsRow.holds Tryz.pinned (OpenSpec.ofChange evalKindsSpec)

/-- ITS FALSE NEIGHBOUR: 'it returns false'. Refute it at one input. -/
def evalKindsWrong : ChangeSpec := { name := "evalKinds", fn := fun _ => fun
  | [d1, d2, d3, d4] => { results := [.lit (.bool false)], args := [d1, d2, d3, d4] }
  | _ => none }
def EvalKindsWrongFalsely : Prop := evalKindsRow.holds Tryz.pinned (OpenSpec.ofChange evalKindsWrong)

/-- 'witanlaw10.EvalLogic': WHATEVER THE INPUT: true; the input reads as it did. -/
def evalLogicSpec : ChangeSpec := { name := "evalLogic", fn := fun _ => fun
  | [d1, d2, d3, d4] => { results := [.lit (.bool true)], args := [d1, d2, d3, d4] }
  | _ => none }
def evalLogicRow : OpenClaim := { program := "ytgicljncknbgcaagreat", sum := "18de3bb3a8b82c97fceb6b90a81f32a887859987fbc13a79bbc3921abfecc827", func := "witan/witanlaw10.EvalLogic", spec := "evalLogic", inPlace := ["internal/bytealg.IndexByteString", "internal/bytealg.IndexString"], unfollowed := true, recurses := true, named := ["internal/bytealg.MaxLen", "math/bits.divideError", "math/bits.overflowError"], apart := false }
def EvalLogicSaid : Prop := evalLogicRow.holds Tryz.pinned (OpenSpec.ofChange evalLogicSpec)

/-- ITS FALSE NEIGHBOUR: 'it returns false'. Refute it at one input. -/
def evalLogicWrong : ChangeSpec := { name := "evalLogic", fn := fun _ => fun
  | [d1, d2, d3, d4] => { results := [.lit (.bool false)], args := [d1, d2, d3, d4] }
  | _ => none }
def EvalLogicWrongFalsely : Prop := evalLogicRow.holds Tryz.pinned (OpenSpec.ofChange evalLogicWrong)

/-- 'witanlaw10.EvalNames': WHATEVER THE INPUT: true; the input reads as it did. -/
def evalNamesSpec : ChangeSpec := { name := "evalNames", fn := fun _ => fun
  | [d1, d2, d3, d4] => { results := [.lit (.bool true)], args := [d1, d2, d3, d4] }
  | _ => none }
def evalNamesRow : OpenClaim := { program := "ytgicljncknbgcaagreat", sum := "18de3bb3a8b82c97fceb6b90a81f32a887859987fbc13a79bbc3921abfecc827", func := "witan/witanlaw10.EvalNames", spec := "evalNames", inPlace := ["internal/bytealg.IndexByteString", "internal/bytealg.IndexString"], unfollowed := true, recurses := true, named := ["internal/bytealg.MaxLen", "math/bits.divideError", "math/bits.overflowError"], apart := false }
def EvalNamesSaid : Prop := evalNamesRow.holds Tryz.pinned (OpenSpec.ofChange evalNamesSpec)

/-- ITS FALSE NEIGHBOUR: 'it returns false'. Refute it at one input. -/
def evalNamesWrong : ChangeSpec := { name := "evalNames", fn := fun _ => fun
  | [d1, d2, d3, d4] => { results := [.lit (.bool false)], args := [d1, d2, d3, d4] }
  | _ => none }
def EvalNamesWrongFalsely : Prop := evalNamesRow.holds Tryz.pinned (OpenSpec.ofChange evalNamesWrong)

/-- 'witanlaw10.EvalIfs': WHATEVER THE INPUT: true; the input reads as it did. -/
def evalIfsSpec : ChangeSpec := { name := "evalIfs", fn := fun _ => fun
  | [d1, d2, d3, d4] => { results := [.lit (.bool true)], args := [d1, d2, d3, d4] }
  | _ => none }
def evalIfsRow : OpenClaim := { program := "ytgicljncknbgcaagreat", sum := "18de3bb3a8b82c97fceb6b90a81f32a887859987fbc13a79bbc3921abfecc827", func := "witan/witanlaw10.EvalIfs", spec := "evalIfs", inPlace := ["internal/bytealg.IndexByteString", "internal/bytealg.IndexString"], unfollowed := true, recurses := true, named := ["internal/bytealg.MaxLen", "math/bits.divideError", "math/bits.overflowError"], apart := false }
def EvalIfsSaid : Prop := evalIfsRow.holds Tryz.pinned (OpenSpec.ofChange evalIfsSpec)

/-- ITS FALSE NEIGHBOUR: 'it returns false'. Refute it at one input. -/
def evalIfsWrong : ChangeSpec := { name := "evalIfs", fn := fun _ => fun
  | [d1, d2, d3, d4] => { results := [.lit (.bool false)], args := [d1, d2, d3, d4] }
  | _ => none }
def EvalIfsWrongFalsely : Prop := evalIfsRow.holds Tryz.pinned (OpenSpec.ofChange evalIfsWrong)

/-- 'witanlaw28.ActEffects': WHATEVER THE INPUT: true; the input reads as it did. -/
def actEffectsSpec : ChangeSpec := { name := "actEffects", fn := fun _ => fun
  | [d1, d2, d3] => { results := [.lit (.bool true)], args := [d1, d2, d3] }
  | _ => none }
def actEffectsRow : OpenClaim := { program := "ytgicljncknbgcaagreat", sum := "18de3bb3a8b82c97fceb6b90a81f32a887859987fbc13a79bbc3921abfecc827", func := "witan/witanlaw28.ActEffects", spec := "actEffects", inPlace := ["internal/bytealg.IndexByteString", "internal/bytealg.IndexString"], unfollowed := true, recurses := true, named := ["internal/bytealg.MaxLen", "math/bits.divideError", "math/bits.overflowError"], apart := false }
def ActEffectsSaid : Prop := actEffectsRow.holds Tryz.pinned (OpenSpec.ofChange actEffectsSpec)

/-- ITS FALSE NEIGHBOUR: 'it returns false'. Refute it at one input. -/
def actEffectsWrong : ChangeSpec := { name := "actEffects", fn := fun _ => fun
  | [d1, d2, d3] => { results := [.lit (.bool false)], args := [d1, d2, d3] }
  | _ => none }
def ActEffectsWrongFalsely : Prop := actEffectsRow.holds Tryz.pinned (OpenSpec.ofChange actEffectsWrong)

/-- 'witanlaw28.ActFits': WHATEVER THE INPUT: true; the input reads as it did. -/
def actFitsSpec : ChangeSpec := { name := "actFits", fn := fun _ => fun
  | [d1, d2] => { results := [.lit (.bool true)], args := [d1, d2] }
  | _ => none }
def actFitsRow : OpenClaim := { program := "ytgicljncknbgcaagreat", sum := "18de3bb3a8b82c97fceb6b90a81f32a887859987fbc13a79bbc3921abfecc827", func := "witan/witanlaw28.ActFits", spec := "actFits", inPlace := ["internal/bytealg.IndexByteString", "internal/bytealg.IndexString"], unfollowed := true, recurses := true, named := ["internal/bytealg.MaxLen", "math/bits.divideError", "math/bits.overflowError"], apart := false }
def ActFitsSaid : Prop := actFitsRow.holds Tryz.pinned (OpenSpec.ofChange actFitsSpec)

/-- ITS FALSE NEIGHBOUR: 'it returns false'. Refute it at one input. -/
def actFitsWrong : ChangeSpec := { name := "actFits", fn := fun _ => fun
  | [d1, d2] => { results := [.lit (.bool false)], args := [d1, d2] }
  | _ => none }
def ActFitsWrongFalsely : Prop := actFitsRow.holds Tryz.pinned (OpenSpec.ofChange actFitsWrong)

/-- 'witanlaw28.ActBinds': WHATEVER THE INPUT: true; the input reads as it did. -/
def actBindsSpec : ChangeSpec := { name := "actBinds", fn := fun _ => fun
  | [d1, d2] => { results := [.lit (.bool true)], args := [d1, d2] }
  | _ => none }
def actBindsRow : OpenClaim := { program := "ytgicljncknbgcaagreat", sum := "18de3bb3a8b82c97fceb6b90a81f32a887859987fbc13a79bbc3921abfecc827", func := "witan/witanlaw28.ActBinds", spec := "actBinds", inPlace := ["internal/bytealg.IndexByteString", "internal/bytealg.IndexString"], unfollowed := true, recurses := true, named := ["internal/bytealg.MaxLen", "math/bits.divideError", "math/bits.overflowError"], apart := false }
def ActBindsSaid : Prop := actBindsRow.holds Tryz.pinned (OpenSpec.ofChange actBindsSpec)

/-- ITS FALSE NEIGHBOUR: 'it returns false'. Refute it at one input. -/
def actBindsWrong : ChangeSpec := { name := "actBinds", fn := fun _ => fun
  | [d1, d2] => { results := [.lit (.bool false)], args := [d1, d2] }
  | _ => none }
def ActBindsWrongFalsely : Prop := actBindsRow.holds Tryz.pinned (OpenSpec.ofChange actBindsWrong)

/-- 'witanlaw28.ActKeeps': WHATEVER THE INPUT: true; the input reads as it did. -/
def actKeepsSpec : ChangeSpec := { name := "actKeeps", fn := fun _ => fun
  | [d1, d2] => { results := [.lit (.bool true)], args := [d1, d2] }
  | _ => none }
def actKeepsRow : OpenClaim := { program := "ytgicljncknbgcaagreat", sum := "18de3bb3a8b82c97fceb6b90a81f32a887859987fbc13a79bbc3921abfecc827", func := "witan/witanlaw28.ActKeeps", spec := "actKeeps", inPlace := ["internal/bytealg.IndexByteString", "internal/bytealg.IndexString"], unfollowed := true, recurses := true, named := ["internal/bytealg.MaxLen", "math/bits.divideError", "math/bits.overflowError"], apart := false }
def ActKeepsSaid : Prop := actKeepsRow.holds Tryz.pinned (OpenSpec.ofChange actKeepsSpec)

/-- ITS FALSE NEIGHBOUR: 'it returns false'. Refute it at one input. -/
def actKeepsWrong : ChangeSpec := { name := "actKeeps", fn := fun _ => fun
  | [d1, d2] => { results := [.lit (.bool false)], args := [d1, d2] }
  | _ => none }
def ActKeepsWrongFalsely : Prop := actKeepsRow.holds Tryz.pinned (OpenSpec.ofChange actKeepsWrong)

/- THE SECOND FORM. 'bulk': how many values and letters a reading holds, each counted each time it is reached (what is shared counts as often as it is met; a slice's spare places count too). A statement '..UptoSaid' is the law's where the arguments, and the package variables that the reading takes, are together of bulk at most 1048576: NARROWER than '..Said'. Prove '..Said' where nothing that the law and all that it calls make is longer than what came in: it says more and counts as full. Else prove '..UptoSaid'. A law counts once. -/
mutual
def uptoBulk {H : Type} : DataW H → Nat
  | .lit (.string bytes) => bytes.length + 1
  | .lit _ => 1
  | .nil => 1
  | .ptr d => uptoBulk d + 1
  | .slice elems spare => uptoBulkAll elems + uptoBulkAll spare + 1
  | .agg parts => uptoBulkAll parts + 1
  | .iface _ d => uptoBulk d + 1
  | .map entries => uptoBulkEntries entries + 1
  | .held _ => 1
def uptoBulkAll {H : Type} : List (DataW H) → Nat
  | [] => 0
  | d :: r => uptoBulk d + uptoBulkAll r
def uptoBulkEntries {H : Type} : List (Lit × DataW H) → Nat
  | [] => 0
  | x :: r => uptoBulkEntry x + uptoBulkEntries r
def uptoBulkEntry {H : Type} : Lit × DataW H → Nat
  | (.string bytes, d) => bytes.length + uptoBulk d + 1
  | (_, d) => uptoBulk d + 1
 end
def uptoSmall : (H : Type) → List (DataW H) → Bool := fun _ ds => decide (uptoBulkAll ds ≤ 1048576)
def OpenSpec.upto (s : _root_.Go.ChangeSpec) : _root_.Go.OpenSpec := { _root_.Go.OpenSpec.ofChange s with cond := some uptoSmall }

/-- 'witanlaw10.EvalKinds', WHERE WHAT IT READS IS OF BULK AT MOST 1048576: true; the input reads as it did. -/
def evalKindsUptoRow : OpenClaim := { program := "ytgicljncknbgcaagreat", sum := "18de3bb3a8b82c97fceb6b90a81f32a887859987fbc13a79bbc3921abfecc827", func := "witan/witanlaw10.EvalKinds", spec := "evalKinds", inPlace := ["internal/bytealg.IndexByteString", "internal/bytealg.IndexString"], unfollowed := true, recurses := true, named := ["internal/bytealg.MaxLen", "math/bits.divideError", "math/bits.overflowError"], apart := false, narrowed := true }
def EvalKindsUptoSaid : Prop := evalKindsUptoRow.holds Tryz.pinned (OpenSpec.upto evalKindsSpec)

/-- 'witanlaw10.EvalLogic', WHERE WHAT IT READS IS OF BULK AT MOST 1048576: true; the input reads as it did. -/
def evalLogicUptoRow : OpenClaim := { program := "ytgicljncknbgcaagreat", sum := "18de3bb3a8b82c97fceb6b90a81f32a887859987fbc13a79bbc3921abfecc827", func := "witan/witanlaw10.EvalLogic", spec := "evalLogic", inPlace := ["internal/bytealg.IndexByteString", "internal/bytealg.IndexString"], unfollowed := true, recurses := true, named := ["internal/bytealg.MaxLen", "math/bits.divideError", "math/bits.overflowError"], apart := false, narrowed := true }
def EvalLogicUptoSaid : Prop := evalLogicUptoRow.holds Tryz.pinned (OpenSpec.upto evalLogicSpec)

/-- 'witanlaw10.EvalNames', WHERE WHAT IT READS IS OF BULK AT MOST 1048576: true; the input reads as it did. -/
def evalNamesUptoRow : OpenClaim := { program := "ytgicljncknbgcaagreat", sum := "18de3bb3a8b82c97fceb6b90a81f32a887859987fbc13a79bbc3921abfecc827", func := "witan/witanlaw10.EvalNames", spec := "evalNames", inPlace := ["internal/bytealg.IndexByteString", "internal/bytealg.IndexString"], unfollowed := true, recurses := true, named := ["internal/bytealg.MaxLen", "math/bits.divideError", "math/bits.overflowError"], apart := false, narrowed := true }
def EvalNamesUptoSaid : Prop := evalNamesUptoRow.holds Tryz.pinned (OpenSpec.upto evalNamesSpec)

/-- 'witanlaw10.EvalIfs', WHERE WHAT IT READS IS OF BULK AT MOST 1048576: true; the input reads as it did. -/
def evalIfsUptoRow : OpenClaim := { program := "ytgicljncknbgcaagreat", sum := "18de3bb3a8b82c97fceb6b90a81f32a887859987fbc13a79bbc3921abfecc827", func := "witan/witanlaw10.EvalIfs", spec := "evalIfs", inPlace := ["internal/bytealg.IndexByteString", "internal/bytealg.IndexString"], unfollowed := true, recurses := true, named := ["internal/bytealg.MaxLen", "math/bits.divideError", "math/bits.overflowError"], apart := false, narrowed := true }
def EvalIfsUptoSaid : Prop := evalIfsUptoRow.holds Tryz.pinned (OpenSpec.upto evalIfsSpec)

/-- 'witanlaw28.ActEffects', WHERE WHAT IT READS IS OF BULK AT MOST 1048576: true; the input reads as it did. -/
def actEffectsUptoRow : OpenClaim := { program := "ytgicljncknbgcaagreat", sum := "18de3bb3a8b82c97fceb6b90a81f32a887859987fbc13a79bbc3921abfecc827", func := "witan/witanlaw28.ActEffects", spec := "actEffects", inPlace := ["internal/bytealg.IndexByteString", "internal/bytealg.IndexString"], unfollowed := true, recurses := true, named := ["internal/bytealg.MaxLen", "math/bits.divideError", "math/bits.overflowError"], apart := false, narrowed := true }
def ActEffectsUptoSaid : Prop := actEffectsUptoRow.holds Tryz.pinned (OpenSpec.upto actEffectsSpec)

/-- 'witanlaw28.ActFits', WHERE WHAT IT READS IS OF BULK AT MOST 1048576: true; the input reads as it did. -/
def actFitsUptoRow : OpenClaim := { program := "ytgicljncknbgcaagreat", sum := "18de3bb3a8b82c97fceb6b90a81f32a887859987fbc13a79bbc3921abfecc827", func := "witan/witanlaw28.ActFits", spec := "actFits", inPlace := ["internal/bytealg.IndexByteString", "internal/bytealg.IndexString"], unfollowed := true, recurses := true, named := ["internal/bytealg.MaxLen", "math/bits.divideError", "math/bits.overflowError"], apart := false, narrowed := true }
def ActFitsUptoSaid : Prop := actFitsUptoRow.holds Tryz.pinned (OpenSpec.upto actFitsSpec)

/-- 'witanlaw28.ActBinds', WHERE WHAT IT READS IS OF BULK AT MOST 1048576: true; the input reads as it did. -/
def actBindsUptoRow : OpenClaim := { program := "ytgicljncknbgcaagreat", sum := "18de3bb3a8b82c97fceb6b90a81f32a887859987fbc13a79bbc3921abfecc827", func := "witan/witanlaw28.ActBinds", spec := "actBinds", inPlace := ["internal/bytealg.IndexByteString", "internal/bytealg.IndexString"], unfollowed := true, recurses := true, named := ["internal/bytealg.MaxLen", "math/bits.divideError", "math/bits.overflowError"], apart := false, narrowed := true }
def ActBindsUptoSaid : Prop := actBindsUptoRow.holds Tryz.pinned (OpenSpec.upto actBindsSpec)

/-- 'witanlaw28.ActKeeps', WHERE WHAT IT READS IS OF BULK AT MOST 1048576: true; the input reads as it did. -/
def actKeepsUptoRow : OpenClaim := { program := "ytgicljncknbgcaagreat", sum := "18de3bb3a8b82c97fceb6b90a81f32a887859987fbc13a79bbc3921abfecc827", func := "witan/witanlaw28.ActKeeps", spec := "actKeeps", inPlace := ["internal/bytealg.IndexByteString", "internal/bytealg.IndexString"], unfollowed := true, recurses := true, named := ["internal/bytealg.MaxLen", "math/bits.divideError", "math/bits.overflowError"], apart := false, narrowed := true }
def ActKeepsUptoSaid : Prop := actKeepsUptoRow.holds Tryz.pinned (OpenSpec.upto actKeepsSpec)

end Rows
end Go.Proofs.YtgicljncknbgcaaGreat
