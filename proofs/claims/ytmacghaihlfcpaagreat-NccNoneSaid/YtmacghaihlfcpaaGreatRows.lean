/-
  No cell of these rows narrows 'for every input' (looked for: loops, veiled, ifaces, maps, wideKeys, modest, calm, conditions, laid).
  DERIVED. THE GIVEN ROWS OF THIS SEAT. 3 by the template 'for every input the law returns true; each argument reads behind the call as it read before'; 0 by the template 'total and deterministic' (their statements: YtmacghaihlfcpaaGreatTotals.lean).
  GIVEN WITH THE SEED: the statements are not yours to turn. If you find one false, say at which input.
  Laid BY PROGRAM, IN A SANDBOX (cutbox-rows.mjs): the forced cells as the released guide's own fill.sh prints them over the translation 37b4ac349f771ff4… (all of the seat's roots in one cut). By AI agents, Wed Nov 11 2026. No macro, syntax, notation, axiom, sorry.
-/
import Derived.Test.YtmacghaihlfcpaaGreatChecked
import GoSem.Claim
import GoSem.ClaimJoined
import GoSem.ClaimMapViews
import Derived.JoinedTies
import Derived.KernelRfl
namespace Go.Proofs.YtmacghaihlfcpaaGreat
/- THE CELL 'sum', in the pinned program and in every row, IS THE sha256 OF THE DUMP (.gsa) THAT YtmacghaihlfcpaaGreatProg.lean LOADS. Nothing in Lean hashes anything: it is a label: what it is worth is what the hold of that sum in a sandbox is worth. -/
noncomputable def Tryz.pinned : Pinned := { name := "ytmacghaihlfcpaagreat", sum := "37b4ac349f771ff422871b1c4672559d60eadbabd91d58710361ffe066ce7b87", checked := Tryz.checked }
namespace Rows
def none {H : Type} : Left H := { results := [], args := [] }

/-- 'witanlaw20.AlphaNone': WHATEVER THE INPUT: true; the input reads as it did. -/
def alphaNoneSpec : ChangeSpec := { name := "alphaNone", fn := fun _ => fun
  | [d] => { results := [.lit (.bool true)], args := [d] }
  | _ => none }
def alphaNoneRow : OpenClaim := { program := "ytmacghaihlfcpaagreat", sum := "37b4ac349f771ff422871b1c4672559d60eadbabd91d58710361ffe066ce7b87", func := "witan/witanlaw20.AlphaNone", spec := "alphaNone", inPlace := ["internal/bytealg.IndexByteString", "internal/bytealg.IndexString"], unfollowed := true, recurses := true, named := ["internal/bytealg.MaxLen", "math/bits.divideError", "math/bits.overflowError"], plainKeys := false, apart := false }
def AlphaNoneSaid : Prop := alphaNoneRow.holds Tryz.pinned (OpenSpec.ofChange alphaNoneSpec)

/-- ITS FALSE NEIGHBOUR: 'it returns false'. Refute it at one input. -/
def alphaNoneWrong : ChangeSpec := { name := "alphaNone", fn := fun _ => fun
  | [d] => { results := [.lit (.bool false)], args := [d] }
  | _ => none }
def AlphaNoneWrongFalsely : Prop := alphaNoneRow.holds Tryz.pinned (OpenSpec.ofChange alphaNoneWrong)

/-- 'witanlaw22.JoinNone': WHATEVER THE INPUT: true; the input reads as it did. -/
def joinNoneSpec : ChangeSpec := { name := "joinNone", fn := fun _ => fun
  | [d1, d2] => { results := [.lit (.bool true)], args := [d1, d2] }
  | _ => none }
def joinNoneRow : OpenClaim := { program := "ytmacghaihlfcpaagreat", sum := "37b4ac349f771ff422871b1c4672559d60eadbabd91d58710361ffe066ce7b87", func := "witan/witanlaw22.JoinNone", spec := "joinNone", inPlace := ["internal/bytealg.IndexByteString", "internal/bytealg.IndexString"], unfollowed := true, recurses := true, named := ["internal/bytealg.MaxLen", "math/bits.divideError", "math/bits.overflowError"], plainKeys := false, apart := false }
def JoinNoneSaid : Prop := joinNoneRow.holds Tryz.pinned (OpenSpec.ofChange joinNoneSpec)

/-- ITS FALSE NEIGHBOUR: 'it returns false'. Refute it at one input. -/
def joinNoneWrong : ChangeSpec := { name := "joinNone", fn := fun _ => fun
  | [d1, d2] => { results := [.lit (.bool false)], args := [d1, d2] }
  | _ => none }
def JoinNoneWrongFalsely : Prop := joinNoneRow.holds Tryz.pinned (OpenSpec.ofChange joinNoneWrong)

/-- 'witanlaw24.NccNone': WHATEVER THE INPUT: true; the input reads as it did. -/
def nccNoneSpec : ChangeSpec := { name := "nccNone", fn := fun _ => fun
  | [d1, d2] => { results := [.lit (.bool true)], args := [d1, d2] }
  | _ => none }
def nccNoneRow : OpenClaim := { program := "ytmacghaihlfcpaagreat", sum := "37b4ac349f771ff422871b1c4672559d60eadbabd91d58710361ffe066ce7b87", func := "witan/witanlaw24.NccNone", spec := "nccNone", inPlace := ["internal/bytealg.IndexByteString", "internal/bytealg.IndexString"], unfollowed := true, recurses := true, named := ["internal/bytealg.MaxLen", "math/bits.divideError", "math/bits.overflowError"], plainKeys := false, apart := false }
def NccNoneSaid : Prop := nccNoneRow.holds Tryz.pinned (OpenSpec.ofChange nccNoneSpec)

/-- ITS FALSE NEIGHBOUR: 'it returns false'. Refute it at one input. -/
def nccNoneWrong : ChangeSpec := { name := "nccNone", fn := fun _ => fun
  | [d1, d2] => { results := [.lit (.bool false)], args := [d1, d2] }
  | _ => none }
def NccNoneWrongFalsely : Prop := nccNoneRow.holds Tryz.pinned (OpenSpec.ofChange nccNoneWrong)

/- THE SECOND FORM. 'bulk': how many values and letters a reading holds, each counted each time it is reached (what is shared counts as often as it is met; a slice's spare places count too). A statement '..UptoSaid' is the law's where the arguments, and the package variables that the reading takes, are together of bulk at most 1048576: NARROWER than '..Said'. Prove '..Said' where nothing that the law and all that it calls make is longer than what came in: it says more and counts as full. Else prove '..UptoSaid'. A law counts once. -/
mutual
def uptoBulk {H : Type} : DataW H → Nat
  | .lit (.string bytes) => bytes.length + 1
  | .lit _ => 1
  | .nil => 1
  | .ptr d => uptoBulk d + 1
  | .slice elems spare => uptoBulkAll elems + uptoBulkAll spare + 1
  | .agg parts => uptoBulkAll parts + 1
  | .iface _ d => uptoBulk d + 1
  | .map entries => uptoBulkEntries entries + 1
  | .held _ => 1
def uptoBulkAll {H : Type} : List (DataW H) → Nat
  | [] => 0
  | d :: r => uptoBulk d + uptoBulkAll r
def uptoBulkEntries {H : Type} : List (Lit × DataW H) → Nat
  | [] => 0
  | x :: r => uptoBulkEntry x + uptoBulkEntries r
def uptoBulkEntry {H : Type} : Lit × DataW H → Nat
  | (.string bytes, d) => bytes.length + uptoBulk d + 1
  | (_, d) => uptoBulk d + 1
 end
def uptoSmall : (H : Type) → List (DataW H) → Bool := fun _ ds => decide (uptoBulkAll ds ≤ 1048576)
def OpenSpec.upto (s : _root_.Go.ChangeSpec) : _root_.Go.OpenSpec := { _root_.Go.OpenSpec.ofChange s with cond := some uptoSmall }

/-- 'witanlaw20.AlphaNone', WHERE WHAT IT READS IS OF BULK AT MOST 1048576: true; the input reads as it did. -/
def alphaNoneUptoRow : OpenClaim := { program := "ytmacghaihlfcpaagreat", sum := "37b4ac349f771ff422871b1c4672559d60eadbabd91d58710361ffe066ce7b87", func := "witan/witanlaw20.AlphaNone", spec := "alphaNone", inPlace := ["internal/bytealg.IndexByteString", "internal/bytealg.IndexString"], unfollowed := true, recurses := true, named := ["internal/bytealg.MaxLen", "math/bits.divideError", "math/bits.overflowError"], plainKeys := false, apart := false, narrowed := true }
def AlphaNoneUptoSaid : Prop := alphaNoneUptoRow.holds Tryz.pinned (OpenSpec.upto alphaNoneSpec)

/-- 'witanlaw22.JoinNone', WHERE WHAT IT READS IS OF BULK AT MOST 1048576: true; the input reads as it did. -/
def joinNoneUptoRow : OpenClaim := { program := "ytmacghaihlfcpaagreat", sum := "37b4ac349f771ff422871b1c4672559d60eadbabd91d58710361ffe066ce7b87", func := "witan/witanlaw22.JoinNone", spec := "joinNone", inPlace := ["internal/bytealg.IndexByteString", "internal/bytealg.IndexString"], unfollowed := true, recurses := true, named := ["internal/bytealg.MaxLen", "math/bits.divideError", "math/bits.overflowError"], plainKeys := false, apart := false, narrowed := true }
def JoinNoneUptoSaid : Prop := joinNoneUptoRow.holds Tryz.pinned (OpenSpec.upto joinNoneSpec)

/-- 'witanlaw24.NccNone', WHERE WHAT IT READS IS OF BULK AT MOST 1048576: true; the input reads as it did. -/
def nccNoneUptoRow : OpenClaim := { program := "ytmacghaihlfcpaagreat", sum := "37b4ac349f771ff422871b1c4672559d60eadbabd91d58710361ffe066ce7b87", func := "witan/witanlaw24.NccNone", spec := "nccNone", inPlace := ["internal/bytealg.IndexByteString", "internal/bytealg.IndexString"], unfollowed := true, recurses := true, named := ["internal/bytealg.MaxLen", "math/bits.divideError", "math/bits.overflowError"], plainKeys := false, apart := false, narrowed := true }
def NccNoneUptoSaid : Prop := nccNoneUptoRow.holds Tryz.pinned (OpenSpec.upto nccNoneSpec)

end Rows
end Go.Proofs.YtmacghaihlfcpaaGreat
