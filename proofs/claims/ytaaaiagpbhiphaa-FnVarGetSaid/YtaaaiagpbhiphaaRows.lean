/-
  No cell of these rows narrows 'for every input' (looked for: loops, veiled, ifaces, maps, wideKeys, modest, calm, conditions, laid).
  DERIVED. THE GIVEN ROWS OF THIS SEAT. 12 by the template 'for every input the law returns true; each argument reads behind the call as it read before'; 0 by the template 'total and deterministic' (their statements: YtaaaiagpbhiphaaTotals.lean).
  GIVEN WITH THE SEED: the statements are not yours to turn. If you find one false, say at which input.
  Laid BY PROGRAM, IN A SANDBOX (cutbox-rows.mjs): the forced cells as the released guide's own fill.sh prints them over the translation b68bad47f9641032… (all of the seat's roots in one cut). By AI agents, Wed Nov 11 2026. No macro, syntax, notation, axiom, sorry.
-/
import Derived.Test.YtaaaiagpbhiphaaChecked
import GoSem.Claim
import GoSem.ClaimJoined
import GoSem.ClaimMapViews
import Derived.JoinedTies
import Derived.KernelRfl
namespace Go.Proofs.Ytaaaiagpbhiphaa
/- THE CELL 'sum', in the pinned program and in every row, IS THE sha256 OF THE DUMP (.gsa) THAT YtaaaiagpbhiphaaProg.lean LOADS. Nothing in Lean hashes anything: it is a label: what it is worth is what the hold of that sum in a sandbox is worth. -/
noncomputable def Try.pinned : Pinned := { name := "ytaaaiagpbhiphaa", sum := "b68bad47f9641032bf1c932bbbdc5f34ec9cc6fb5d25730150b0618a3b68205f", checked := Try.checked }
namespace Rows
def none {H : Type} : Left H := { results := [], args := [] }

/-- 'laws.FnExactZagZig': WHATEVER THE INPUT: true; the input reads as it did. -/
def fnExactZagZigSpec : ChangeSpec := { name := "fnExactZagZig", fn := fun _ => fun
  | [d] => { results := [.lit (.bool true)], args := [d] }
  | _ => none }
def fnExactZagZigRow : OpenClaim := { program := "ytaaaiagpbhiphaa", sum := "b68bad47f9641032bf1c932bbbdc5f34ec9cc6fb5d25730150b0618a3b68205f", func := "loop.example/compressionlab/laws.FnExactZagZig", spec := "fnExactZagZig", apart := false }
def FnExactZagZigSaid : Prop := fnExactZagZigRow.holds Try.pinned (OpenSpec.ofChange fnExactZagZigSpec)

/-- ITS FALSE NEIGHBOUR: 'it returns false'. Refute it at one input. -/
def fnExactZagZigWrong : ChangeSpec := { name := "fnExactZagZig", fn := fun _ => fun
  | [d] => { results := [.lit (.bool false)], args := [d] }
  | _ => none }
def FnExactZagZigWrongFalsely : Prop := fnExactZagZigRow.holds Try.pinned (OpenSpec.ofChange fnExactZagZigWrong)

/-- 'laws.FnExactZigZag': WHATEVER THE INPUT: true; the input reads as it did. -/
def fnExactZigZagSpec : ChangeSpec := { name := "fnExactZigZag", fn := fun _ => fun
  | [d] => { results := [.lit (.bool true)], args := [d] }
  | _ => none }
def fnExactZigZagRow : OpenClaim := { program := "ytaaaiagpbhiphaa", sum := "b68bad47f9641032bf1c932bbbdc5f34ec9cc6fb5d25730150b0618a3b68205f", func := "loop.example/compressionlab/laws.FnExactZigZag", spec := "fnExactZigZag", apart := false }
def FnExactZigZagSaid : Prop := fnExactZigZagRow.holds Try.pinned (OpenSpec.ofChange fnExactZigZagSpec)

/-- ITS FALSE NEIGHBOUR: 'it returns false'. Refute it at one input. -/
def fnExactZigZagWrong : ChangeSpec := { name := "fnExactZigZag", fn := fun _ => fun
  | [d] => { results := [.lit (.bool false)], args := [d] }
  | _ => none }
def FnExactZigZagWrongFalsely : Prop := fnExactZigZagRow.holds Try.pinned (OpenSpec.ofChange fnExactZigZagWrong)

/-- 'laws.FnZigZagNear': WHATEVER THE INPUT: true; the input reads as it did. -/
def fnZigZagNearSpec : ChangeSpec := { name := "fnZigZagNear", fn := fun _ => fun
  | [d] => { results := [.lit (.bool true)], args := [d] }
  | _ => none }
def fnZigZagNearRow : OpenClaim := { program := "ytaaaiagpbhiphaa", sum := "b68bad47f9641032bf1c932bbbdc5f34ec9cc6fb5d25730150b0618a3b68205f", func := "loop.example/compressionlab/laws.FnZigZagNear", spec := "fnZigZagNear", apart := false }
def FnZigZagNearSaid : Prop := fnZigZagNearRow.holds Try.pinned (OpenSpec.ofChange fnZigZagNearSpec)

/-- ITS FALSE NEIGHBOUR: 'it returns false'. Refute it at one input. -/
def fnZigZagNearWrong : ChangeSpec := { name := "fnZigZagNear", fn := fun _ => fun
  | [d] => { results := [.lit (.bool false)], args := [d] }
  | _ => none }
def FnZigZagNearWrongFalsely : Prop := fnZigZagNearRow.holds Try.pinned (OpenSpec.ofChange fnZigZagNearWrong)

/-- 'laws.FnExactVarPut': WHATEVER THE INPUT: true; the input reads as it did. -/
def fnExactVarPutSpec : ChangeSpec := { name := "fnExactVarPut", fn := fun _ => fun
  | [d] => { results := [.lit (.bool true)], args := [d] }
  | _ => none }
def fnExactVarPutRow : OpenClaim := { program := "ytaaaiagpbhiphaa", sum := "b68bad47f9641032bf1c932bbbdc5f34ec9cc6fb5d25730150b0618a3b68205f", func := "loop.example/compressionlab/laws.FnExactVarPut", spec := "fnExactVarPut", apart := false }
def FnExactVarPutSaid : Prop := fnExactVarPutRow.holds Try.pinned (OpenSpec.ofChange fnExactVarPutSpec)

/-- ITS FALSE NEIGHBOUR: 'it returns false'. Refute it at one input. -/
def fnExactVarPutWrong : ChangeSpec := { name := "fnExactVarPut", fn := fun _ => fun
  | [d] => { results := [.lit (.bool false)], args := [d] }
  | _ => none }
def FnExactVarPutWrongFalsely : Prop := fnExactVarPutRow.holds Try.pinned (OpenSpec.ofChange fnExactVarPutWrong)

/-- 'laws.FnZigZag': WHATEVER THE INPUT: true; the input reads as it did. -/
def fnZigZagSpec : ChangeSpec := { name := "fnZigZag", fn := fun _ => fun
  | [d] => { results := [.lit (.bool true)], args := [d] }
  | _ => none }
def fnZigZagRow : OpenClaim := { program := "ytaaaiagpbhiphaa", sum := "b68bad47f9641032bf1c932bbbdc5f34ec9cc6fb5d25730150b0618a3b68205f", func := "loop.example/compressionlab/laws.FnZigZag", spec := "fnZigZag", apart := false }
def FnZigZagSaid : Prop := fnZigZagRow.holds Try.pinned (OpenSpec.ofChange fnZigZagSpec)

/-- ITS FALSE NEIGHBOUR: 'it returns false'. Refute it at one input. -/
def fnZigZagWrong : ChangeSpec := { name := "fnZigZag", fn := fun _ => fun
  | [d] => { results := [.lit (.bool false)], args := [d] }
  | _ => none }
def FnZigZagWrongFalsely : Prop := fnZigZagRow.holds Try.pinned (OpenSpec.ofChange fnZigZagWrong)

/-- 'laws.FnZagZig': WHATEVER THE INPUT: true; the input reads as it did. -/
def fnZagZigSpec : ChangeSpec := { name := "fnZagZig", fn := fun _ => fun
  | [d] => { results := [.lit (.bool true)], args := [d] }
  | _ => none }
def fnZagZigRow : OpenClaim := { program := "ytaaaiagpbhiphaa", sum := "b68bad47f9641032bf1c932bbbdc5f34ec9cc6fb5d25730150b0618a3b68205f", func := "loop.example/compressionlab/laws.FnZagZig", spec := "fnZagZig", apart := false }
def FnZagZigSaid : Prop := fnZagZigRow.holds Try.pinned (OpenSpec.ofChange fnZagZigSpec)

/-- ITS FALSE NEIGHBOUR: 'it returns false'. Refute it at one input. -/
def fnZagZigWrong : ChangeSpec := { name := "fnZagZig", fn := fun _ => fun
  | [d] => { results := [.lit (.bool false)], args := [d] }
  | _ => none }
def FnZagZigWrongFalsely : Prop := fnZagZigRow.holds Try.pinned (OpenSpec.ofChange fnZagZigWrong)

/-- 'laws.FnVarPutLength': WHATEVER THE INPUT: true; the input reads as it did. -/
def fnVarPutLengthSpec : ChangeSpec := { name := "fnVarPutLength", fn := fun _ => fun
  | [d] => { results := [.lit (.bool true)], args := [d] }
  | _ => none }
def fnVarPutLengthRow : OpenClaim := { program := "ytaaaiagpbhiphaa", sum := "b68bad47f9641032bf1c932bbbdc5f34ec9cc6fb5d25730150b0618a3b68205f", func := "loop.example/compressionlab/laws.FnVarPutLength", spec := "fnVarPutLength", apart := false }
def FnVarPutLengthSaid : Prop := fnVarPutLengthRow.holds Try.pinned (OpenSpec.ofChange fnVarPutLengthSpec)

/-- ITS FALSE NEIGHBOUR: 'it returns false'. Refute it at one input. -/
def fnVarPutLengthWrong : ChangeSpec := { name := "fnVarPutLength", fn := fun _ => fun
  | [d] => { results := [.lit (.bool false)], args := [d] }
  | _ => none }
def FnVarPutLengthWrongFalsely : Prop := fnVarPutLengthRow.holds Try.pinned (OpenSpec.ofChange fnVarPutLengthWrong)

/-- 'laws.FnVarPut': WHATEVER THE INPUT: true; the input reads as it did. -/
def fnVarPutSpec : ChangeSpec := { name := "fnVarPut", fn := fun _ => fun
  | [d] => { results := [.lit (.bool true)], args := [d] }
  | _ => none }
def fnVarPutRow : OpenClaim := { program := "ytaaaiagpbhiphaa", sum := "b68bad47f9641032bf1c932bbbdc5f34ec9cc6fb5d25730150b0618a3b68205f", func := "loop.example/compressionlab/laws.FnVarPut", spec := "fnVarPut", apart := false }
def FnVarPutSaid : Prop := fnVarPutRow.holds Try.pinned (OpenSpec.ofChange fnVarPutSpec)

/-- ITS FALSE NEIGHBOUR: 'it returns false'. Refute it at one input. -/
def fnVarPutWrong : ChangeSpec := { name := "fnVarPut", fn := fun _ => fun
  | [d] => { results := [.lit (.bool false)], args := [d] }
  | _ => none }
def FnVarPutWrongFalsely : Prop := fnVarPutRow.holds Try.pinned (OpenSpec.ofChange fnVarPutWrong)

/-- 'laws.FnExactVarGet': WHATEVER THE INPUT: true; the input reads as it did. -/
def fnExactVarGetSpec : ChangeSpec := { name := "fnExactVarGet", fn := fun _ => fun
  | [d1, d2] => { results := [.lit (.bool true)], args := [d1, d2] }
  | _ => none }
def fnExactVarGetRow : OpenClaim := { program := "ytaaaiagpbhiphaa", sum := "b68bad47f9641032bf1c932bbbdc5f34ec9cc6fb5d25730150b0618a3b68205f", func := "loop.example/compressionlab/laws.FnExactVarGet", spec := "fnExactVarGet", apart := false }
def FnExactVarGetSaid : Prop := fnExactVarGetRow.holds Try.pinned (OpenSpec.ofChange fnExactVarGetSpec)

/-- ITS FALSE NEIGHBOUR: 'it returns false'. Refute it at one input. -/
def fnExactVarGetWrong : ChangeSpec := { name := "fnExactVarGet", fn := fun _ => fun
  | [d1, d2] => { results := [.lit (.bool false)], args := [d1, d2] }
  | _ => none }
def FnExactVarGetWrongFalsely : Prop := fnExactVarGetRow.holds Try.pinned (OpenSpec.ofChange fnExactVarGetWrong)

/-- 'laws.FnVarGetAlone': WHATEVER THE INPUT: true; the input reads as it did. -/
def fnVarGetAloneSpec : ChangeSpec := { name := "fnVarGetAlone", fn := fun _ => fun
  | [d] => { results := [.lit (.bool true)], args := [d] }
  | _ => none }
def fnVarGetAloneRow : OpenClaim := { program := "ytaaaiagpbhiphaa", sum := "b68bad47f9641032bf1c932bbbdc5f34ec9cc6fb5d25730150b0618a3b68205f", func := "loop.example/compressionlab/laws.FnVarGetAlone", spec := "fnVarGetAlone", apart := false }
def FnVarGetAloneSaid : Prop := fnVarGetAloneRow.holds Try.pinned (OpenSpec.ofChange fnVarGetAloneSpec)

/-- ITS FALSE NEIGHBOUR: 'it returns false'. Refute it at one input. -/
def fnVarGetAloneWrong : ChangeSpec := { name := "fnVarGetAlone", fn := fun _ => fun
  | [d] => { results := [.lit (.bool false)], args := [d] }
  | _ => none }
def FnVarGetAloneWrongFalsely : Prop := fnVarGetAloneRow.holds Try.pinned (OpenSpec.ofChange fnVarGetAloneWrong)

/-- 'laws.FnVarGetTorn': WHATEVER THE INPUT: true; the input reads as it did. -/
def fnVarGetTornSpec : ChangeSpec := { name := "fnVarGetTorn", fn := fun _ => fun
  | [d] => { results := [.lit (.bool true)], args := [d] }
  | _ => none }
def fnVarGetTornRow : OpenClaim := { program := "ytaaaiagpbhiphaa", sum := "b68bad47f9641032bf1c932bbbdc5f34ec9cc6fb5d25730150b0618a3b68205f", func := "loop.example/compressionlab/laws.FnVarGetTorn", spec := "fnVarGetTorn", apart := false }
def FnVarGetTornSaid : Prop := fnVarGetTornRow.holds Try.pinned (OpenSpec.ofChange fnVarGetTornSpec)

/-- ITS FALSE NEIGHBOUR: 'it returns false'. Refute it at one input. -/
def fnVarGetTornWrong : ChangeSpec := { name := "fnVarGetTorn", fn := fun _ => fun
  | [d] => { results := [.lit (.bool false)], args := [d] }
  | _ => none }
def FnVarGetTornWrongFalsely : Prop := fnVarGetTornRow.holds Try.pinned (OpenSpec.ofChange fnVarGetTornWrong)

/-- 'laws.FnVarGet': WHATEVER THE INPUT: true; the input reads as it did. -/
def fnVarGetSpec : ChangeSpec := { name := "fnVarGet", fn := fun _ => fun
  | [d] => { results := [.lit (.bool true)], args := [d] }
  | _ => none }
def fnVarGetRow : OpenClaim := { program := "ytaaaiagpbhiphaa", sum := "b68bad47f9641032bf1c932bbbdc5f34ec9cc6fb5d25730150b0618a3b68205f", func := "loop.example/compressionlab/laws.FnVarGet", spec := "fnVarGet", apart := false }
def FnVarGetSaid : Prop := fnVarGetRow.holds Try.pinned (OpenSpec.ofChange fnVarGetSpec)

/-- ITS FALSE NEIGHBOUR: 'it returns false'. Refute it at one input. -/
def fnVarGetWrong : ChangeSpec := { name := "fnVarGet", fn := fun _ => fun
  | [d] => { results := [.lit (.bool false)], args := [d] }
  | _ => none }
def FnVarGetWrongFalsely : Prop := fnVarGetRow.holds Try.pinned (OpenSpec.ofChange fnVarGetWrong)

/- THE SECOND FORM. 'bulk': how many values and letters a reading holds, each counted each time it is reached (what is shared counts as often as it is met; a slice's spare places count too). A statement '..UptoSaid' is the law's where the arguments, and the package variables that the reading takes, are together of bulk at most 1048576: NARROWER than '..Said'. Prove '..Said' where nothing that the law and all that it calls make is longer than what came in: it says more and counts as full. Else prove '..UptoSaid'. A law counts once. -/
mutual
def uptoBulk {H : Type} : DataW H → Nat
  | .lit (.string bytes) => bytes.length + 1
  | .lit _ => 1
  | .nil => 1
  | .ptr d => uptoBulk d + 1
  | .slice elems spare => uptoBulkAll elems + uptoBulkAll spare + 1
  | .agg parts => uptoBulkAll parts + 1
  | .iface _ d => uptoBulk d + 1
  | .map entries => uptoBulkEntries entries + 1
  | .held _ => 1
def uptoBulkAll {H : Type} : List (DataW H) → Nat
  | [] => 0
  | d :: r => uptoBulk d + uptoBulkAll r
def uptoBulkEntries {H : Type} : List (Lit × DataW H) → Nat
  | [] => 0
  | x :: r => uptoBulkEntry x + uptoBulkEntries r
def uptoBulkEntry {H : Type} : Lit × DataW H → Nat
  | (.string bytes, d) => bytes.length + uptoBulk d + 1
  | (_, d) => uptoBulk d + 1
 end
def uptoSmall : (H : Type) → List (DataW H) → Bool := fun _ ds => decide (uptoBulkAll ds ≤ 1048576)
def OpenSpec.upto (s : _root_.Go.ChangeSpec) : _root_.Go.OpenSpec := { _root_.Go.OpenSpec.ofChange s with cond := some uptoSmall }

/-- 'laws.FnExactZagZig', WHERE WHAT IT READS IS OF BULK AT MOST 1048576: true; the input reads as it did. -/
def fnExactZagZigUptoRow : OpenClaim := { program := "ytaaaiagpbhiphaa", sum := "b68bad47f9641032bf1c932bbbdc5f34ec9cc6fb5d25730150b0618a3b68205f", func := "loop.example/compressionlab/laws.FnExactZagZig", spec := "fnExactZagZig", apart := false, narrowed := true }
def FnExactZagZigUptoSaid : Prop := fnExactZagZigUptoRow.holds Try.pinned (OpenSpec.upto fnExactZagZigSpec)

/-- 'laws.FnExactZigZag', WHERE WHAT IT READS IS OF BULK AT MOST 1048576: true; the input reads as it did. -/
def fnExactZigZagUptoRow : OpenClaim := { program := "ytaaaiagpbhiphaa", sum := "b68bad47f9641032bf1c932bbbdc5f34ec9cc6fb5d25730150b0618a3b68205f", func := "loop.example/compressionlab/laws.FnExactZigZag", spec := "fnExactZigZag", apart := false, narrowed := true }
def FnExactZigZagUptoSaid : Prop := fnExactZigZagUptoRow.holds Try.pinned (OpenSpec.upto fnExactZigZagSpec)

/-- 'laws.FnZigZagNear', WHERE WHAT IT READS IS OF BULK AT MOST 1048576: true; the input reads as it did. -/
def fnZigZagNearUptoRow : OpenClaim := { program := "ytaaaiagpbhiphaa", sum := "b68bad47f9641032bf1c932bbbdc5f34ec9cc6fb5d25730150b0618a3b68205f", func := "loop.example/compressionlab/laws.FnZigZagNear", spec := "fnZigZagNear", apart := false, narrowed := true }
def FnZigZagNearUptoSaid : Prop := fnZigZagNearUptoRow.holds Try.pinned (OpenSpec.upto fnZigZagNearSpec)

/-- 'laws.FnExactVarPut', WHERE WHAT IT READS IS OF BULK AT MOST 1048576: true; the input reads as it did. -/
def fnExactVarPutUptoRow : OpenClaim := { program := "ytaaaiagpbhiphaa", sum := "b68bad47f9641032bf1c932bbbdc5f34ec9cc6fb5d25730150b0618a3b68205f", func := "loop.example/compressionlab/laws.FnExactVarPut", spec := "fnExactVarPut", apart := false, narrowed := true }
def FnExactVarPutUptoSaid : Prop := fnExactVarPutUptoRow.holds Try.pinned (OpenSpec.upto fnExactVarPutSpec)

/-- 'laws.FnZigZag', WHERE WHAT IT READS IS OF BULK AT MOST 1048576: true; the input reads as it did. -/
def fnZigZagUptoRow : OpenClaim := { program := "ytaaaiagpbhiphaa", sum := "b68bad47f9641032bf1c932bbbdc5f34ec9cc6fb5d25730150b0618a3b68205f", func := "loop.example/compressionlab/laws.FnZigZag", spec := "fnZigZag", apart := false, narrowed := true }
def FnZigZagUptoSaid : Prop := fnZigZagUptoRow.holds Try.pinned (OpenSpec.upto fnZigZagSpec)

/-- 'laws.FnZagZig', WHERE WHAT IT READS IS OF BULK AT MOST 1048576: true; the input reads as it did. -/
def fnZagZigUptoRow : OpenClaim := { program := "ytaaaiagpbhiphaa", sum := "b68bad47f9641032bf1c932bbbdc5f34ec9cc6fb5d25730150b0618a3b68205f", func := "loop.example/compressionlab/laws.FnZagZig", spec := "fnZagZig", apart := false, narrowed := true }
def FnZagZigUptoSaid : Prop := fnZagZigUptoRow.holds Try.pinned (OpenSpec.upto fnZagZigSpec)

/-- 'laws.FnVarPutLength', WHERE WHAT IT READS IS OF BULK AT MOST 1048576: true; the input reads as it did. -/
def fnVarPutLengthUptoRow : OpenClaim := { program := "ytaaaiagpbhiphaa", sum := "b68bad47f9641032bf1c932bbbdc5f34ec9cc6fb5d25730150b0618a3b68205f", func := "loop.example/compressionlab/laws.FnVarPutLength", spec := "fnVarPutLength", apart := false, narrowed := true }
def FnVarPutLengthUptoSaid : Prop := fnVarPutLengthUptoRow.holds Try.pinned (OpenSpec.upto fnVarPutLengthSpec)

/-- 'laws.FnVarPut', WHERE WHAT IT READS IS OF BULK AT MOST 1048576: true; the input reads as it did. -/
def fnVarPutUptoRow : OpenClaim := { program := "ytaaaiagpbhiphaa", sum := "b68bad47f9641032bf1c932bbbdc5f34ec9cc6fb5d25730150b0618a3b68205f", func := "loop.example/compressionlab/laws.FnVarPut", spec := "fnVarPut", apart := false, narrowed := true }
def FnVarPutUptoSaid : Prop := fnVarPutUptoRow.holds Try.pinned (OpenSpec.upto fnVarPutSpec)

/-- 'laws.FnExactVarGet', WHERE WHAT IT READS IS OF BULK AT MOST 1048576: true; the input reads as it did. -/
def fnExactVarGetUptoRow : OpenClaim := { program := "ytaaaiagpbhiphaa", sum := "b68bad47f9641032bf1c932bbbdc5f34ec9cc6fb5d25730150b0618a3b68205f", func := "loop.example/compressionlab/laws.FnExactVarGet", spec := "fnExactVarGet", apart := false, narrowed := true }
def FnExactVarGetUptoSaid : Prop := fnExactVarGetUptoRow.holds Try.pinned (OpenSpec.upto fnExactVarGetSpec)

/-- 'laws.FnVarGetAlone', WHERE WHAT IT READS IS OF BULK AT MOST 1048576: true; the input reads as it did. -/
def fnVarGetAloneUptoRow : OpenClaim := { program := "ytaaaiagpbhiphaa", sum := "b68bad47f9641032bf1c932bbbdc5f34ec9cc6fb5d25730150b0618a3b68205f", func := "loop.example/compressionlab/laws.FnVarGetAlone", spec := "fnVarGetAlone", apart := false, narrowed := true }
def FnVarGetAloneUptoSaid : Prop := fnVarGetAloneUptoRow.holds Try.pinned (OpenSpec.upto fnVarGetAloneSpec)

/-- 'laws.FnVarGetTorn', WHERE WHAT IT READS IS OF BULK AT MOST 1048576: true; the input reads as it did. -/
def fnVarGetTornUptoRow : OpenClaim := { program := "ytaaaiagpbhiphaa", sum := "b68bad47f9641032bf1c932bbbdc5f34ec9cc6fb5d25730150b0618a3b68205f", func := "loop.example/compressionlab/laws.FnVarGetTorn", spec := "fnVarGetTorn", apart := false, narrowed := true }
def FnVarGetTornUptoSaid : Prop := fnVarGetTornUptoRow.holds Try.pinned (OpenSpec.upto fnVarGetTornSpec)

/-- 'laws.FnVarGet', WHERE WHAT IT READS IS OF BULK AT MOST 1048576: true; the input reads as it did. -/
def fnVarGetUptoRow : OpenClaim := { program := "ytaaaiagpbhiphaa", sum := "b68bad47f9641032bf1c932bbbdc5f34ec9cc6fb5d25730150b0618a3b68205f", func := "loop.example/compressionlab/laws.FnVarGet", spec := "fnVarGet", apart := false, narrowed := true }
def FnVarGetUptoSaid : Prop := fnVarGetUptoRow.holds Try.pinned (OpenSpec.upto fnVarGetSpec)

end Rows
end Go.Proofs.Ytaaaiagpbhiphaa
