/-
  No cell of these rows narrows 'for every input' (looked for: loops, veiled, ifaces, maps, wideKeys, modest, calm, conditions, laid).
  DERIVED. THE GIVEN ROWS OF THIS SEAT. 8 by the template 'for every input the law returns true; each argument reads behind the call as it read before'; 0 by the template 'total and deterministic' (their statements: YtfobmhhikmaggaaTotals.lean).
  GIVEN WITH THE SEED: the statements are not yours to turn. If you find one false, say at which input.
  Laid BY PROGRAM, IN A SANDBOX (cutbox-rows.mjs): the forced cells as the released guide's own fill.sh prints them over the translation 3864537409654cc3… (all of the seat's roots in one cut). By AI agents, Wed Nov 11 2026. No macro, syntax, notation, axiom, sorry.
-/
import Derived.Test.YtfobmhhikmaggaaChecked
import GoSem.Claim
import GoSem.ClaimJoined
import GoSem.ClaimMapViews
import Derived.JoinedTies
import Derived.KernelRfl
namespace Go.Proofs.Ytfobmhhikmaggaa
/- THE CELL 'sum', in the pinned program and in every row, IS THE sha256 OF THE DUMP (.gsa) THAT YtfobmhhikmaggaaProg.lean LOADS. Nothing in Lean hashes anything: it is a label: what it is worth is what the hold of that sum in a sandbox is worth. -/
noncomputable def Try.pinned : Pinned := { name := "ytfobmhhikmaggaa", sum := "3864537409654cc32cd8cf95772d35e4e6eda3edba4493993349ec1612af9bbd", checked := Try.checked }
namespace Rows
def none {H : Type} : Left H := { results := [], args := [] }

/-- 'laws.FnExactPairJoin': WHATEVER THE INPUT: true; the input reads as it did. -/
def fnExactPairJoinSpec : ChangeSpec := { name := "fnExactPairJoin", fn := fun _ => fun
  | [d1, d2, d3, d4, d5] => { results := [.lit (.bool true)], args := [d1, d2, d3, d4, d5] }
  | _ => none }
def fnExactPairJoinRow : OpenClaim := { program := "ytfobmhhikmaggaa", sum := "3864537409654cc32cd8cf95772d35e4e6eda3edba4493993349ec1612af9bbd", func := "loop.example/compressionlab/laws.FnExactPairJoin", spec := "fnExactPairJoin", apart := false }
def FnExactPairJoinSaid : Prop := fnExactPairJoinRow.holds Try.pinned (OpenSpec.ofChange fnExactPairJoinSpec)

/-- ITS FALSE NEIGHBOUR: 'it returns false'. Refute it at one input. -/
def fnExactPairJoinWrong : ChangeSpec := { name := "fnExactPairJoin", fn := fun _ => fun
  | [d1, d2, d3, d4, d5] => { results := [.lit (.bool false)], args := [d1, d2, d3, d4, d5] }
  | _ => none }
def FnExactPairJoinWrongFalsely : Prop := fnExactPairJoinRow.holds Try.pinned (OpenSpec.ofChange fnExactPairJoinWrong)

/-- 'laws.FnExactPairOf': WHATEVER THE INPUT: true; the input reads as it did. -/
def fnExactPairOfSpec : ChangeSpec := { name := "fnExactPairOf", fn := fun _ => fun
  | [d] => { results := [.lit (.bool true)], args := [d] }
  | _ => none }
def fnExactPairOfRow : OpenClaim := { program := "ytfobmhhikmaggaa", sum := "3864537409654cc32cd8cf95772d35e4e6eda3edba4493993349ec1612af9bbd", func := "loop.example/compressionlab/laws.FnExactPairOf", spec := "fnExactPairOf", apart := false }
def FnExactPairOfSaid : Prop := fnExactPairOfRow.holds Try.pinned (OpenSpec.ofChange fnExactPairOfSpec)

/-- ITS FALSE NEIGHBOUR: 'it returns false'. Refute it at one input. -/
def fnExactPairOfWrong : ChangeSpec := { name := "fnExactPairOf", fn := fun _ => fun
  | [d] => { results := [.lit (.bool false)], args := [d] }
  | _ => none }
def FnExactPairOfWrongFalsely : Prop := fnExactPairOfRow.holds Try.pinned (OpenSpec.ofChange fnExactPairOfWrong)

/-- 'laws.FnPairChange': WHATEVER THE INPUT: true; the input reads as it did. -/
def fnPairChangeSpec : ChangeSpec := { name := "fnPairChange", fn := fun _ => fun
  | [d1, d2] => { results := [.lit (.bool true)], args := [d1, d2] }
  | _ => none }
def fnPairChangeRow : OpenClaim := { program := "ytfobmhhikmaggaa", sum := "3864537409654cc32cd8cf95772d35e4e6eda3edba4493993349ec1612af9bbd", func := "loop.example/compressionlab/laws.FnPairChange", spec := "fnPairChange", apart := false }
def FnPairChangeSaid : Prop := fnPairChangeRow.holds Try.pinned (OpenSpec.ofChange fnPairChangeSpec)

/-- ITS FALSE NEIGHBOUR: 'it returns false'. Refute it at one input. -/
def fnPairChangeWrong : ChangeSpec := { name := "fnPairChange", fn := fun _ => fun
  | [d1, d2] => { results := [.lit (.bool false)], args := [d1, d2] }
  | _ => none }
def FnPairChangeWrongFalsely : Prop := fnPairChangeRow.holds Try.pinned (OpenSpec.ofChange fnPairChangeWrong)

/-- 'laws.FnPairSwap': WHATEVER THE INPUT: true; the input reads as it did. -/
def fnPairSwapSpec : ChangeSpec := { name := "fnPairSwap", fn := fun _ => fun
  | [d1, d2] => { results := [.lit (.bool true)], args := [d1, d2] }
  | _ => none }
def fnPairSwapRow : OpenClaim := { program := "ytfobmhhikmaggaa", sum := "3864537409654cc32cd8cf95772d35e4e6eda3edba4493993349ec1612af9bbd", func := "loop.example/compressionlab/laws.FnPairSwap", spec := "fnPairSwap", apart := false }
def FnPairSwapSaid : Prop := fnPairSwapRow.holds Try.pinned (OpenSpec.ofChange fnPairSwapSpec)

/-- ITS FALSE NEIGHBOUR: 'it returns false'. Refute it at one input. -/
def fnPairSwapWrong : ChangeSpec := { name := "fnPairSwap", fn := fun _ => fun
  | [d1, d2] => { results := [.lit (.bool false)], args := [d1, d2] }
  | _ => none }
def FnPairSwapWrongFalsely : Prop := fnPairSwapRow.holds Try.pinned (OpenSpec.ofChange fnPairSwapWrong)

/-- 'laws.FnPairZeros': WHATEVER THE INPUT: true; the input reads as it did. -/
def fnPairZerosSpec : ChangeSpec := { name := "fnPairZeros", fn := fun _ => fun
  | [d1, d2] => { results := [.lit (.bool true)], args := [d1, d2] }
  | _ => none }
def fnPairZerosRow : OpenClaim := { program := "ytfobmhhikmaggaa", sum := "3864537409654cc32cd8cf95772d35e4e6eda3edba4493993349ec1612af9bbd", func := "loop.example/compressionlab/laws.FnPairZeros", spec := "fnPairZeros", apart := false }
def FnPairZerosSaid : Prop := fnPairZerosRow.holds Try.pinned (OpenSpec.ofChange fnPairZerosSpec)

/-- ITS FALSE NEIGHBOUR: 'it returns false'. Refute it at one input. -/
def fnPairZerosWrong : ChangeSpec := { name := "fnPairZeros", fn := fun _ => fun
  | [d1, d2] => { results := [.lit (.bool false)], args := [d1, d2] }
  | _ => none }
def FnPairZerosWrongFalsely : Prop := fnPairZerosRow.holds Try.pinned (OpenSpec.ofChange fnPairZerosWrong)

/-- 'laws.FnPairNone': WHATEVER THE INPUT: true; the input reads as it did. -/
def fnPairNoneSpec : ChangeSpec := { name := "fnPairNone", fn := fun _ => fun
  | [d] => { results := [.lit (.bool true)], args := [d] }
  | _ => none }
def fnPairNoneRow : OpenClaim := { program := "ytfobmhhikmaggaa", sum := "3864537409654cc32cd8cf95772d35e4e6eda3edba4493993349ec1612af9bbd", func := "loop.example/compressionlab/laws.FnPairNone", spec := "fnPairNone", apart := false }
def FnPairNoneSaid : Prop := fnPairNoneRow.holds Try.pinned (OpenSpec.ofChange fnPairNoneSpec)

/-- ITS FALSE NEIGHBOUR: 'it returns false'. Refute it at one input. -/
def fnPairNoneWrong : ChangeSpec := { name := "fnPairNone", fn := fun _ => fun
  | [d] => { results := [.lit (.bool false)], args := [d] }
  | _ => none }
def FnPairNoneWrongFalsely : Prop := fnPairNoneRow.holds Try.pinned (OpenSpec.ofChange fnPairNoneWrong)

/-- 'laws.FnPair': WHATEVER THE INPUT: true; the input reads as it did. -/
def fnPairSpec : ChangeSpec := { name := "fnPair", fn := fun _ => fun
  | [d1, d2] => { results := [.lit (.bool true)], args := [d1, d2] }
  | _ => none }
def fnPairRow : OpenClaim := { program := "ytfobmhhikmaggaa", sum := "3864537409654cc32cd8cf95772d35e4e6eda3edba4493993349ec1612af9bbd", func := "loop.example/compressionlab/laws.FnPair", spec := "fnPair", apart := false }
def FnPairSaid : Prop := fnPairRow.holds Try.pinned (OpenSpec.ofChange fnPairSpec)

/-- ITS FALSE NEIGHBOUR: 'it returns false'. Refute it at one input. -/
def fnPairWrong : ChangeSpec := { name := "fnPair", fn := fun _ => fun
  | [d1, d2] => { results := [.lit (.bool false)], args := [d1, d2] }
  | _ => none }
def FnPairWrongFalsely : Prop := fnPairRow.holds Try.pinned (OpenSpec.ofChange fnPairWrong)

/-- 'laws.FnExactCrcOf': WHATEVER THE INPUT: true; the input reads as it did. -/
def fnExactCrcOfSpec : ChangeSpec := { name := "fnExactCrcOf", fn := fun _ => fun
  | [d] => { results := [.lit (.bool true)], args := [d] }
  | _ => none }
def fnExactCrcOfRow : OpenClaim := { program := "ytfobmhhikmaggaa", sum := "3864537409654cc32cd8cf95772d35e4e6eda3edba4493993349ec1612af9bbd", func := "loop.example/compressionlab/laws.FnExactCrcOf", spec := "fnExactCrcOf", apart := false }
def FnExactCrcOfSaid : Prop := fnExactCrcOfRow.holds Try.pinned (OpenSpec.ofChange fnExactCrcOfSpec)

/-- ITS FALSE NEIGHBOUR: 'it returns false'. Refute it at one input. -/
def fnExactCrcOfWrong : ChangeSpec := { name := "fnExactCrcOf", fn := fun _ => fun
  | [d] => { results := [.lit (.bool false)], args := [d] }
  | _ => none }
def FnExactCrcOfWrongFalsely : Prop := fnExactCrcOfRow.holds Try.pinned (OpenSpec.ofChange fnExactCrcOfWrong)

/- THE SECOND FORM. 'bulk': how many values and letters a reading holds, each counted each time it is reached (what is shared counts as often as it is met; a slice's spare places count too). A statement '..UptoSaid' is the law's where the arguments, and the package variables that the reading takes, are together of bulk at most 1048576: NARROWER than '..Said'. Prove '..Said' where nothing that the law and all that it calls make is longer than what came in: it says more and counts as full. Else prove '..UptoSaid'. A law counts once. -/
mutual
def uptoBulk {H : Type} : DataW H → Nat
  | .lit (.string bytes) => bytes.length + 1
  | .lit _ => 1
  | .nil => 1
  | .ptr d => uptoBulk d + 1
  | .slice elems spare => uptoBulkAll elems + uptoBulkAll spare + 1
  | .agg parts => uptoBulkAll parts + 1
  | .iface _ d => uptoBulk d + 1
  | .map entries => uptoBulkEntries entries + 1
  | .held _ => 1
def uptoBulkAll {H : Type} : List (DataW H) → Nat
  | [] => 0
  | d :: r => uptoBulk d + uptoBulkAll r
def uptoBulkEntries {H : Type} : List (Lit × DataW H) → Nat
  | [] => 0
  | x :: r => uptoBulkEntry x + uptoBulkEntries r
def uptoBulkEntry {H : Type} : Lit × DataW H → Nat
  | (.string bytes, d) => bytes.length + uptoBulk d + 1
  | (_, d) => uptoBulk d + 1
 end
def uptoSmall : (H : Type) → List (DataW H) → Bool := fun _ ds => decide (uptoBulkAll ds ≤ 1048576)
def OpenSpec.upto (s : _root_.Go.ChangeSpec) : _root_.Go.OpenSpec := { _root_.Go.OpenSpec.ofChange s with cond := some uptoSmall }

/-- 'laws.FnExactPairJoin', WHERE WHAT IT READS IS OF BULK AT MOST 1048576: true; the input reads as it did. -/
def fnExactPairJoinUptoRow : OpenClaim := { program := "ytfobmhhikmaggaa", sum := "3864537409654cc32cd8cf95772d35e4e6eda3edba4493993349ec1612af9bbd", func := "loop.example/compressionlab/laws.FnExactPairJoin", spec := "fnExactPairJoin", apart := false, narrowed := true }
def FnExactPairJoinUptoSaid : Prop := fnExactPairJoinUptoRow.holds Try.pinned (OpenSpec.upto fnExactPairJoinSpec)

/-- 'laws.FnExactPairOf', WHERE WHAT IT READS IS OF BULK AT MOST 1048576: true; the input reads as it did. -/
def fnExactPairOfUptoRow : OpenClaim := { program := "ytfobmhhikmaggaa", sum := "3864537409654cc32cd8cf95772d35e4e6eda3edba4493993349ec1612af9bbd", func := "loop.example/compressionlab/laws.FnExactPairOf", spec := "fnExactPairOf", apart := false, narrowed := true }
def FnExactPairOfUptoSaid : Prop := fnExactPairOfUptoRow.holds Try.pinned (OpenSpec.upto fnExactPairOfSpec)

/-- 'laws.FnPairChange', WHERE WHAT IT READS IS OF BULK AT MOST 1048576: true; the input reads as it did. -/
def fnPairChangeUptoRow : OpenClaim := { program := "ytfobmhhikmaggaa", sum := "3864537409654cc32cd8cf95772d35e4e6eda3edba4493993349ec1612af9bbd", func := "loop.example/compressionlab/laws.FnPairChange", spec := "fnPairChange", apart := false, narrowed := true }
def FnPairChangeUptoSaid : Prop := fnPairChangeUptoRow.holds Try.pinned (OpenSpec.upto fnPairChangeSpec)

/-- 'laws.FnPairSwap', WHERE WHAT IT READS IS OF BULK AT MOST 1048576: true; the input reads as it did. -/
def fnPairSwapUptoRow : OpenClaim := { program := "ytfobmhhikmaggaa", sum := "3864537409654cc32cd8cf95772d35e4e6eda3edba4493993349ec1612af9bbd", func := "loop.example/compressionlab/laws.FnPairSwap", spec := "fnPairSwap", apart := false, narrowed := true }
def FnPairSwapUptoSaid : Prop := fnPairSwapUptoRow.holds Try.pinned (OpenSpec.upto fnPairSwapSpec)

/-- 'laws.FnPairZeros', WHERE WHAT IT READS IS OF BULK AT MOST 1048576: true; the input reads as it did. -/
def fnPairZerosUptoRow : OpenClaim := { program := "ytfobmhhikmaggaa", sum := "3864537409654cc32cd8cf95772d35e4e6eda3edba4493993349ec1612af9bbd", func := "loop.example/compressionlab/laws.FnPairZeros", spec := "fnPairZeros", apart := false, narrowed := true }
def FnPairZerosUptoSaid : Prop := fnPairZerosUptoRow.holds Try.pinned (OpenSpec.upto fnPairZerosSpec)

/-- 'laws.FnPairNone', WHERE WHAT IT READS IS OF BULK AT MOST 1048576: true; the input reads as it did. -/
def fnPairNoneUptoRow : OpenClaim := { program := "ytfobmhhikmaggaa", sum := "3864537409654cc32cd8cf95772d35e4e6eda3edba4493993349ec1612af9bbd", func := "loop.example/compressionlab/laws.FnPairNone", spec := "fnPairNone", apart := false, narrowed := true }
def FnPairNoneUptoSaid : Prop := fnPairNoneUptoRow.holds Try.pinned (OpenSpec.upto fnPairNoneSpec)

/-- 'laws.FnPair', WHERE WHAT IT READS IS OF BULK AT MOST 1048576: true; the input reads as it did. -/
def fnPairUptoRow : OpenClaim := { program := "ytfobmhhikmaggaa", sum := "3864537409654cc32cd8cf95772d35e4e6eda3edba4493993349ec1612af9bbd", func := "loop.example/compressionlab/laws.FnPair", spec := "fnPair", apart := false, narrowed := true }
def FnPairUptoSaid : Prop := fnPairUptoRow.holds Try.pinned (OpenSpec.upto fnPairSpec)

/-- 'laws.FnExactCrcOf', WHERE WHAT IT READS IS OF BULK AT MOST 1048576: true; the input reads as it did. -/
def fnExactCrcOfUptoRow : OpenClaim := { program := "ytfobmhhikmaggaa", sum := "3864537409654cc32cd8cf95772d35e4e6eda3edba4493993349ec1612af9bbd", func := "loop.example/compressionlab/laws.FnExactCrcOf", spec := "fnExactCrcOf", apart := false, narrowed := true }
def FnExactCrcOfUptoSaid : Prop := fnExactCrcOfUptoRow.holds Try.pinned (OpenSpec.upto fnExactCrcOfSpec)

end Rows
end Go.Proofs.Ytfobmhhikmaggaa
