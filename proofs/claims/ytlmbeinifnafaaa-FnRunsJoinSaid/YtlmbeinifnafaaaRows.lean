/-
  No cell of these rows narrows 'for every input' (looked for: loops, veiled, ifaces, maps, wideKeys, modest, calm, conditions, laid).
  DERIVED. THE GIVEN ROWS OF THIS SEAT. 8 by the template 'for every input the law returns true; each argument reads behind the call as it read before'; 0 by the template 'total and deterministic' (their statements: YtlmbeinifnafaaaTotals.lean).
  GIVEN WITH THE SEED: the statements are not yours to turn. If you find one false, say at which input.
  Laid BY PROGRAM, IN A SANDBOX (cutbox-rows.mjs): the forced cells as the released guide's own fill.sh prints them over the translation 084343185b3e1fc4… (all of the seat's roots in one cut). By AI agents, Wed Nov 11 2026. No macro, syntax, notation, axiom, sorry.
-/
import Derived.Test.YtlmbeinifnafaaaChecked
import GoSem.Claim
import GoSem.ClaimJoined
import GoSem.ClaimMapViews
import Derived.JoinedTies
import Derived.KernelRfl
namespace Go.Proofs.Ytlmbeinifnafaaa
/- THE CELL 'sum', in the pinned program and in every row, IS THE sha256 OF THE DUMP (.gsa) THAT YtlmbeinifnafaaaProg.lean LOADS. Nothing in Lean hashes anything: it is a label: what it is worth is what the hold of that sum in a sandbox is worth. -/
noncomputable def Try.pinned : Pinned := { name := "ytlmbeinifnafaaa", sum := "084343185b3e1fc497531b58657c52117f0a1ded7cdc9f191834d869077e87cd", checked := Try.checked }
namespace Rows
def none {H : Type} : Left H := { results := [], args := [] }

/-- 'laws.FnRunsJoin': WHATEVER THE INPUT: true; the input reads as it did. -/
def fnRunsJoinSpec : ChangeSpec := { name := "fnRunsJoin", fn := fun _ => fun
  | [d] => { results := [.lit (.bool true)], args := [d] }
  | _ => none }
def fnRunsJoinRow : OpenClaim := { program := "ytlmbeinifnafaaa", sum := "084343185b3e1fc497531b58657c52117f0a1ded7cdc9f191834d869077e87cd", func := "loop.example/compressionlab/laws.FnRunsJoin", spec := "fnRunsJoin", apart := false }
def FnRunsJoinSaid : Prop := fnRunsJoinRow.holds Try.pinned (OpenSpec.ofChange fnRunsJoinSpec)

/-- ITS FALSE NEIGHBOUR: 'it returns false'. Refute it at one input. -/
def fnRunsJoinWrong : ChangeSpec := { name := "fnRunsJoin", fn := fun _ => fun
  | [d] => { results := [.lit (.bool false)], args := [d] }
  | _ => none }
def FnRunsJoinWrongFalsely : Prop := fnRunsJoinRow.holds Try.pinned (OpenSpec.ofChange fnRunsJoinWrong)

/-- 'laws.FnExactRunsLongest': WHATEVER THE INPUT: true; the input reads as it did. -/
def fnExactRunsLongestSpec : ChangeSpec := { name := "fnExactRunsLongest", fn := fun _ => fun
  | [d] => { results := [.lit (.bool true)], args := [d] }
  | _ => none }
def fnExactRunsLongestRow : OpenClaim := { program := "ytlmbeinifnafaaa", sum := "084343185b3e1fc497531b58657c52117f0a1ded7cdc9f191834d869077e87cd", func := "loop.example/compressionlab/laws.FnExactRunsLongest", spec := "fnExactRunsLongest", apart := false }
def FnExactRunsLongestSaid : Prop := fnExactRunsLongestRow.holds Try.pinned (OpenSpec.ofChange fnExactRunsLongestSpec)

/-- ITS FALSE NEIGHBOUR: 'it returns false'. Refute it at one input. -/
def fnExactRunsLongestWrong : ChangeSpec := { name := "fnExactRunsLongest", fn := fun _ => fun
  | [d] => { results := [.lit (.bool false)], args := [d] }
  | _ => none }
def FnExactRunsLongestWrongFalsely : Prop := fnExactRunsLongestRow.holds Try.pinned (OpenSpec.ofChange fnExactRunsLongestWrong)

/-- 'laws.FnExactRunsJoin': WHATEVER THE INPUT: true; the input reads as it did. -/
def fnExactRunsJoinSpec : ChangeSpec := { name := "fnExactRunsJoin", fn := fun _ => fun
  | [d] => { results := [.lit (.bool true)], args := [d] }
  | _ => none }
def fnExactRunsJoinRow : OpenClaim := { program := "ytlmbeinifnafaaa", sum := "084343185b3e1fc497531b58657c52117f0a1ded7cdc9f191834d869077e87cd", func := "loop.example/compressionlab/laws.FnExactRunsJoin", spec := "fnExactRunsJoin", apart := false }
def FnExactRunsJoinSaid : Prop := fnExactRunsJoinRow.holds Try.pinned (OpenSpec.ofChange fnExactRunsJoinSpec)

/-- ITS FALSE NEIGHBOUR: 'it returns false'. Refute it at one input. -/
def fnExactRunsJoinWrong : ChangeSpec := { name := "fnExactRunsJoin", fn := fun _ => fun
  | [d] => { results := [.lit (.bool false)], args := [d] }
  | _ => none }
def FnExactRunsJoinWrongFalsely : Prop := fnExactRunsJoinRow.holds Try.pinned (OpenSpec.ofChange fnExactRunsJoinWrong)

/-- 'laws.FnRunsCount': WHATEVER THE INPUT: true; the input reads as it did. -/
def fnRunsCountSpec : ChangeSpec := { name := "fnRunsCount", fn := fun _ => fun
  | [d] => { results := [.lit (.bool true)], args := [d] }
  | _ => none }
def fnRunsCountRow : OpenClaim := { program := "ytlmbeinifnafaaa", sum := "084343185b3e1fc497531b58657c52117f0a1ded7cdc9f191834d869077e87cd", func := "loop.example/compressionlab/laws.FnRunsCount", spec := "fnRunsCount", apart := false }
def FnRunsCountSaid : Prop := fnRunsCountRow.holds Try.pinned (OpenSpec.ofChange fnRunsCountSpec)

/-- ITS FALSE NEIGHBOUR: 'it returns false'. Refute it at one input. -/
def fnRunsCountWrong : ChangeSpec := { name := "fnRunsCount", fn := fun _ => fun
  | [d] => { results := [.lit (.bool false)], args := [d] }
  | _ => none }
def FnRunsCountWrongFalsely : Prop := fnRunsCountRow.holds Try.pinned (OpenSpec.ofChange fnRunsCountWrong)

/-- 'laws.FnRunsDiffer': WHATEVER THE INPUT: true; the input reads as it did. -/
def fnRunsDifferSpec : ChangeSpec := { name := "fnRunsDiffer", fn := fun _ => fun
  | [d] => { results := [.lit (.bool true)], args := [d] }
  | _ => none }
def fnRunsDifferRow : OpenClaim := { program := "ytlmbeinifnafaaa", sum := "084343185b3e1fc497531b58657c52117f0a1ded7cdc9f191834d869077e87cd", func := "loop.example/compressionlab/laws.FnRunsDiffer", spec := "fnRunsDiffer", apart := false }
def FnRunsDifferSaid : Prop := fnRunsDifferRow.holds Try.pinned (OpenSpec.ofChange fnRunsDifferSpec)

/-- ITS FALSE NEIGHBOUR: 'it returns false'. Refute it at one input. -/
def fnRunsDifferWrong : ChangeSpec := { name := "fnRunsDiffer", fn := fun _ => fun
  | [d] => { results := [.lit (.bool false)], args := [d] }
  | _ => none }
def FnRunsDifferWrongFalsely : Prop := fnRunsDifferRow.holds Try.pinned (OpenSpec.ofChange fnRunsDifferWrong)

/-- 'laws.FnExactRunsOf': WHATEVER THE INPUT: true; the input reads as it did. -/
def fnExactRunsOfSpec : ChangeSpec := { name := "fnExactRunsOf", fn := fun _ => fun
  | [d] => { results := [.lit (.bool true)], args := [d] }
  | _ => none }
def fnExactRunsOfRow : OpenClaim := { program := "ytlmbeinifnafaaa", sum := "084343185b3e1fc497531b58657c52117f0a1ded7cdc9f191834d869077e87cd", func := "loop.example/compressionlab/laws.FnExactRunsOf", spec := "fnExactRunsOf", apart := false }
def FnExactRunsOfSaid : Prop := fnExactRunsOfRow.holds Try.pinned (OpenSpec.ofChange fnExactRunsOfSpec)

/-- ITS FALSE NEIGHBOUR: 'it returns false'. Refute it at one input. -/
def fnExactRunsOfWrong : ChangeSpec := { name := "fnExactRunsOf", fn := fun _ => fun
  | [d] => { results := [.lit (.bool false)], args := [d] }
  | _ => none }
def FnExactRunsOfWrongFalsely : Prop := fnExactRunsOfRow.holds Try.pinned (OpenSpec.ofChange fnExactRunsOfWrong)

/-- 'laws.FnLongest': WHATEVER THE INPUT: true; the input reads as it did. -/
def fnLongestSpec : ChangeSpec := { name := "fnLongest", fn := fun _ => fun
  | [d] => { results := [.lit (.bool true)], args := [d] }
  | _ => none }
def fnLongestRow : OpenClaim := { program := "ytlmbeinifnafaaa", sum := "084343185b3e1fc497531b58657c52117f0a1ded7cdc9f191834d869077e87cd", func := "loop.example/compressionlab/laws.FnLongest", spec := "fnLongest", apart := false }
def FnLongestSaid : Prop := fnLongestRow.holds Try.pinned (OpenSpec.ofChange fnLongestSpec)

/-- ITS FALSE NEIGHBOUR: 'it returns false'. Refute it at one input. -/
def fnLongestWrong : ChangeSpec := { name := "fnLongest", fn := fun _ => fun
  | [d] => { results := [.lit (.bool false)], args := [d] }
  | _ => none }
def FnLongestWrongFalsely : Prop := fnLongestRow.holds Try.pinned (OpenSpec.ofChange fnLongestWrong)

/-- 'laws.FnRuns': WHATEVER THE INPUT: true; the input reads as it did. -/
def fnRunsSpec : ChangeSpec := { name := "fnRuns", fn := fun _ => fun
  | [d] => { results := [.lit (.bool true)], args := [d] }
  | _ => none }
def fnRunsRow : OpenClaim := { program := "ytlmbeinifnafaaa", sum := "084343185b3e1fc497531b58657c52117f0a1ded7cdc9f191834d869077e87cd", func := "loop.example/compressionlab/laws.FnRuns", spec := "fnRuns", apart := false }
def FnRunsSaid : Prop := fnRunsRow.holds Try.pinned (OpenSpec.ofChange fnRunsSpec)

/-- ITS FALSE NEIGHBOUR: 'it returns false'. Refute it at one input. -/
def fnRunsWrong : ChangeSpec := { name := "fnRuns", fn := fun _ => fun
  | [d] => { results := [.lit (.bool false)], args := [d] }
  | _ => none }
def FnRunsWrongFalsely : Prop := fnRunsRow.holds Try.pinned (OpenSpec.ofChange fnRunsWrong)

/- THE SECOND FORM. 'bulk': how many values and letters a reading holds, each counted each time it is reached (what is shared counts as often as it is met; a slice's spare places count too). A statement '..UptoSaid' is the law's where the arguments, and the package variables that the reading takes, are together of bulk at most 1048576: NARROWER than '..Said'. Prove '..Said' where nothing that the law and all that it calls make is longer than what came in: it says more and counts as full. Else prove '..UptoSaid'. A law counts once. -/
mutual
def uptoBulk {H : Type} : DataW H → Nat
  | .lit (.string bytes) => bytes.length + 1
  | .lit _ => 1
  | .nil => 1
  | .ptr d => uptoBulk d + 1
  | .slice elems spare => uptoBulkAll elems + uptoBulkAll spare + 1
  | .agg parts => uptoBulkAll parts + 1
  | .iface _ d => uptoBulk d + 1
  | .map entries => uptoBulkEntries entries + 1
  | .held _ => 1
def uptoBulkAll {H : Type} : List (DataW H) → Nat
  | [] => 0
  | d :: r => uptoBulk d + uptoBulkAll r
def uptoBulkEntries {H : Type} : List (Lit × DataW H) → Nat
  | [] => 0
  | x :: r => uptoBulkEntry x + uptoBulkEntries r
def uptoBulkEntry {H : Type} : Lit × DataW H → Nat
  | (.string bytes, d) => bytes.length + uptoBulk d + 1
  | (_, d) => uptoBulk d + 1
 end
def uptoSmall : (H : Type) → List (DataW H) → Bool := fun _ ds => decide (uptoBulkAll ds ≤ 1048576)
def OpenSpec.upto (s : _root_.Go.ChangeSpec) : _root_.Go.OpenSpec := { _root_.Go.OpenSpec.ofChange s with cond := some uptoSmall }

/-- 'laws.FnRunsJoin', WHERE WHAT IT READS IS OF BULK AT MOST 1048576: true; the input reads as it did. -/
def fnRunsJoinUptoRow : OpenClaim := { program := "ytlmbeinifnafaaa", sum := "084343185b3e1fc497531b58657c52117f0a1ded7cdc9f191834d869077e87cd", func := "loop.example/compressionlab/laws.FnRunsJoin", spec := "fnRunsJoin", apart := false, narrowed := true }
def FnRunsJoinUptoSaid : Prop := fnRunsJoinUptoRow.holds Try.pinned (OpenSpec.upto fnRunsJoinSpec)

/-- 'laws.FnExactRunsLongest', WHERE WHAT IT READS IS OF BULK AT MOST 1048576: true; the input reads as it did. -/
def fnExactRunsLongestUptoRow : OpenClaim := { program := "ytlmbeinifnafaaa", sum := "084343185b3e1fc497531b58657c52117f0a1ded7cdc9f191834d869077e87cd", func := "loop.example/compressionlab/laws.FnExactRunsLongest", spec := "fnExactRunsLongest", apart := false, narrowed := true }
def FnExactRunsLongestUptoSaid : Prop := fnExactRunsLongestUptoRow.holds Try.pinned (OpenSpec.upto fnExactRunsLongestSpec)

/-- 'laws.FnExactRunsJoin', WHERE WHAT IT READS IS OF BULK AT MOST 1048576: true; the input reads as it did. -/
def fnExactRunsJoinUptoRow : OpenClaim := { program := "ytlmbeinifnafaaa", sum := "084343185b3e1fc497531b58657c52117f0a1ded7cdc9f191834d869077e87cd", func := "loop.example/compressionlab/laws.FnExactRunsJoin", spec := "fnExactRunsJoin", apart := false, narrowed := true }
def FnExactRunsJoinUptoSaid : Prop := fnExactRunsJoinUptoRow.holds Try.pinned (OpenSpec.upto fnExactRunsJoinSpec)

/-- 'laws.FnRunsCount', WHERE WHAT IT READS IS OF BULK AT MOST 1048576: true; the input reads as it did. -/
def fnRunsCountUptoRow : OpenClaim := { program := "ytlmbeinifnafaaa", sum := "084343185b3e1fc497531b58657c52117f0a1ded7cdc9f191834d869077e87cd", func := "loop.example/compressionlab/laws.FnRunsCount", spec := "fnRunsCount", apart := false, narrowed := true }
def FnRunsCountUptoSaid : Prop := fnRunsCountUptoRow.holds Try.pinned (OpenSpec.upto fnRunsCountSpec)

/-- 'laws.FnRunsDiffer', WHERE WHAT IT READS IS OF BULK AT MOST 1048576: true; the input reads as it did. -/
def fnRunsDifferUptoRow : OpenClaim := { program := "ytlmbeinifnafaaa", sum := "084343185b3e1fc497531b58657c52117f0a1ded7cdc9f191834d869077e87cd", func := "loop.example/compressionlab/laws.FnRunsDiffer", spec := "fnRunsDiffer", apart := false, narrowed := true }
def FnRunsDifferUptoSaid : Prop := fnRunsDifferUptoRow.holds Try.pinned (OpenSpec.upto fnRunsDifferSpec)

/-- 'laws.FnExactRunsOf', WHERE WHAT IT READS IS OF BULK AT MOST 1048576: true; the input reads as it did. -/
def fnExactRunsOfUptoRow : OpenClaim := { program := "ytlmbeinifnafaaa", sum := "084343185b3e1fc497531b58657c52117f0a1ded7cdc9f191834d869077e87cd", func := "loop.example/compressionlab/laws.FnExactRunsOf", spec := "fnExactRunsOf", apart := false, narrowed := true }
def FnExactRunsOfUptoSaid : Prop := fnExactRunsOfUptoRow.holds Try.pinned (OpenSpec.upto fnExactRunsOfSpec)

/-- 'laws.FnLongest', WHERE WHAT IT READS IS OF BULK AT MOST 1048576: true; the input reads as it did. -/
def fnLongestUptoRow : OpenClaim := { program := "ytlmbeinifnafaaa", sum := "084343185b3e1fc497531b58657c52117f0a1ded7cdc9f191834d869077e87cd", func := "loop.example/compressionlab/laws.FnLongest", spec := "fnLongest", apart := false, narrowed := true }
def FnLongestUptoSaid : Prop := fnLongestUptoRow.holds Try.pinned (OpenSpec.upto fnLongestSpec)

/-- 'laws.FnRuns', WHERE WHAT IT READS IS OF BULK AT MOST 1048576: true; the input reads as it did. -/
def fnRunsUptoRow : OpenClaim := { program := "ytlmbeinifnafaaa", sum := "084343185b3e1fc497531b58657c52117f0a1ded7cdc9f191834d869077e87cd", func := "loop.example/compressionlab/laws.FnRuns", spec := "fnRuns", apart := false, narrowed := true }
def FnRunsUptoSaid : Prop := fnRunsUptoRow.holds Try.pinned (OpenSpec.upto fnRunsSpec)

end Rows
end Go.Proofs.Ytlmbeinifnafaaa
