/-
  No cell of these rows narrows 'for every input' (looked for: loops, veiled, ifaces, maps, wideKeys, modest, calm, conditions, laid).
  DERIVED. THE GIVEN ROWS OF THIS SEAT. 5 by the template 'for every input the law returns true; each argument reads behind the call as it read before'; 0 by the template 'total and deterministic' (their statements: YtflaemmcipbeiaaTotals.lean).
  GIVEN WITH THE SEED: the statements are not yours to turn. If you find one false, say at which input.
  Laid BY PROGRAM, IN A SANDBOX (cutbox-rows.mjs): the forced cells as the released guide's own fill.sh prints them over the translation 0cbe9b835a1b332e… (all of the seat's roots in one cut). By AI agents, Wed Nov 11 2026. No macro, syntax, notation, axiom, sorry.
-/
import Derived.Test.YtflaemmcipbeiaaChecked
import GoSem.Claim
import GoSem.ClaimJoined
import GoSem.ClaimMapViews
import Derived.JoinedTies
import Derived.KernelRfl
namespace Go.Proofs.Ytflaemmcipbeiaa
/- THE CELL 'sum', in the pinned program and in every row, IS THE sha256 OF THE DUMP (.gsa) THAT YtflaemmcipbeiaaProg.lean LOADS. Nothing in Lean hashes anything: it is a label: what it is worth is what the hold of that sum in a sandbox is worth. -/
noncomputable def Try.pinned : Pinned := { name := "ytflaemmcipbeiaa", sum := "0cbe9b835a1b332e45e7411a84f5ee7fd50f339f56f5f5c14751b81df02111d0", checked := Try.checked }
namespace Rows
def none {H : Type} : Left H := { results := [], args := [] }

/-- 'laws.FnScale': WHATEVER THE INPUT: true; the input reads as it did. -/
def fnScaleSpec : ChangeSpec := { name := "fnScale", fn := fun _ => fun
  | [d] => { results := [.lit (.bool true)], args := [d] }
  | _ => none }
def fnScaleRow : OpenClaim := { program := "ytflaemmcipbeiaa", sum := "0cbe9b835a1b332e45e7411a84f5ee7fd50f339f56f5f5c14751b81df02111d0", func := "loop.example/compressionlab/laws.FnScale", spec := "fnScale", apart := false }
def FnScaleSaid : Prop := fnScaleRow.holds Try.pinned (OpenSpec.ofChange fnScaleSpec)

/-- ITS FALSE NEIGHBOUR: 'it returns false'. Refute it at one input. -/
def fnScaleWrong : ChangeSpec := { name := "fnScale", fn := fun _ => fun
  | [d] => { results := [.lit (.bool false)], args := [d] }
  | _ => none }
def FnScaleWrongFalsely : Prop := fnScaleRow.holds Try.pinned (OpenSpec.ofChange fnScaleWrong)

/-- 'laws.FnScaleNear': WHATEVER THE INPUT: true; the input reads as it did. -/
def fnScaleNearSpec : ChangeSpec := { name := "fnScaleNear", fn := fun _ => fun
  | [d] => { results := [.lit (.bool true)], args := [d] }
  | _ => none }
def fnScaleNearRow : OpenClaim := { program := "ytflaemmcipbeiaa", sum := "0cbe9b835a1b332e45e7411a84f5ee7fd50f339f56f5f5c14751b81df02111d0", func := "loop.example/compressionlab/laws.FnScaleNear", spec := "fnScaleNear", apart := false }
def FnScaleNearSaid : Prop := fnScaleNearRow.holds Try.pinned (OpenSpec.ofChange fnScaleNearSpec)

/-- ITS FALSE NEIGHBOUR: 'it returns false'. Refute it at one input. -/
def fnScaleNearWrong : ChangeSpec := { name := "fnScaleNear", fn := fun _ => fun
  | [d] => { results := [.lit (.bool false)], args := [d] }
  | _ => none }
def FnScaleNearWrongFalsely : Prop := fnScaleNearRow.holds Try.pinned (OpenSpec.ofChange fnScaleNearWrong)

/-- 'laws.FnExactCountsScale': WHATEVER THE INPUT: true; the input reads as it did. -/
def fnExactCountsScaleSpec : ChangeSpec := { name := "fnExactCountsScale", fn := fun _ => fun
  | [d] => { results := [.lit (.bool true)], args := [d] }
  | _ => none }
def fnExactCountsScaleRow : OpenClaim := { program := "ytflaemmcipbeiaa", sum := "0cbe9b835a1b332e45e7411a84f5ee7fd50f339f56f5f5c14751b81df02111d0", func := "loop.example/compressionlab/laws.FnExactCountsScale", spec := "fnExactCountsScale", apart := false }
def FnExactCountsScaleSaid : Prop := fnExactCountsScaleRow.holds Try.pinned (OpenSpec.ofChange fnExactCountsScaleSpec)

/-- ITS FALSE NEIGHBOUR: 'it returns false'. Refute it at one input. -/
def fnExactCountsScaleWrong : ChangeSpec := { name := "fnExactCountsScale", fn := fun _ => fun
  | [d] => { results := [.lit (.bool false)], args := [d] }
  | _ => none }
def FnExactCountsScaleWrongFalsely : Prop := fnExactCountsScaleRow.holds Try.pinned (OpenSpec.ofChange fnExactCountsScaleWrong)

/-- 'laws.FnScaleDoubled': WHATEVER THE INPUT: true; the input reads as it did. -/
def fnScaleDoubledSpec : ChangeSpec := { name := "fnScaleDoubled", fn := fun _ => fun
  | [d] => { results := [.lit (.bool true)], args := [d] }
  | _ => none }
def fnScaleDoubledRow : OpenClaim := { program := "ytflaemmcipbeiaa", sum := "0cbe9b835a1b332e45e7411a84f5ee7fd50f339f56f5f5c14751b81df02111d0", func := "loop.example/compressionlab/laws.FnScaleDoubled", spec := "fnScaleDoubled", apart := false }
def FnScaleDoubledSaid : Prop := fnScaleDoubledRow.holds Try.pinned (OpenSpec.ofChange fnScaleDoubledSpec)

/-- ITS FALSE NEIGHBOUR: 'it returns false'. Refute it at one input. -/
def fnScaleDoubledWrong : ChangeSpec := { name := "fnScaleDoubled", fn := fun _ => fun
  | [d] => { results := [.lit (.bool false)], args := [d] }
  | _ => none }
def FnScaleDoubledWrongFalsely : Prop := fnScaleDoubledRow.holds Try.pinned (OpenSpec.ofChange fnScaleDoubledWrong)

/-- 'laws.FnScaleSame': WHATEVER THE INPUT: true; the input reads as it did. -/
def fnScaleSameSpec : ChangeSpec := { name := "fnScaleSame", fn := fun _ => fun
  | [d] => { results := [.lit (.bool true)], args := [d] }
  | _ => none }
def fnScaleSameRow : OpenClaim := { program := "ytflaemmcipbeiaa", sum := "0cbe9b835a1b332e45e7411a84f5ee7fd50f339f56f5f5c14751b81df02111d0", func := "loop.example/compressionlab/laws.FnScaleSame", spec := "fnScaleSame", apart := false }
def FnScaleSameSaid : Prop := fnScaleSameRow.holds Try.pinned (OpenSpec.ofChange fnScaleSameSpec)

/-- ITS FALSE NEIGHBOUR: 'it returns false'. Refute it at one input. -/
def fnScaleSameWrong : ChangeSpec := { name := "fnScaleSame", fn := fun _ => fun
  | [d] => { results := [.lit (.bool false)], args := [d] }
  | _ => none }
def FnScaleSameWrongFalsely : Prop := fnScaleSameRow.holds Try.pinned (OpenSpec.ofChange fnScaleSameWrong)

/- THE SECOND FORM. 'bulk': how many values and letters a reading holds, each counted each time it is reached (what is shared counts as often as it is met; a slice's spare places count too). A statement '..UptoSaid' is the law's where the arguments, and the package variables that the reading takes, are together of bulk at most 1048576: NARROWER than '..Said'. Prove '..Said' where nothing that the law and all that it calls make is longer than what came in: it says more and counts as full. Else prove '..UptoSaid'. A law counts once. -/
mutual
def uptoBulk {H : Type} : DataW H → Nat
  | .lit (.string bytes) => bytes.length + 1
  | .lit _ => 1
  | .nil => 1
  | .ptr d => uptoBulk d + 1
  | .slice elems spare => uptoBulkAll elems + uptoBulkAll spare + 1
  | .agg parts => uptoBulkAll parts + 1
  | .iface _ d => uptoBulk d + 1
  | .map entries => uptoBulkEntries entries + 1
  | .held _ => 1
def uptoBulkAll {H : Type} : List (DataW H) → Nat
  | [] => 0
  | d :: r => uptoBulk d + uptoBulkAll r
def uptoBulkEntries {H : Type} : List (Lit × DataW H) → Nat
  | [] => 0
  | x :: r => uptoBulkEntry x + uptoBulkEntries r
def uptoBulkEntry {H : Type} : Lit × DataW H → Nat
  | (.string bytes, d) => bytes.length + uptoBulk d + 1
  | (_, d) => uptoBulk d + 1
 end
def uptoSmall : (H : Type) → List (DataW H) → Bool := fun _ ds => decide (uptoBulkAll ds ≤ 1048576)
def OpenSpec.upto (s : _root_.Go.ChangeSpec) : _root_.Go.OpenSpec := { _root_.Go.OpenSpec.ofChange s with cond := some uptoSmall }

/-- 'laws.FnScale', WHERE WHAT IT READS IS OF BULK AT MOST 1048576: true; the input reads as it did. -/
def fnScaleUptoRow : OpenClaim := { program := "ytflaemmcipbeiaa", sum := "0cbe9b835a1b332e45e7411a84f5ee7fd50f339f56f5f5c14751b81df02111d0", func := "loop.example/compressionlab/laws.FnScale", spec := "fnScale", apart := false, narrowed := true }
def FnScaleUptoSaid : Prop := fnScaleUptoRow.holds Try.pinned (OpenSpec.upto fnScaleSpec)

/-- 'laws.FnScaleNear', WHERE WHAT IT READS IS OF BULK AT MOST 1048576: true; the input reads as it did. -/
def fnScaleNearUptoRow : OpenClaim := { program := "ytflaemmcipbeiaa", sum := "0cbe9b835a1b332e45e7411a84f5ee7fd50f339f56f5f5c14751b81df02111d0", func := "loop.example/compressionlab/laws.FnScaleNear", spec := "fnScaleNear", apart := false, narrowed := true }
def FnScaleNearUptoSaid : Prop := fnScaleNearUptoRow.holds Try.pinned (OpenSpec.upto fnScaleNearSpec)

/-- 'laws.FnExactCountsScale', WHERE WHAT IT READS IS OF BULK AT MOST 1048576: true; the input reads as it did. -/
def fnExactCountsScaleUptoRow : OpenClaim := { program := "ytflaemmcipbeiaa", sum := "0cbe9b835a1b332e45e7411a84f5ee7fd50f339f56f5f5c14751b81df02111d0", func := "loop.example/compressionlab/laws.FnExactCountsScale", spec := "fnExactCountsScale", apart := false, narrowed := true }
def FnExactCountsScaleUptoSaid : Prop := fnExactCountsScaleUptoRow.holds Try.pinned (OpenSpec.upto fnExactCountsScaleSpec)

/-- 'laws.FnScaleDoubled', WHERE WHAT IT READS IS OF BULK AT MOST 1048576: true; the input reads as it did. -/
def fnScaleDoubledUptoRow : OpenClaim := { program := "ytflaemmcipbeiaa", sum := "0cbe9b835a1b332e45e7411a84f5ee7fd50f339f56f5f5c14751b81df02111d0", func := "loop.example/compressionlab/laws.FnScaleDoubled", spec := "fnScaleDoubled", apart := false, narrowed := true }
def FnScaleDoubledUptoSaid : Prop := fnScaleDoubledUptoRow.holds Try.pinned (OpenSpec.upto fnScaleDoubledSpec)

/-- 'laws.FnScaleSame', WHERE WHAT IT READS IS OF BULK AT MOST 1048576: true; the input reads as it did. -/
def fnScaleSameUptoRow : OpenClaim := { program := "ytflaemmcipbeiaa", sum := "0cbe9b835a1b332e45e7411a84f5ee7fd50f339f56f5f5c14751b81df02111d0", func := "loop.example/compressionlab/laws.FnScaleSame", spec := "fnScaleSame", apart := false, narrowed := true }
def FnScaleSameUptoSaid : Prop := fnScaleSameUptoRow.holds Try.pinned (OpenSpec.upto fnScaleSameSpec)

end Rows
end Go.Proofs.Ytflaemmcipbeiaa
