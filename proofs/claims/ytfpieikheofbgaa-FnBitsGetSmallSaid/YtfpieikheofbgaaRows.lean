/-
  No cell of these rows narrows 'for every input' (looked for: loops, veiled, ifaces, maps, wideKeys, modest, calm, conditions, laid).
  DERIVED. THE GIVEN ROWS OF THIS SEAT. 12 by the template 'for every input the law returns true; each argument reads behind the call as it read before'; 0 by the template 'total and deterministic' (their statements: YtfpieikheofbgaaTotals.lean).
  GIVEN WITH THE SEED: the statements are not yours to turn. If you find one false, say at which input.
  Laid BY PROGRAM, IN A SANDBOX (cutbox-rows.mjs): the forced cells as the released guide's own fill.sh prints them over the translation 506cbb0223b2fcf3… (all of the seat's roots in one cut). By AI agents, Wed Nov 11 2026. No macro, syntax, notation, axiom, sorry.
-/
import Derived.Test.YtfpieikheofbgaaChecked
import GoSem.Claim
import GoSem.ClaimJoined
import GoSem.ClaimMapViews
import Derived.JoinedTies
import Derived.KernelRfl
namespace Go.Proofs.Ytfpieikheofbgaa
/- THE CELL 'sum', in the pinned program and in every row, IS THE sha256 OF THE DUMP (.gsa) THAT YtfpieikheofbgaaProg.lean LOADS. Nothing in Lean hashes anything: it is a label: what it is worth is what the hold of that sum in a sandbox is worth. -/
noncomputable def Try.pinned : Pinned := { name := "ytfpieikheofbgaa", sum := "506cbb0223b2fcf344b9468661d07d894535f1247789111f7b155a618ea25a01", checked := Try.checked }
namespace Rows
def none {H : Type} : Left H := { results := [], args := [] }

/-- 'laws.FnExactBitsGet': WHATEVER THE INPUT: true; the input reads as it did. -/
def fnExactBitsGetSpec : ChangeSpec := { name := "fnExactBitsGet", fn := fun _ => fun
  | [d1, d2, d3] => { results := [.lit (.bool true)], args := [d1, d2, d3] }
  | _ => none }
def fnExactBitsGetRow : OpenClaim := { program := "ytfpieikheofbgaa", sum := "506cbb0223b2fcf344b9468661d07d894535f1247789111f7b155a618ea25a01", func := "loop.example/compressionlab/laws.FnExactBitsGet", spec := "fnExactBitsGet", apart := false }
def FnExactBitsGetSaid : Prop := fnExactBitsGetRow.holds Try.pinned (OpenSpec.ofChange fnExactBitsGetSpec)

/-- ITS FALSE NEIGHBOUR: 'it returns false'. Refute it at one input. -/
def fnExactBitsGetWrong : ChangeSpec := { name := "fnExactBitsGet", fn := fun _ => fun
  | [d1, d2, d3] => { results := [.lit (.bool false)], args := [d1, d2, d3] }
  | _ => none }
def FnExactBitsGetWrongFalsely : Prop := fnExactBitsGetRow.holds Try.pinned (OpenSpec.ofChange fnExactBitsGetWrong)

/-- 'laws.FnExactBytesBits': WHATEVER THE INPUT: true; the input reads as it did. -/
def fnExactBytesBitsSpec : ChangeSpec := { name := "fnExactBytesBits", fn := fun _ => fun
  | [d] => { results := [.lit (.bool true)], args := [d] }
  | _ => none }
def fnExactBytesBitsRow : OpenClaim := { program := "ytfpieikheofbgaa", sum := "506cbb0223b2fcf344b9468661d07d894535f1247789111f7b155a618ea25a01", func := "loop.example/compressionlab/laws.FnExactBytesBits", spec := "fnExactBytesBits", apart := false }
def FnExactBytesBitsSaid : Prop := fnExactBytesBitsRow.holds Try.pinned (OpenSpec.ofChange fnExactBytesBitsSpec)

/-- ITS FALSE NEIGHBOUR: 'it returns false'. Refute it at one input. -/
def fnExactBytesBitsWrong : ChangeSpec := { name := "fnExactBytesBits", fn := fun _ => fun
  | [d] => { results := [.lit (.bool false)], args := [d] }
  | _ => none }
def FnExactBytesBitsWrongFalsely : Prop := fnExactBytesBitsRow.holds Try.pinned (OpenSpec.ofChange fnExactBytesBitsWrong)

/-- 'laws.FnExactBitsBytes': WHATEVER THE INPUT: true; the input reads as it did. -/
def fnExactBitsBytesSpec : ChangeSpec := { name := "fnExactBitsBytes", fn := fun _ => fun
  | [d] => { results := [.lit (.bool true)], args := [d] }
  | _ => none }
def fnExactBitsBytesRow : OpenClaim := { program := "ytfpieikheofbgaa", sum := "506cbb0223b2fcf344b9468661d07d894535f1247789111f7b155a618ea25a01", func := "loop.example/compressionlab/laws.FnExactBitsBytes", spec := "fnExactBitsBytes", apart := false }
def FnExactBitsBytesSaid : Prop := fnExactBitsBytesRow.holds Try.pinned (OpenSpec.ofChange fnExactBitsBytesSpec)

/-- ITS FALSE NEIGHBOUR: 'it returns false'. Refute it at one input. -/
def fnExactBitsBytesWrong : ChangeSpec := { name := "fnExactBitsBytes", fn := fun _ => fun
  | [d] => { results := [.lit (.bool false)], args := [d] }
  | _ => none }
def FnExactBitsBytesWrongFalsely : Prop := fnExactBitsBytesRow.holds Try.pinned (OpenSpec.ofChange fnExactBitsBytesWrong)

/-- 'laws.FnExactBitsPut': WHATEVER THE INPUT: true; the input reads as it did. -/
def fnExactBitsPutSpec : ChangeSpec := { name := "fnExactBitsPut", fn := fun _ => fun
  | [d1, d2, d3] => { results := [.lit (.bool true)], args := [d1, d2, d3] }
  | _ => none }
def fnExactBitsPutRow : OpenClaim := { program := "ytfpieikheofbgaa", sum := "506cbb0223b2fcf344b9468661d07d894535f1247789111f7b155a618ea25a01", func := "loop.example/compressionlab/laws.FnExactBitsPut", spec := "fnExactBitsPut", apart := false }
def FnExactBitsPutSaid : Prop := fnExactBitsPutRow.holds Try.pinned (OpenSpec.ofChange fnExactBitsPutSpec)

/-- ITS FALSE NEIGHBOUR: 'it returns false'. Refute it at one input. -/
def fnExactBitsPutWrong : ChangeSpec := { name := "fnExactBitsPut", fn := fun _ => fun
  | [d1, d2, d3] => { results := [.lit (.bool false)], args := [d1, d2, d3] }
  | _ => none }
def FnExactBitsPutWrongFalsely : Prop := fnExactBitsPutRow.holds Try.pinned (OpenSpec.ofChange fnExactBitsPutWrong)

/-- 'laws.FnBitsGetParts': WHATEVER THE INPUT: true; the input reads as it did. -/
def fnBitsGetPartsSpec : ChangeSpec := { name := "fnBitsGetParts", fn := fun _ => fun
  | [d1, d2] => { results := [.lit (.bool true)], args := [d1, d2] }
  | _ => none }
def fnBitsGetPartsRow : OpenClaim := { program := "ytfpieikheofbgaa", sum := "506cbb0223b2fcf344b9468661d07d894535f1247789111f7b155a618ea25a01", func := "loop.example/compressionlab/laws.FnBitsGetParts", spec := "fnBitsGetParts", apart := false }
def FnBitsGetPartsSaid : Prop := fnBitsGetPartsRow.holds Try.pinned (OpenSpec.ofChange fnBitsGetPartsSpec)

/-- ITS FALSE NEIGHBOUR: 'it returns false'. Refute it at one input. -/
def fnBitsGetPartsWrong : ChangeSpec := { name := "fnBitsGetParts", fn := fun _ => fun
  | [d1, d2] => { results := [.lit (.bool false)], args := [d1, d2] }
  | _ => none }
def FnBitsGetPartsWrongFalsely : Prop := fnBitsGetPartsRow.holds Try.pinned (OpenSpec.ofChange fnBitsGetPartsWrong)

/-- 'laws.FnBitsGetSmall': WHATEVER THE INPUT: true; the input reads as it did. -/
def fnBitsGetSmallSpec : ChangeSpec := { name := "fnBitsGetSmall", fn := fun _ => fun
  | [d] => { results := [.lit (.bool true)], args := [d] }
  | _ => none }
def fnBitsGetSmallRow : OpenClaim := { program := "ytfpieikheofbgaa", sum := "506cbb0223b2fcf344b9468661d07d894535f1247789111f7b155a618ea25a01", func := "loop.example/compressionlab/laws.FnBitsGetSmall", spec := "fnBitsGetSmall", apart := false }
def FnBitsGetSmallSaid : Prop := fnBitsGetSmallRow.holds Try.pinned (OpenSpec.ofChange fnBitsGetSmallSpec)

/-- ITS FALSE NEIGHBOUR: 'it returns false'. Refute it at one input. -/
def fnBitsGetSmallWrong : ChangeSpec := { name := "fnBitsGetSmall", fn := fun _ => fun
  | [d] => { results := [.lit (.bool false)], args := [d] }
  | _ => none }
def FnBitsGetSmallWrongFalsely : Prop := fnBitsGetSmallRow.holds Try.pinned (OpenSpec.ofChange fnBitsGetSmallWrong)

/-- 'laws.FnBytesBitsJoin': WHATEVER THE INPUT: true; the input reads as it did. -/
def fnBytesBitsJoinSpec : ChangeSpec := { name := "fnBytesBitsJoin", fn := fun _ => fun
  | [d1, d2] => { results := [.lit (.bool true)], args := [d1, d2] }
  | _ => none }
def fnBytesBitsJoinRow : OpenClaim := { program := "ytfpieikheofbgaa", sum := "506cbb0223b2fcf344b9468661d07d894535f1247789111f7b155a618ea25a01", func := "loop.example/compressionlab/laws.FnBytesBitsJoin", spec := "fnBytesBitsJoin", apart := false }
def FnBytesBitsJoinSaid : Prop := fnBytesBitsJoinRow.holds Try.pinned (OpenSpec.ofChange fnBytesBitsJoinSpec)

/-- ITS FALSE NEIGHBOUR: 'it returns false'. Refute it at one input. -/
def fnBytesBitsJoinWrong : ChangeSpec := { name := "fnBytesBitsJoin", fn := fun _ => fun
  | [d1, d2] => { results := [.lit (.bool false)], args := [d1, d2] }
  | _ => none }
def FnBytesBitsJoinWrongFalsely : Prop := fnBytesBitsJoinRow.holds Try.pinned (OpenSpec.ofChange fnBytesBitsJoinWrong)

/-- 'laws.FnBitsGet': WHATEVER THE INPUT: true; the input reads as it did. -/
def fnBitsGetSpec : ChangeSpec := { name := "fnBitsGet", fn := fun _ => fun
  | [d] => { results := [.lit (.bool true)], args := [d] }
  | _ => none }
def fnBitsGetRow : OpenClaim := { program := "ytfpieikheofbgaa", sum := "506cbb0223b2fcf344b9468661d07d894535f1247789111f7b155a618ea25a01", func := "loop.example/compressionlab/laws.FnBitsGet", spec := "fnBitsGet", apart := false }
def FnBitsGetSaid : Prop := fnBitsGetRow.holds Try.pinned (OpenSpec.ofChange fnBitsGetSpec)

/-- ITS FALSE NEIGHBOUR: 'it returns false'. Refute it at one input. -/
def fnBitsGetWrong : ChangeSpec := { name := "fnBitsGet", fn := fun _ => fun
  | [d] => { results := [.lit (.bool false)], args := [d] }
  | _ => none }
def FnBitsGetWrongFalsely : Prop := fnBitsGetRow.holds Try.pinned (OpenSpec.ofChange fnBitsGetWrong)

/-- 'laws.FnBitsNone': WHATEVER THE INPUT: true; the input reads as it did. -/
def fnBitsNoneSpec : ChangeSpec := { name := "fnBitsNone", fn := fun _ => fun
  | [d] => { results := [.lit (.bool true)], args := [d] }
  | _ => none }
def fnBitsNoneRow : OpenClaim := { program := "ytfpieikheofbgaa", sum := "506cbb0223b2fcf344b9468661d07d894535f1247789111f7b155a618ea25a01", func := "loop.example/compressionlab/laws.FnBitsNone", spec := "fnBitsNone", apart := false }
def FnBitsNoneSaid : Prop := fnBitsNoneRow.holds Try.pinned (OpenSpec.ofChange fnBitsNoneSpec)

/-- ITS FALSE NEIGHBOUR: 'it returns false'. Refute it at one input. -/
def fnBitsNoneWrong : ChangeSpec := { name := "fnBitsNone", fn := fun _ => fun
  | [d] => { results := [.lit (.bool false)], args := [d] }
  | _ => none }
def FnBitsNoneWrongFalsely : Prop := fnBitsNoneRow.holds Try.pinned (OpenSpec.ofChange fnBitsNoneWrong)

/-- 'laws.FnBytesBits': WHATEVER THE INPUT: true; the input reads as it did. -/
def fnBytesBitsSpec : ChangeSpec := { name := "fnBytesBits", fn := fun _ => fun
  | [d] => { results := [.lit (.bool true)], args := [d] }
  | _ => none }
def fnBytesBitsRow : OpenClaim := { program := "ytfpieikheofbgaa", sum := "506cbb0223b2fcf344b9468661d07d894535f1247789111f7b155a618ea25a01", func := "loop.example/compressionlab/laws.FnBytesBits", spec := "fnBytesBits", apart := false }
def FnBytesBitsSaid : Prop := fnBytesBitsRow.holds Try.pinned (OpenSpec.ofChange fnBytesBitsSpec)

/-- ITS FALSE NEIGHBOUR: 'it returns false'. Refute it at one input. -/
def fnBytesBitsWrong : ChangeSpec := { name := "fnBytesBits", fn := fun _ => fun
  | [d] => { results := [.lit (.bool false)], args := [d] }
  | _ => none }
def FnBytesBitsWrongFalsely : Prop := fnBytesBitsRow.holds Try.pinned (OpenSpec.ofChange fnBytesBitsWrong)

/-- 'laws.FnBitsPut': WHATEVER THE INPUT: true; the input reads as it did. -/
def fnBitsPutSpec : ChangeSpec := { name := "fnBitsPut", fn := fun _ => fun
  | [d] => { results := [.lit (.bool true)], args := [d] }
  | _ => none }
def fnBitsPutRow : OpenClaim := { program := "ytfpieikheofbgaa", sum := "506cbb0223b2fcf344b9468661d07d894535f1247789111f7b155a618ea25a01", func := "loop.example/compressionlab/laws.FnBitsPut", spec := "fnBitsPut", apart := false }
def FnBitsPutSaid : Prop := fnBitsPutRow.holds Try.pinned (OpenSpec.ofChange fnBitsPutSpec)

/-- ITS FALSE NEIGHBOUR: 'it returns false'. Refute it at one input. -/
def fnBitsPutWrong : ChangeSpec := { name := "fnBitsPut", fn := fun _ => fun
  | [d] => { results := [.lit (.bool false)], args := [d] }
  | _ => none }
def FnBitsPutWrongFalsely : Prop := fnBitsPutRow.holds Try.pinned (OpenSpec.ofChange fnBitsPutWrong)

/-- 'laws.FnBitsBytes': WHATEVER THE INPUT: true; the input reads as it did. -/
def fnBitsBytesSpec : ChangeSpec := { name := "fnBitsBytes", fn := fun _ => fun
  | [d] => { results := [.lit (.bool true)], args := [d] }
  | _ => none }
def fnBitsBytesRow : OpenClaim := { program := "ytfpieikheofbgaa", sum := "506cbb0223b2fcf344b9468661d07d894535f1247789111f7b155a618ea25a01", func := "loop.example/compressionlab/laws.FnBitsBytes", spec := "fnBitsBytes", apart := false }
def FnBitsBytesSaid : Prop := fnBitsBytesRow.holds Try.pinned (OpenSpec.ofChange fnBitsBytesSpec)

/-- ITS FALSE NEIGHBOUR: 'it returns false'. Refute it at one input. -/
def fnBitsBytesWrong : ChangeSpec := { name := "fnBitsBytes", fn := fun _ => fun
  | [d] => { results := [.lit (.bool false)], args := [d] }
  | _ => none }
def FnBitsBytesWrongFalsely : Prop := fnBitsBytesRow.holds Try.pinned (OpenSpec.ofChange fnBitsBytesWrong)

/- THE SECOND FORM. 'bulk': how many values and letters a reading holds, each counted each time it is reached (what is shared counts as often as it is met; a slice's spare places count too). A statement '..UptoSaid' is the law's where the arguments, and the package variables that the reading takes, are together of bulk at most 1048576: NARROWER than '..Said'. Prove '..Said' where nothing that the law and all that it calls make is longer than what came in: it says more and counts as full. Else prove '..UptoSaid'. A law counts once. -/
mutual
def uptoBulk {H : Type} : DataW H → Nat
  | .lit (.string bytes) => bytes.length + 1
  | .lit _ => 1
  | .nil => 1
  | .ptr d => uptoBulk d + 1
  | .slice elems spare => uptoBulkAll elems + uptoBulkAll spare + 1
  | .agg parts => uptoBulkAll parts + 1
  | .iface _ d => uptoBulk d + 1
  | .map entries => uptoBulkEntries entries + 1
  | .held _ => 1
def uptoBulkAll {H : Type} : List (DataW H) → Nat
  | [] => 0
  | d :: r => uptoBulk d + uptoBulkAll r
def uptoBulkEntries {H : Type} : List (Lit × DataW H) → Nat
  | [] => 0
  | x :: r => uptoBulkEntry x + uptoBulkEntries r
def uptoBulkEntry {H : Type} : Lit × DataW H → Nat
  | (.string bytes, d) => bytes.length + uptoBulk d + 1
  | (_, d) => uptoBulk d + 1
 end
def uptoSmall : (H : Type) → List (DataW H) → Bool := fun _ ds => decide (uptoBulkAll ds ≤ 1048576)
def OpenSpec.upto (s : _root_.Go.ChangeSpec) : _root_.Go.OpenSpec := { _root_.Go.OpenSpec.ofChange s with cond := some uptoSmall }

/-- 'laws.FnExactBitsGet', WHERE WHAT IT READS IS OF BULK AT MOST 1048576: true; the input reads as it did. -/
def fnExactBitsGetUptoRow : OpenClaim := { program := "ytfpieikheofbgaa", sum := "506cbb0223b2fcf344b9468661d07d894535f1247789111f7b155a618ea25a01", func := "loop.example/compressionlab/laws.FnExactBitsGet", spec := "fnExactBitsGet", apart := false, narrowed := true }
def FnExactBitsGetUptoSaid : Prop := fnExactBitsGetUptoRow.holds Try.pinned (OpenSpec.upto fnExactBitsGetSpec)

/-- 'laws.FnExactBytesBits', WHERE WHAT IT READS IS OF BULK AT MOST 1048576: true; the input reads as it did. -/
def fnExactBytesBitsUptoRow : OpenClaim := { program := "ytfpieikheofbgaa", sum := "506cbb0223b2fcf344b9468661d07d894535f1247789111f7b155a618ea25a01", func := "loop.example/compressionlab/laws.FnExactBytesBits", spec := "fnExactBytesBits", apart := false, narrowed := true }
def FnExactBytesBitsUptoSaid : Prop := fnExactBytesBitsUptoRow.holds Try.pinned (OpenSpec.upto fnExactBytesBitsSpec)

/-- 'laws.FnExactBitsBytes', WHERE WHAT IT READS IS OF BULK AT MOST 1048576: true; the input reads as it did. -/
def fnExactBitsBytesUptoRow : OpenClaim := { program := "ytfpieikheofbgaa", sum := "506cbb0223b2fcf344b9468661d07d894535f1247789111f7b155a618ea25a01", func := "loop.example/compressionlab/laws.FnExactBitsBytes", spec := "fnExactBitsBytes", apart := false, narrowed := true }
def FnExactBitsBytesUptoSaid : Prop := fnExactBitsBytesUptoRow.holds Try.pinned (OpenSpec.upto fnExactBitsBytesSpec)

/-- 'laws.FnExactBitsPut', WHERE WHAT IT READS IS OF BULK AT MOST 1048576: true; the input reads as it did. -/
def fnExactBitsPutUptoRow : OpenClaim := { program := "ytfpieikheofbgaa", sum := "506cbb0223b2fcf344b9468661d07d894535f1247789111f7b155a618ea25a01", func := "loop.example/compressionlab/laws.FnExactBitsPut", spec := "fnExactBitsPut", apart := false, narrowed := true }
def FnExactBitsPutUptoSaid : Prop := fnExactBitsPutUptoRow.holds Try.pinned (OpenSpec.upto fnExactBitsPutSpec)

/-- 'laws.FnBitsGetParts', WHERE WHAT IT READS IS OF BULK AT MOST 1048576: true; the input reads as it did. -/
def fnBitsGetPartsUptoRow : OpenClaim := { program := "ytfpieikheofbgaa", sum := "506cbb0223b2fcf344b9468661d07d894535f1247789111f7b155a618ea25a01", func := "loop.example/compressionlab/laws.FnBitsGetParts", spec := "fnBitsGetParts", apart := false, narrowed := true }
def FnBitsGetPartsUptoSaid : Prop := fnBitsGetPartsUptoRow.holds Try.pinned (OpenSpec.upto fnBitsGetPartsSpec)

/-- 'laws.FnBitsGetSmall', WHERE WHAT IT READS IS OF BULK AT MOST 1048576: true; the input reads as it did. -/
def fnBitsGetSmallUptoRow : OpenClaim := { program := "ytfpieikheofbgaa", sum := "506cbb0223b2fcf344b9468661d07d894535f1247789111f7b155a618ea25a01", func := "loop.example/compressionlab/laws.FnBitsGetSmall", spec := "fnBitsGetSmall", apart := false, narrowed := true }
def FnBitsGetSmallUptoSaid : Prop := fnBitsGetSmallUptoRow.holds Try.pinned (OpenSpec.upto fnBitsGetSmallSpec)

/-- 'laws.FnBytesBitsJoin', WHERE WHAT IT READS IS OF BULK AT MOST 1048576: true; the input reads as it did. -/
def fnBytesBitsJoinUptoRow : OpenClaim := { program := "ytfpieikheofbgaa", sum := "506cbb0223b2fcf344b9468661d07d894535f1247789111f7b155a618ea25a01", func := "loop.example/compressionlab/laws.FnBytesBitsJoin", spec := "fnBytesBitsJoin", apart := false, narrowed := true }
def FnBytesBitsJoinUptoSaid : Prop := fnBytesBitsJoinUptoRow.holds Try.pinned (OpenSpec.upto fnBytesBitsJoinSpec)

/-- 'laws.FnBitsGet', WHERE WHAT IT READS IS OF BULK AT MOST 1048576: true; the input reads as it did. -/
def fnBitsGetUptoRow : OpenClaim := { program := "ytfpieikheofbgaa", sum := "506cbb0223b2fcf344b9468661d07d894535f1247789111f7b155a618ea25a01", func := "loop.example/compressionlab/laws.FnBitsGet", spec := "fnBitsGet", apart := false, narrowed := true }
def FnBitsGetUptoSaid : Prop := fnBitsGetUptoRow.holds Try.pinned (OpenSpec.upto fnBitsGetSpec)

/-- 'laws.FnBitsNone', WHERE WHAT IT READS IS OF BULK AT MOST 1048576: true; the input reads as it did. -/
def fnBitsNoneUptoRow : OpenClaim := { program := "ytfpieikheofbgaa", sum := "506cbb0223b2fcf344b9468661d07d894535f1247789111f7b155a618ea25a01", func := "loop.example/compressionlab/laws.FnBitsNone", spec := "fnBitsNone", apart := false, narrowed := true }
def FnBitsNoneUptoSaid : Prop := fnBitsNoneUptoRow.holds Try.pinned (OpenSpec.upto fnBitsNoneSpec)

/-- 'laws.FnBytesBits', WHERE WHAT IT READS IS OF BULK AT MOST 1048576: true; the input reads as it did. -/
def fnBytesBitsUptoRow : OpenClaim := { program := "ytfpieikheofbgaa", sum := "506cbb0223b2fcf344b9468661d07d894535f1247789111f7b155a618ea25a01", func := "loop.example/compressionlab/laws.FnBytesBits", spec := "fnBytesBits", apart := false, narrowed := true }
def FnBytesBitsUptoSaid : Prop := fnBytesBitsUptoRow.holds Try.pinned (OpenSpec.upto fnBytesBitsSpec)

/-- 'laws.FnBitsPut', WHERE WHAT IT READS IS OF BULK AT MOST 1048576: true; the input reads as it did. -/
def fnBitsPutUptoRow : OpenClaim := { program := "ytfpieikheofbgaa", sum := "506cbb0223b2fcf344b9468661d07d894535f1247789111f7b155a618ea25a01", func := "loop.example/compressionlab/laws.FnBitsPut", spec := "fnBitsPut", apart := false, narrowed := true }
def FnBitsPutUptoSaid : Prop := fnBitsPutUptoRow.holds Try.pinned (OpenSpec.upto fnBitsPutSpec)

/-- 'laws.FnBitsBytes', WHERE WHAT IT READS IS OF BULK AT MOST 1048576: true; the input reads as it did. -/
def fnBitsBytesUptoRow : OpenClaim := { program := "ytfpieikheofbgaa", sum := "506cbb0223b2fcf344b9468661d07d894535f1247789111f7b155a618ea25a01", func := "loop.example/compressionlab/laws.FnBitsBytes", spec := "fnBitsBytes", apart := false, narrowed := true }
def FnBitsBytesUptoSaid : Prop := fnBitsBytesUptoRow.holds Try.pinned (OpenSpec.upto fnBitsBytesSpec)

end Rows
end Go.Proofs.Ytfpieikheofbgaa
