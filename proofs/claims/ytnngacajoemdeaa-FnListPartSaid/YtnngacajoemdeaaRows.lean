/-
  No cell of these rows narrows 'for every input' (looked for: loops, veiled, ifaces, maps, wideKeys, modest, calm, conditions, laid).
  DERIVED. THE GIVEN ROWS OF THIS SEAT. 11 by the template 'for every input the law returns true; each argument reads behind the call as it read before'; 0 by the template 'total and deterministic' (their statements: YtnngacajoemdeaaTotals.lean).
  GIVEN WITH THE SEED: the statements are not yours to turn. If you find one false, say at which input.
  Laid BY PROGRAM, IN A SANDBOX (cutbox-rows.mjs): the forced cells as the released guide's own fill.sh prints them over the translation 619ecd6e996b1268… (all of the seat's roots in one cut). By AI agents, Wed Nov 11 2026. No macro, syntax, notation, axiom, sorry.
-/
import Derived.Test.YtnngacajoemdeaaChecked
import GoSem.Claim
import GoSem.ClaimJoined
import GoSem.ClaimMapViews
import Derived.JoinedTies
import Derived.KernelRfl
namespace Go.Proofs.Ytnngacajoemdeaa
/- THE CELL 'sum', in the pinned program and in every row, IS THE sha256 OF THE DUMP (.gsa) THAT YtnngacajoemdeaaProg.lean LOADS. Nothing in Lean hashes anything: it is a label: what it is worth is what the hold of that sum in a sandbox is worth. -/
noncomputable def Try.pinned : Pinned := { name := "ytnngacajoemdeaa", sum := "619ecd6e996b1268d2d9c58e91f1964c01cea8a46c81ea7af5561c4c45e96e0f", checked := Try.checked }
namespace Rows
def none {H : Type} : Left H := { results := [], args := [] }

/-- 'laws.FnExactConstants': WHATEVER THE INPUT: true; the input reads as it did. -/
def fnExactConstantsSpec : ChangeSpec := { name := "fnExactConstants", fn := fun _ => fun
  | [] => { results := [.lit (.bool true)], args := [] }
  | _ => none }
def fnExactConstantsRow : OpenClaim := { program := "ytnngacajoemdeaa", sum := "619ecd6e996b1268d2d9c58e91f1964c01cea8a46c81ea7af5561c4c45e96e0f", func := "loop.example/compressionlab/laws.FnExactConstants", spec := "fnExactConstants", apart := false }
def FnExactConstantsSaid : Prop := fnExactConstantsRow.holds Try.pinned (OpenSpec.ofChange fnExactConstantsSpec)

/-- ITS FALSE NEIGHBOUR: 'it returns false'. Refute it at one input. -/
def fnExactConstantsWrong : ChangeSpec := { name := "fnExactConstants", fn := fun _ => fun
  | [] => { results := [.lit (.bool false)], args := [] }
  | _ => none }
def FnExactConstantsWrongFalsely : Prop := fnExactConstantsRow.holds Try.pinned (OpenSpec.ofChange fnExactConstantsWrong)

/-- 'laws.FnExactCountsValid': WHATEVER THE INPUT: true; the input reads as it did. -/
def fnExactCountsValidSpec : ChangeSpec := { name := "fnExactCountsValid", fn := fun _ => fun
  | [d] => { results := [.lit (.bool true)], args := [d] }
  | _ => none }
def fnExactCountsValidRow : OpenClaim := { program := "ytnngacajoemdeaa", sum := "619ecd6e996b1268d2d9c58e91f1964c01cea8a46c81ea7af5561c4c45e96e0f", func := "loop.example/compressionlab/laws.FnExactCountsValid", spec := "fnExactCountsValid", apart := false }
def FnExactCountsValidSaid : Prop := fnExactCountsValidRow.holds Try.pinned (OpenSpec.ofChange fnExactCountsValidSpec)

/-- ITS FALSE NEIGHBOUR: 'it returns false'. Refute it at one input. -/
def fnExactCountsValidWrong : ChangeSpec := { name := "fnExactCountsValid", fn := fun _ => fun
  | [d] => { results := [.lit (.bool false)], args := [d] }
  | _ => none }
def FnExactCountsValidWrongFalsely : Prop := fnExactCountsValidRow.holds Try.pinned (OpenSpec.ofChange fnExactCountsValidWrong)

/-- 'laws.FnExactListValid': WHATEVER THE INPUT: true; the input reads as it did. -/
def fnExactListValidSpec : ChangeSpec := { name := "fnExactListValid", fn := fun _ => fun
  | [d] => { results := [.lit (.bool true)], args := [d] }
  | _ => none }
def fnExactListValidRow : OpenClaim := { program := "ytnngacajoemdeaa", sum := "619ecd6e996b1268d2d9c58e91f1964c01cea8a46c81ea7af5561c4c45e96e0f", func := "loop.example/compressionlab/laws.FnExactListValid", spec := "fnExactListValid", apart := false }
def FnExactListValidSaid : Prop := fnExactListValidRow.holds Try.pinned (OpenSpec.ofChange fnExactListValidSpec)

/-- ITS FALSE NEIGHBOUR: 'it returns false'. Refute it at one input. -/
def fnExactListValidWrong : ChangeSpec := { name := "fnExactListValid", fn := fun _ => fun
  | [d] => { results := [.lit (.bool false)], args := [d] }
  | _ => none }
def FnExactListValidWrongFalsely : Prop := fnExactListValidRow.holds Try.pinned (OpenSpec.ofChange fnExactListValidWrong)

/-- 'laws.FnCountsPart': WHATEVER THE INPUT: true; the input reads as it did. -/
def fnCountsPartSpec : ChangeSpec := { name := "fnCountsPart", fn := fun _ => fun
  | [d1, d2] => { results := [.lit (.bool true)], args := [d1, d2] }
  | _ => none }
def fnCountsPartRow : OpenClaim := { program := "ytnngacajoemdeaa", sum := "619ecd6e996b1268d2d9c58e91f1964c01cea8a46c81ea7af5561c4c45e96e0f", func := "loop.example/compressionlab/laws.FnCountsPart", spec := "fnCountsPart", apart := false }
def FnCountsPartSaid : Prop := fnCountsPartRow.holds Try.pinned (OpenSpec.ofChange fnCountsPartSpec)

/-- ITS FALSE NEIGHBOUR: 'it returns false'. Refute it at one input. -/
def fnCountsPartWrong : ChangeSpec := { name := "fnCountsPart", fn := fun _ => fun
  | [d1, d2] => { results := [.lit (.bool false)], args := [d1, d2] }
  | _ => none }
def FnCountsPartWrongFalsely : Prop := fnCountsPartRow.holds Try.pinned (OpenSpec.ofChange fnCountsPartWrong)

/-- 'laws.FnListPart': WHATEVER THE INPUT: true; the input reads as it did. -/
def fnListPartSpec : ChangeSpec := { name := "fnListPart", fn := fun _ => fun
  | [d1, d2] => { results := [.lit (.bool true)], args := [d1, d2] }
  | _ => none }
def fnListPartRow : OpenClaim := { program := "ytnngacajoemdeaa", sum := "619ecd6e996b1268d2d9c58e91f1964c01cea8a46c81ea7af5561c4c45e96e0f", func := "loop.example/compressionlab/laws.FnListPart", spec := "fnListPart", apart := false }
def FnListPartSaid : Prop := fnListPartRow.holds Try.pinned (OpenSpec.ofChange fnListPartSpec)

/-- ITS FALSE NEIGHBOUR: 'it returns false'. Refute it at one input. -/
def fnListPartWrong : ChangeSpec := { name := "fnListPart", fn := fun _ => fun
  | [d1, d2] => { results := [.lit (.bool false)], args := [d1, d2] }
  | _ => none }
def FnListPartWrongFalsely : Prop := fnListPartRow.holds Try.pinned (OpenSpec.ofChange fnListPartWrong)

/-- 'laws.FnExactCountsStarts': WHATEVER THE INPUT: true; the input reads as it did. -/
def fnExactCountsStartsSpec : ChangeSpec := { name := "fnExactCountsStarts", fn := fun _ => fun
  | [d] => { results := [.lit (.bool true)], args := [d] }
  | _ => none }
def fnExactCountsStartsRow : OpenClaim := { program := "ytnngacajoemdeaa", sum := "619ecd6e996b1268d2d9c58e91f1964c01cea8a46c81ea7af5561c4c45e96e0f", func := "loop.example/compressionlab/laws.FnExactCountsStarts", spec := "fnExactCountsStarts", apart := false }
def FnExactCountsStartsSaid : Prop := fnExactCountsStartsRow.holds Try.pinned (OpenSpec.ofChange fnExactCountsStartsSpec)

/-- ITS FALSE NEIGHBOUR: 'it returns false'. Refute it at one input. -/
def fnExactCountsStartsWrong : ChangeSpec := { name := "fnExactCountsStarts", fn := fun _ => fun
  | [d] => { results := [.lit (.bool false)], args := [d] }
  | _ => none }
def FnExactCountsStartsWrongFalsely : Prop := fnExactCountsStartsRow.holds Try.pinned (OpenSpec.ofChange fnExactCountsStartsWrong)

/-- 'laws.FnExactCountsOf': WHATEVER THE INPUT: true; the input reads as it did. -/
def fnExactCountsOfSpec : ChangeSpec := { name := "fnExactCountsOf", fn := fun _ => fun
  | [d] => { results := [.lit (.bool true)], args := [d] }
  | _ => none }
def fnExactCountsOfRow : OpenClaim := { program := "ytnngacajoemdeaa", sum := "619ecd6e996b1268d2d9c58e91f1964c01cea8a46c81ea7af5561c4c45e96e0f", func := "loop.example/compressionlab/laws.FnExactCountsOf", spec := "fnExactCountsOf", apart := false }
def FnExactCountsOfSaid : Prop := fnExactCountsOfRow.holds Try.pinned (OpenSpec.ofChange fnExactCountsOfSpec)

/-- ITS FALSE NEIGHBOUR: 'it returns false'. Refute it at one input. -/
def fnExactCountsOfWrong : ChangeSpec := { name := "fnExactCountsOf", fn := fun _ => fun
  | [d] => { results := [.lit (.bool false)], args := [d] }
  | _ => none }
def FnExactCountsOfWrongFalsely : Prop := fnExactCountsOfRow.holds Try.pinned (OpenSpec.ofChange fnExactCountsOfWrong)

/-- 'laws.FnStarts': WHATEVER THE INPUT: true; the input reads as it did. -/
def fnStartsSpec : ChangeSpec := { name := "fnStarts", fn := fun _ => fun
  | [d] => { results := [.lit (.bool true)], args := [d] }
  | _ => none }
def fnStartsRow : OpenClaim := { program := "ytnngacajoemdeaa", sum := "619ecd6e996b1268d2d9c58e91f1964c01cea8a46c81ea7af5561c4c45e96e0f", func := "loop.example/compressionlab/laws.FnStarts", spec := "fnStarts", apart := false }
def FnStartsSaid : Prop := fnStartsRow.holds Try.pinned (OpenSpec.ofChange fnStartsSpec)

/-- ITS FALSE NEIGHBOUR: 'it returns false'. Refute it at one input. -/
def fnStartsWrong : ChangeSpec := { name := "fnStarts", fn := fun _ => fun
  | [d] => { results := [.lit (.bool false)], args := [d] }
  | _ => none }
def FnStartsWrongFalsely : Prop := fnStartsRow.holds Try.pinned (OpenSpec.ofChange fnStartsWrong)

/-- 'laws.FnStartsEnd': WHATEVER THE INPUT: true; the input reads as it did. -/
def fnStartsEndSpec : ChangeSpec := { name := "fnStartsEnd", fn := fun _ => fun
  | [d] => { results := [.lit (.bool true)], args := [d] }
  | _ => none }
def fnStartsEndRow : OpenClaim := { program := "ytnngacajoemdeaa", sum := "619ecd6e996b1268d2d9c58e91f1964c01cea8a46c81ea7af5561c4c45e96e0f", func := "loop.example/compressionlab/laws.FnStartsEnd", spec := "fnStartsEnd", apart := false }
def FnStartsEndSaid : Prop := fnStartsEndRow.holds Try.pinned (OpenSpec.ofChange fnStartsEndSpec)

/-- ITS FALSE NEIGHBOUR: 'it returns false'. Refute it at one input. -/
def fnStartsEndWrong : ChangeSpec := { name := "fnStartsEnd", fn := fun _ => fun
  | [d] => { results := [.lit (.bool false)], args := [d] }
  | _ => none }
def FnStartsEndWrongFalsely : Prop := fnStartsEndRow.holds Try.pinned (OpenSpec.ofChange fnStartsEndWrong)

/-- 'laws.FnCountsJoin': WHATEVER THE INPUT: true; the input reads as it did. -/
def fnCountsJoinSpec : ChangeSpec := { name := "fnCountsJoin", fn := fun _ => fun
  | [d1, d2] => { results := [.lit (.bool true)], args := [d1, d2] }
  | _ => none }
def fnCountsJoinRow : OpenClaim := { program := "ytnngacajoemdeaa", sum := "619ecd6e996b1268d2d9c58e91f1964c01cea8a46c81ea7af5561c4c45e96e0f", func := "loop.example/compressionlab/laws.FnCountsJoin", spec := "fnCountsJoin", apart := false }
def FnCountsJoinSaid : Prop := fnCountsJoinRow.holds Try.pinned (OpenSpec.ofChange fnCountsJoinSpec)

/-- ITS FALSE NEIGHBOUR: 'it returns false'. Refute it at one input. -/
def fnCountsJoinWrong : ChangeSpec := { name := "fnCountsJoin", fn := fun _ => fun
  | [d1, d2] => { results := [.lit (.bool false)], args := [d1, d2] }
  | _ => none }
def FnCountsJoinWrongFalsely : Prop := fnCountsJoinRow.holds Try.pinned (OpenSpec.ofChange fnCountsJoinWrong)

/-- 'laws.FnCounts': WHATEVER THE INPUT: true; the input reads as it did. -/
def fnCountsSpec : ChangeSpec := { name := "fnCounts", fn := fun _ => fun
  | [d] => { results := [.lit (.bool true)], args := [d] }
  | _ => none }
def fnCountsRow : OpenClaim := { program := "ytnngacajoemdeaa", sum := "619ecd6e996b1268d2d9c58e91f1964c01cea8a46c81ea7af5561c4c45e96e0f", func := "loop.example/compressionlab/laws.FnCounts", spec := "fnCounts", apart := false }
def FnCountsSaid : Prop := fnCountsRow.holds Try.pinned (OpenSpec.ofChange fnCountsSpec)

/-- ITS FALSE NEIGHBOUR: 'it returns false'. Refute it at one input. -/
def fnCountsWrong : ChangeSpec := { name := "fnCounts", fn := fun _ => fun
  | [d] => { results := [.lit (.bool false)], args := [d] }
  | _ => none }
def FnCountsWrongFalsely : Prop := fnCountsRow.holds Try.pinned (OpenSpec.ofChange fnCountsWrong)

/- THE SECOND FORM. 'bulk': how many values and letters a reading holds, each counted each time it is reached (what is shared counts as often as it is met; a slice's spare places count too). A statement '..UptoSaid' is the law's where the arguments, and the package variables that the reading takes, are together of bulk at most 1048576: NARROWER than '..Said'. Prove '..Said' where nothing that the law and all that it calls make is longer than what came in: it says more and counts as full. Else prove '..UptoSaid'. A law counts once. -/
mutual
def uptoBulk {H : Type} : DataW H → Nat
  | .lit (.string bytes) => bytes.length + 1
  | .lit _ => 1
  | .nil => 1
  | .ptr d => uptoBulk d + 1
  | .slice elems spare => uptoBulkAll elems + uptoBulkAll spare + 1
  | .agg parts => uptoBulkAll parts + 1
  | .iface _ d => uptoBulk d + 1
  | .map entries => uptoBulkEntries entries + 1
  | .held _ => 1
def uptoBulkAll {H : Type} : List (DataW H) → Nat
  | [] => 0
  | d :: r => uptoBulk d + uptoBulkAll r
def uptoBulkEntries {H : Type} : List (Lit × DataW H) → Nat
  | [] => 0
  | x :: r => uptoBulkEntry x + uptoBulkEntries r
def uptoBulkEntry {H : Type} : Lit × DataW H → Nat
  | (.string bytes, d) => bytes.length + uptoBulk d + 1
  | (_, d) => uptoBulk d + 1
 end
def uptoSmall : (H : Type) → List (DataW H) → Bool := fun _ ds => decide (uptoBulkAll ds ≤ 1048576)
def OpenSpec.upto (s : _root_.Go.ChangeSpec) : _root_.Go.OpenSpec := { _root_.Go.OpenSpec.ofChange s with cond := some uptoSmall }

/-- 'laws.FnExactConstants', WHERE WHAT IT READS IS OF BULK AT MOST 1048576: true; the input reads as it did. -/
def fnExactConstantsUptoRow : OpenClaim := { program := "ytnngacajoemdeaa", sum := "619ecd6e996b1268d2d9c58e91f1964c01cea8a46c81ea7af5561c4c45e96e0f", func := "loop.example/compressionlab/laws.FnExactConstants", spec := "fnExactConstants", apart := false, narrowed := true }
def FnExactConstantsUptoSaid : Prop := fnExactConstantsUptoRow.holds Try.pinned (OpenSpec.upto fnExactConstantsSpec)

/-- 'laws.FnExactCountsValid', WHERE WHAT IT READS IS OF BULK AT MOST 1048576: true; the input reads as it did. -/
def fnExactCountsValidUptoRow : OpenClaim := { program := "ytnngacajoemdeaa", sum := "619ecd6e996b1268d2d9c58e91f1964c01cea8a46c81ea7af5561c4c45e96e0f", func := "loop.example/compressionlab/laws.FnExactCountsValid", spec := "fnExactCountsValid", apart := false, narrowed := true }
def FnExactCountsValidUptoSaid : Prop := fnExactCountsValidUptoRow.holds Try.pinned (OpenSpec.upto fnExactCountsValidSpec)

/-- 'laws.FnExactListValid', WHERE WHAT IT READS IS OF BULK AT MOST 1048576: true; the input reads as it did. -/
def fnExactListValidUptoRow : OpenClaim := { program := "ytnngacajoemdeaa", sum := "619ecd6e996b1268d2d9c58e91f1964c01cea8a46c81ea7af5561c4c45e96e0f", func := "loop.example/compressionlab/laws.FnExactListValid", spec := "fnExactListValid", apart := false, narrowed := true }
def FnExactListValidUptoSaid : Prop := fnExactListValidUptoRow.holds Try.pinned (OpenSpec.upto fnExactListValidSpec)

/-- 'laws.FnCountsPart', WHERE WHAT IT READS IS OF BULK AT MOST 1048576: true; the input reads as it did. -/
def fnCountsPartUptoRow : OpenClaim := { program := "ytnngacajoemdeaa", sum := "619ecd6e996b1268d2d9c58e91f1964c01cea8a46c81ea7af5561c4c45e96e0f", func := "loop.example/compressionlab/laws.FnCountsPart", spec := "fnCountsPart", apart := false, narrowed := true }
def FnCountsPartUptoSaid : Prop := fnCountsPartUptoRow.holds Try.pinned (OpenSpec.upto fnCountsPartSpec)

/-- 'laws.FnListPart', WHERE WHAT IT READS IS OF BULK AT MOST 1048576: true; the input reads as it did. -/
def fnListPartUptoRow : OpenClaim := { program := "ytnngacajoemdeaa", sum := "619ecd6e996b1268d2d9c58e91f1964c01cea8a46c81ea7af5561c4c45e96e0f", func := "loop.example/compressionlab/laws.FnListPart", spec := "fnListPart", apart := false, narrowed := true }
def FnListPartUptoSaid : Prop := fnListPartUptoRow.holds Try.pinned (OpenSpec.upto fnListPartSpec)

/-- 'laws.FnExactCountsStarts', WHERE WHAT IT READS IS OF BULK AT MOST 1048576: true; the input reads as it did. -/
def fnExactCountsStartsUptoRow : OpenClaim := { program := "ytnngacajoemdeaa", sum := "619ecd6e996b1268d2d9c58e91f1964c01cea8a46c81ea7af5561c4c45e96e0f", func := "loop.example/compressionlab/laws.FnExactCountsStarts", spec := "fnExactCountsStarts", apart := false, narrowed := true }
def FnExactCountsStartsUptoSaid : Prop := fnExactCountsStartsUptoRow.holds Try.pinned (OpenSpec.upto fnExactCountsStartsSpec)

/-- 'laws.FnExactCountsOf', WHERE WHAT IT READS IS OF BULK AT MOST 1048576: true; the input reads as it did. -/
def fnExactCountsOfUptoRow : OpenClaim := { program := "ytnngacajoemdeaa", sum := "619ecd6e996b1268d2d9c58e91f1964c01cea8a46c81ea7af5561c4c45e96e0f", func := "loop.example/compressionlab/laws.FnExactCountsOf", spec := "fnExactCountsOf", apart := false, narrowed := true }
def FnExactCountsOfUptoSaid : Prop := fnExactCountsOfUptoRow.holds Try.pinned (OpenSpec.upto fnExactCountsOfSpec)

/-- 'laws.FnStarts', WHERE WHAT IT READS IS OF BULK AT MOST 1048576: true; the input reads as it did. -/
def fnStartsUptoRow : OpenClaim := { program := "ytnngacajoemdeaa", sum := "619ecd6e996b1268d2d9c58e91f1964c01cea8a46c81ea7af5561c4c45e96e0f", func := "loop.example/compressionlab/laws.FnStarts", spec := "fnStarts", apart := false, narrowed := true }
def FnStartsUptoSaid : Prop := fnStartsUptoRow.holds Try.pinned (OpenSpec.upto fnStartsSpec)

/-- 'laws.FnStartsEnd', WHERE WHAT IT READS IS OF BULK AT MOST 1048576: true; the input reads as it did. -/
def fnStartsEndUptoRow : OpenClaim := { program := "ytnngacajoemdeaa", sum := "619ecd6e996b1268d2d9c58e91f1964c01cea8a46c81ea7af5561c4c45e96e0f", func := "loop.example/compressionlab/laws.FnStartsEnd", spec := "fnStartsEnd", apart := false, narrowed := true }
def FnStartsEndUptoSaid : Prop := fnStartsEndUptoRow.holds Try.pinned (OpenSpec.upto fnStartsEndSpec)

/-- 'laws.FnCountsJoin', WHERE WHAT IT READS IS OF BULK AT MOST 1048576: true; the input reads as it did. -/
def fnCountsJoinUptoRow : OpenClaim := { program := "ytnngacajoemdeaa", sum := "619ecd6e996b1268d2d9c58e91f1964c01cea8a46c81ea7af5561c4c45e96e0f", func := "loop.example/compressionlab/laws.FnCountsJoin", spec := "fnCountsJoin", apart := false, narrowed := true }
def FnCountsJoinUptoSaid : Prop := fnCountsJoinUptoRow.holds Try.pinned (OpenSpec.upto fnCountsJoinSpec)

/-- 'laws.FnCounts', WHERE WHAT IT READS IS OF BULK AT MOST 1048576: true; the input reads as it did. -/
def fnCountsUptoRow : OpenClaim := { program := "ytnngacajoemdeaa", sum := "619ecd6e996b1268d2d9c58e91f1964c01cea8a46c81ea7af5561c4c45e96e0f", func := "loop.example/compressionlab/laws.FnCounts", spec := "fnCounts", apart := false, narrowed := true }
def FnCountsUptoSaid : Prop := fnCountsUptoRow.holds Try.pinned (OpenSpec.upto fnCountsSpec)

end Rows
end Go.Proofs.Ytnngacajoemdeaa
