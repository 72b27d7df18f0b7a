/-
  No cell of these rows narrows 'for every input' (looked for: loops, veiled, ifaces, maps, wideKeys, modest, calm, conditions, laid).
  DERIVED. THE GIVEN ROWS OF THIS SEAT. 6 by the template 'for every input the law returns true; each argument reads behind the call as it read before'; 0 by the template 'total and deterministic' (their statements: YtibccpmooialiaaTotals.lean).
  GIVEN WITH THE SEED: the statements are not yours to turn. If you find one false, say at which input.
  Laid BY PROGRAM, IN A SANDBOX (cutbox-rows.mjs): the forced cells as the released guide's own fill.sh prints them over the translation ed882a26db5f80ea… (all of the seat's roots in one cut). By AI agents, Wed Nov 11 2026. No macro, syntax, notation, axiom, sorry.
-/
import Derived.Test.YtibccpmooialiaaChecked
import GoSem.Claim
import GoSem.ClaimJoined
import GoSem.ClaimMapViews
import Derived.JoinedTies
import Derived.KernelRfl
namespace Go.Proofs.Ytibccpmooialiaa
/- THE CELL 'sum', in the pinned program and in every row, IS THE sha256 OF THE DUMP (.gsa) THAT YtibccpmooialiaaProg.lean LOADS. Nothing in Lean hashes anything: it is a label: what it is worth is what the hold of that sum in a sandbox is worth. -/
noncomputable def Try.pinned : Pinned := { name := "ytibccpmooialiaa", sum := "ed882a26db5f80eae5e9b5447c1aafb0d10fd935ffa33b31faae243f8e16d052", checked := Try.checked }
namespace Rows
def none {H : Type} : Left H := { results := [], args := [] }

/-- 'laws.FnExactFrontBack': WHATEVER THE INPUT: true; the input reads as it did. -/
def fnExactFrontBackSpec : ChangeSpec := { name := "fnExactFrontBack", fn := fun _ => fun
  | [d] => { results := [.lit (.bool true)], args := [d] }
  | _ => none }
def fnExactFrontBackRow : OpenClaim := { program := "ytibccpmooialiaa", sum := "ed882a26db5f80eae5e9b5447c1aafb0d10fd935ffa33b31faae243f8e16d052", func := "loop.example/compressionlab/laws.FnExactFrontBack", spec := "fnExactFrontBack", apart := false }
def FnExactFrontBackSaid : Prop := fnExactFrontBackRow.holds Try.pinned (OpenSpec.ofChange fnExactFrontBackSpec)

/-- ITS FALSE NEIGHBOUR: 'it returns false'. Refute it at one input. -/
def fnExactFrontBackWrong : ChangeSpec := { name := "fnExactFrontBack", fn := fun _ => fun
  | [d] => { results := [.lit (.bool false)], args := [d] }
  | _ => none }
def FnExactFrontBackWrongFalsely : Prop := fnExactFrontBackRow.holds Try.pinned (OpenSpec.ofChange fnExactFrontBackWrong)

/-- 'laws.FnExactFrontOf': WHATEVER THE INPUT: true; the input reads as it did. -/
def fnExactFrontOfSpec : ChangeSpec := { name := "fnExactFrontOf", fn := fun _ => fun
  | [d] => { results := [.lit (.bool true)], args := [d] }
  | _ => none }
def fnExactFrontOfRow : OpenClaim := { program := "ytibccpmooialiaa", sum := "ed882a26db5f80eae5e9b5447c1aafb0d10fd935ffa33b31faae243f8e16d052", func := "loop.example/compressionlab/laws.FnExactFrontOf", spec := "fnExactFrontOf", apart := false }
def FnExactFrontOfSaid : Prop := fnExactFrontOfRow.holds Try.pinned (OpenSpec.ofChange fnExactFrontOfSpec)

/-- ITS FALSE NEIGHBOUR: 'it returns false'. Refute it at one input. -/
def fnExactFrontOfWrong : ChangeSpec := { name := "fnExactFrontOf", fn := fun _ => fun
  | [d] => { results := [.lit (.bool false)], args := [d] }
  | _ => none }
def FnExactFrontOfWrongFalsely : Prop := fnExactFrontOfRow.holds Try.pinned (OpenSpec.ofChange fnExactFrontOfWrong)

/-- 'laws.FnFrontBack': WHATEVER THE INPUT: true; the input reads as it did. -/
def fnFrontBackSpec : ChangeSpec := { name := "fnFrontBack", fn := fun _ => fun
  | [d] => { results := [.lit (.bool true)], args := [d] }
  | _ => none }
def fnFrontBackRow : OpenClaim := { program := "ytibccpmooialiaa", sum := "ed882a26db5f80eae5e9b5447c1aafb0d10fd935ffa33b31faae243f8e16d052", func := "loop.example/compressionlab/laws.FnFrontBack", spec := "fnFrontBack", apart := false }
def FnFrontBackSaid : Prop := fnFrontBackRow.holds Try.pinned (OpenSpec.ofChange fnFrontBackSpec)

/-- ITS FALSE NEIGHBOUR: 'it returns false'. Refute it at one input. -/
def fnFrontBackWrong : ChangeSpec := { name := "fnFrontBack", fn := fun _ => fun
  | [d] => { results := [.lit (.bool false)], args := [d] }
  | _ => none }
def FnFrontBackWrongFalsely : Prop := fnFrontBackRow.holds Try.pinned (OpenSpec.ofChange fnFrontBackWrong)

/-- 'laws.FnFrontAgain': WHATEVER THE INPUT: true; the input reads as it did. -/
def fnFrontAgainSpec : ChangeSpec := { name := "fnFrontAgain", fn := fun _ => fun
  | [d] => { results := [.lit (.bool true)], args := [d] }
  | _ => none }
def fnFrontAgainRow : OpenClaim := { program := "ytibccpmooialiaa", sum := "ed882a26db5f80eae5e9b5447c1aafb0d10fd935ffa33b31faae243f8e16d052", func := "loop.example/compressionlab/laws.FnFrontAgain", spec := "fnFrontAgain", apart := false }
def FnFrontAgainSaid : Prop := fnFrontAgainRow.holds Try.pinned (OpenSpec.ofChange fnFrontAgainSpec)

/-- ITS FALSE NEIGHBOUR: 'it returns false'. Refute it at one input. -/
def fnFrontAgainWrong : ChangeSpec := { name := "fnFrontAgain", fn := fun _ => fun
  | [d] => { results := [.lit (.bool false)], args := [d] }
  | _ => none }
def FnFrontAgainWrongFalsely : Prop := fnFrontAgainRow.holds Try.pinned (OpenSpec.ofChange fnFrontAgainWrong)

/-- 'laws.FnFrontBegin': WHATEVER THE INPUT: true; the input reads as it did. -/
def fnFrontBeginSpec : ChangeSpec := { name := "fnFrontBegin", fn := fun _ => fun
  | [d1, d2] => { results := [.lit (.bool true)], args := [d1, d2] }
  | _ => none }
def fnFrontBeginRow : OpenClaim := { program := "ytibccpmooialiaa", sum := "ed882a26db5f80eae5e9b5447c1aafb0d10fd935ffa33b31faae243f8e16d052", func := "loop.example/compressionlab/laws.FnFrontBegin", spec := "fnFrontBegin", apart := false }
def FnFrontBeginSaid : Prop := fnFrontBeginRow.holds Try.pinned (OpenSpec.ofChange fnFrontBeginSpec)

/-- ITS FALSE NEIGHBOUR: 'it returns false'. Refute it at one input. -/
def fnFrontBeginWrong : ChangeSpec := { name := "fnFrontBegin", fn := fun _ => fun
  | [d1, d2] => { results := [.lit (.bool false)], args := [d1, d2] }
  | _ => none }
def FnFrontBeginWrongFalsely : Prop := fnFrontBeginRow.holds Try.pinned (OpenSpec.ofChange fnFrontBeginWrong)

/-- 'laws.FnFront': WHATEVER THE INPUT: true; the input reads as it did. -/
def fnFrontSpec : ChangeSpec := { name := "fnFront", fn := fun _ => fun
  | [d] => { results := [.lit (.bool true)], args := [d] }
  | _ => none }
def fnFrontRow : OpenClaim := { program := "ytibccpmooialiaa", sum := "ed882a26db5f80eae5e9b5447c1aafb0d10fd935ffa33b31faae243f8e16d052", func := "loop.example/compressionlab/laws.FnFront", spec := "fnFront", apart := false }
def FnFrontSaid : Prop := fnFrontRow.holds Try.pinned (OpenSpec.ofChange fnFrontSpec)

/-- ITS FALSE NEIGHBOUR: 'it returns false'. Refute it at one input. -/
def fnFrontWrong : ChangeSpec := { name := "fnFront", fn := fun _ => fun
  | [d] => { results := [.lit (.bool false)], args := [d] }
  | _ => none }
def FnFrontWrongFalsely : Prop := fnFrontRow.holds Try.pinned (OpenSpec.ofChange fnFrontWrong)

/- THE SECOND FORM. 'bulk': how many values and letters a reading holds, each counted each time it is reached (what is shared counts as often as it is met; a slice's spare places count too). A statement '..UptoSaid' is the law's where the arguments, and the package variables that the reading takes, are together of bulk at most 1048576: NARROWER than '..Said'. Prove '..Said' where nothing that the law and all that it calls make is longer than what came in: it says more and counts as full. Else prove '..UptoSaid'. A law counts once. -/
mutual
def uptoBulk {H : Type} : DataW H → Nat
  | .lit (.string bytes) => bytes.length + 1
  | .lit _ => 1
  | .nil => 1
  | .ptr d => uptoBulk d + 1
  | .slice elems spare => uptoBulkAll elems + uptoBulkAll spare + 1
  | .agg parts => uptoBulkAll parts + 1
  | .iface _ d => uptoBulk d + 1
  | .map entries => uptoBulkEntries entries + 1
  | .held _ => 1
def uptoBulkAll {H : Type} : List (DataW H) → Nat
  | [] => 0
  | d :: r => uptoBulk d + uptoBulkAll r
def uptoBulkEntries {H : Type} : List (Lit × DataW H) → Nat
  | [] => 0
  | x :: r => uptoBulkEntry x + uptoBulkEntries r
def uptoBulkEntry {H : Type} : Lit × DataW H → Nat
  | (.string bytes, d) => bytes.length + uptoBulk d + 1
  | (_, d) => uptoBulk d + 1
 end
def uptoSmall : (H : Type) → List (DataW H) → Bool := fun _ ds => decide (uptoBulkAll ds ≤ 1048576)
def OpenSpec.upto (s : _root_.Go.ChangeSpec) : _root_.Go.OpenSpec := { _root_.Go.OpenSpec.ofChange s with cond := some uptoSmall }

/-- 'laws.FnExactFrontBack', WHERE WHAT IT READS IS OF BULK AT MOST 1048576: true; the input reads as it did. -/
def fnExactFrontBackUptoRow : OpenClaim := { program := "ytibccpmooialiaa", sum := "ed882a26db5f80eae5e9b5447c1aafb0d10fd935ffa33b31faae243f8e16d052", func := "loop.example/compressionlab/laws.FnExactFrontBack", spec := "fnExactFrontBack", apart := false, narrowed := true }
def FnExactFrontBackUptoSaid : Prop := fnExactFrontBackUptoRow.holds Try.pinned (OpenSpec.upto fnExactFrontBackSpec)

/-- 'laws.FnExactFrontOf', WHERE WHAT IT READS IS OF BULK AT MOST 1048576: true; the input reads as it did. -/
def fnExactFrontOfUptoRow : OpenClaim := { program := "ytibccpmooialiaa", sum := "ed882a26db5f80eae5e9b5447c1aafb0d10fd935ffa33b31faae243f8e16d052", func := "loop.example/compressionlab/laws.FnExactFrontOf", spec := "fnExactFrontOf", apart := false, narrowed := true }
def FnExactFrontOfUptoSaid : Prop := fnExactFrontOfUptoRow.holds Try.pinned (OpenSpec.upto fnExactFrontOfSpec)

/-- 'laws.FnFrontBack', WHERE WHAT IT READS IS OF BULK AT MOST 1048576: true; the input reads as it did. -/
def fnFrontBackUptoRow : OpenClaim := { program := "ytibccpmooialiaa", sum := "ed882a26db5f80eae5e9b5447c1aafb0d10fd935ffa33b31faae243f8e16d052", func := "loop.example/compressionlab/laws.FnFrontBack", spec := "fnFrontBack", apart := false, narrowed := true }
def FnFrontBackUptoSaid : Prop := fnFrontBackUptoRow.holds Try.pinned (OpenSpec.upto fnFrontBackSpec)

/-- 'laws.FnFrontAgain', WHERE WHAT IT READS IS OF BULK AT MOST 1048576: true; the input reads as it did. -/
def fnFrontAgainUptoRow : OpenClaim := { program := "ytibccpmooialiaa", sum := "ed882a26db5f80eae5e9b5447c1aafb0d10fd935ffa33b31faae243f8e16d052", func := "loop.example/compressionlab/laws.FnFrontAgain", spec := "fnFrontAgain", apart := false, narrowed := true }
def FnFrontAgainUptoSaid : Prop := fnFrontAgainUptoRow.holds Try.pinned (OpenSpec.upto fnFrontAgainSpec)

/-- 'laws.FnFrontBegin', WHERE WHAT IT READS IS OF BULK AT MOST 1048576: true; the input reads as it did. -/
def fnFrontBeginUptoRow : OpenClaim := { program := "ytibccpmooialiaa", sum := "ed882a26db5f80eae5e9b5447c1aafb0d10fd935ffa33b31faae243f8e16d052", func := "loop.example/compressionlab/laws.FnFrontBegin", spec := "fnFrontBegin", apart := false, narrowed := true }
def FnFrontBeginUptoSaid : Prop := fnFrontBeginUptoRow.holds Try.pinned (OpenSpec.upto fnFrontBeginSpec)

/-- 'laws.FnFront', WHERE WHAT IT READS IS OF BULK AT MOST 1048576: true; the input reads as it did. -/
def fnFrontUptoRow : OpenClaim := { program := "ytibccpmooialiaa", sum := "ed882a26db5f80eae5e9b5447c1aafb0d10fd935ffa33b31faae243f8e16d052", func := "loop.example/compressionlab/laws.FnFront", spec := "fnFront", apart := false, narrowed := true }
def FnFrontUptoSaid : Prop := fnFrontUptoRow.holds Try.pinned (OpenSpec.upto fnFrontSpec)

end Rows
end Go.Proofs.Ytibccpmooialiaa
