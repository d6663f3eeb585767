/-
  No cell of these rows narrows 'for every input' (looked for: loops, veiled, ifaces, maps, wideKeys, modest, calm, conditions, laid).
  DERIVED. THE GIVEN ROWS OF THIS SEAT. 7 by the template 'for every input the law returns true; each argument reads behind the call as it read before'; 0 by the template 'total and deterministic' (their statements: YthjiggihljiikaaTotals.lean).
  GIVEN WITH THE SEED: the statements are not yours to turn. If you find one false, say at which input.
  Laid BY PROGRAM, IN A SANDBOX (cutbox-rows.mjs): the forced cells as the released guide's own fill.sh prints them over the translation 29041dbbad585c84… (all of the seat's roots in one cut). By AI agents, Wed Nov 11 2026. No macro, syntax, notation, axiom, sorry.
-/
import Derived.Test.YthjiggihljiikaaChecked
import GoSem.Claim
import GoSem.ClaimJoined
import GoSem.ClaimMapViews
import Derived.JoinedTies
import Derived.KernelRfl
namespace Go.Proofs.Ythjiggihljiikaa
/- THE CELL 'sum', in the pinned program and in every row, IS THE sha256 OF THE DUMP (.gsa) THAT YthjiggihljiikaaProg.lean LOADS. Nothing in Lean hashes anything: it is a label: what it is worth is what the hold of that sum in a sandbox is worth. -/
noncomputable def Try.pinned : Pinned := { name := "ythjiggihljiikaa", sum := "29041dbbad585c844e44494da977aef29a0b52088227d2fda45c9d668e3952c9", checked := Try.checked }
namespace Rows
def none {H : Type} : Left H := { results := [], args := [] }

/-- 'laws.FnExactBoxesOk': WHATEVER THE INPUT: true; the input reads as it did. -/
def fnExactBoxesOkSpec : ChangeSpec := { name := "fnExactBoxesOk", fn := fun _ => fun
  | [d1, d2] => { results := [.lit (.bool true)], args := [d1, d2] }
  | _ => none }
def fnExactBoxesOkRow : OpenClaim := { program := "ythjiggihljiikaa", sum := "29041dbbad585c844e44494da977aef29a0b52088227d2fda45c9d668e3952c9", func := "loop.example/g03306/laws.FnExactBoxesOk", spec := "fnExactBoxesOk", apart := false }
def FnExactBoxesOkSaid : Prop := fnExactBoxesOkRow.holds Try.pinned (OpenSpec.ofChange fnExactBoxesOkSpec)

/-- ITS FALSE NEIGHBOUR: 'it returns false'. Refute it at one input. -/
def fnExactBoxesOkWrong : ChangeSpec := { name := "fnExactBoxesOk", fn := fun _ => fun
  | [d1, d2] => { results := [.lit (.bool false)], args := [d1, d2] }
  | _ => none }
def FnExactBoxesOkWrongFalsely : Prop := fnExactBoxesOkRow.holds Try.pinned (OpenSpec.ofChange fnExactBoxesOkWrong)

/-- 'laws.FnExactIsFragile': WHATEVER THE INPUT: true; the input reads as it did. -/
def fnExactIsFragileSpec : ChangeSpec := { name := "fnExactIsFragile", fn := fun _ => fun
  | [d1, d2] => { results := [.lit (.bool true)], args := [d1, d2] }
  | _ => none }
def fnExactIsFragileRow : OpenClaim := { program := "ythjiggihljiikaa", sum := "29041dbbad585c844e44494da977aef29a0b52088227d2fda45c9d668e3952c9", func := "loop.example/g03306/laws.FnExactIsFragile", spec := "fnExactIsFragile", apart := false }
def FnExactIsFragileSaid : Prop := fnExactIsFragileRow.holds Try.pinned (OpenSpec.ofChange fnExactIsFragileSpec)

/-- ITS FALSE NEIGHBOUR: 'it returns false'. Refute it at one input. -/
def fnExactIsFragileWrong : ChangeSpec := { name := "fnExactIsFragile", fn := fun _ => fun
  | [d1, d2] => { results := [.lit (.bool false)], args := [d1, d2] }
  | _ => none }
def FnExactIsFragileWrongFalsely : Prop := fnExactIsFragileRow.holds Try.pinned (OpenSpec.ofChange fnExactIsFragileWrong)

/-- 'laws.FnExactIsPacked': WHATEVER THE INPUT: true; the input reads as it did. -/
def fnExactIsPackedSpec : ChangeSpec := { name := "fnExactIsPacked", fn := fun _ => fun
  | [d1, d2, d3] => { results := [.lit (.bool true)], args := [d1, d2, d3] }
  | _ => none }
def fnExactIsPackedRow : OpenClaim := { program := "ythjiggihljiikaa", sum := "29041dbbad585c844e44494da977aef29a0b52088227d2fda45c9d668e3952c9", func := "loop.example/g03306/laws.FnExactIsPacked", spec := "fnExactIsPacked", apart := false }
def FnExactIsPackedSaid : Prop := fnExactIsPackedRow.holds Try.pinned (OpenSpec.ofChange fnExactIsPackedSpec)

/-- ITS FALSE NEIGHBOUR: 'it returns false'. Refute it at one input. -/
def fnExactIsPackedWrong : ChangeSpec := { name := "fnExactIsPacked", fn := fun _ => fun
  | [d1, d2, d3] => { results := [.lit (.bool false)], args := [d1, d2, d3] }
  | _ => none }
def FnExactIsPackedWrongFalsely : Prop := fnExactIsPackedRow.holds Try.pinned (OpenSpec.ofChange fnExactIsPackedWrong)

/-- 'laws.FnExactFirstFit': WHATEVER THE INPUT: true; the input reads as it did. -/
def fnExactFirstFitSpec : ChangeSpec := { name := "fnExactFirstFit", fn := fun _ => fun
  | [d1, d2] => { results := [.lit (.bool true)], args := [d1, d2] }
  | _ => none }
def fnExactFirstFitRow : OpenClaim := { program := "ythjiggihljiikaa", sum := "29041dbbad585c844e44494da977aef29a0b52088227d2fda45c9d668e3952c9", func := "loop.example/g03306/laws.FnExactFirstFit", spec := "fnExactFirstFit", apart := false }
def FnExactFirstFitSaid : Prop := fnExactFirstFitRow.holds Try.pinned (OpenSpec.ofChange fnExactFirstFitSpec)

/-- ITS FALSE NEIGHBOUR: 'it returns false'. Refute it at one input. -/
def fnExactFirstFitWrong : ChangeSpec := { name := "fnExactFirstFit", fn := fun _ => fun
  | [d1, d2] => { results := [.lit (.bool false)], args := [d1, d2] }
  | _ => none }
def FnExactFirstFitWrongFalsely : Prop := fnExactFirstFitRow.holds Try.pinned (OpenSpec.ofChange fnExactFirstFitWrong)

/-- 'laws.FnExactFewestBoxes': WHATEVER THE INPUT: true; the input reads as it did. -/
def fnExactFewestBoxesSpec : ChangeSpec := { name := "fnExactFewestBoxes", fn := fun _ => fun
  | [d1, d2] => { results := [.lit (.bool true)], args := [d1, d2] }
  | _ => none }
def fnExactFewestBoxesRow : OpenClaim := { program := "ythjiggihljiikaa", sum := "29041dbbad585c844e44494da977aef29a0b52088227d2fda45c9d668e3952c9", func := "loop.example/g03306/laws.FnExactFewestBoxes", spec := "fnExactFewestBoxes", apart := false }
def FnExactFewestBoxesSaid : Prop := fnExactFewestBoxesRow.holds Try.pinned (OpenSpec.ofChange fnExactFewestBoxesSpec)

/-- ITS FALSE NEIGHBOUR: 'it returns false'. Refute it at one input. -/
def fnExactFewestBoxesWrong : ChangeSpec := { name := "fnExactFewestBoxes", fn := fun _ => fun
  | [d1, d2] => { results := [.lit (.bool false)], args := [d1, d2] }
  | _ => none }
def FnExactFewestBoxesWrongFalsely : Prop := fnExactFewestBoxesRow.holds Try.pinned (OpenSpec.ofChange fnExactFewestBoxesWrong)

/-- 'laws.FnExactRoomLeft': WHATEVER THE INPUT: true; the input reads as it did. -/
def fnExactRoomLeftSpec : ChangeSpec := { name := "fnExactRoomLeft", fn := fun _ => fun
  | [d1, d2, d3] => { results := [.lit (.bool true)], args := [d1, d2, d3] }
  | _ => none }
def fnExactRoomLeftRow : OpenClaim := { program := "ythjiggihljiikaa", sum := "29041dbbad585c844e44494da977aef29a0b52088227d2fda45c9d668e3952c9", func := "loop.example/g03306/laws.FnExactRoomLeft", spec := "fnExactRoomLeft", apart := false }
def FnExactRoomLeftSaid : Prop := fnExactRoomLeftRow.holds Try.pinned (OpenSpec.ofChange fnExactRoomLeftSpec)

/-- ITS FALSE NEIGHBOUR: 'it returns false'. Refute it at one input. -/
def fnExactRoomLeftWrong : ChangeSpec := { name := "fnExactRoomLeft", fn := fun _ => fun
  | [d1, d2, d3] => { results := [.lit (.bool false)], args := [d1, d2, d3] }
  | _ => none }
def FnExactRoomLeftWrongFalsely : Prop := fnExactRoomLeftRow.holds Try.pinned (OpenSpec.ofChange fnExactRoomLeftWrong)

/-- 'laws.FnTrunks': WHATEVER THE INPUT: true; the input reads as it did. -/
def fnTrunksSpec : ChangeSpec := { name := "fnTrunks", fn := fun _ => fun
  | [d] => { results := [.lit (.bool true)], args := [d] }
  | _ => none }
def fnTrunksRow : OpenClaim := { program := "ythjiggihljiikaa", sum := "29041dbbad585c844e44494da977aef29a0b52088227d2fda45c9d668e3952c9", func := "loop.example/g03306/laws.FnTrunks", spec := "fnTrunks", apart := false }
def FnTrunksSaid : Prop := fnTrunksRow.holds Try.pinned (OpenSpec.ofChange fnTrunksSpec)

/-- ITS FALSE NEIGHBOUR: 'it returns false'. Refute it at one input. -/
def fnTrunksWrong : ChangeSpec := { name := "fnTrunks", fn := fun _ => fun
  | [d] => { results := [.lit (.bool false)], args := [d] }
  | _ => none }
def FnTrunksWrongFalsely : Prop := fnTrunksRow.holds Try.pinned (OpenSpec.ofChange fnTrunksWrong)

/- THE SECOND FORM. 'bulk': how many values and letters a reading holds, each counted each time it is reached (what is shared counts as often as it is met; a slice's spare places count too). A statement '..UptoSaid' is the law's where the arguments, and the package variables that the reading takes, are together of bulk at most 1048576: NARROWER than '..Said'. Prove '..Said' where nothing that the law and all that it calls make is longer than what came in: it says more and counts as full. Else prove '..UptoSaid'. A law counts once. -/
mutual
def uptoBulk {H : Type} : DataW H → Nat
  | .lit (.string bytes) => bytes.length + 1
  | .lit _ => 1
  | .nil => 1
  | .ptr d => uptoBulk d + 1
  | .slice elems spare => uptoBulkAll elems + uptoBulkAll spare + 1
  | .agg parts => uptoBulkAll parts + 1
  | .iface _ d => uptoBulk d + 1
  | .map entries => uptoBulkEntries entries + 1
  | .held _ => 1
def uptoBulkAll {H : Type} : List (DataW H) → Nat
  | [] => 0
  | d :: r => uptoBulk d + uptoBulkAll r
def uptoBulkEntries {H : Type} : List (Lit × DataW H) → Nat
  | [] => 0
  | x :: r => uptoBulkEntry x + uptoBulkEntries r
def uptoBulkEntry {H : Type} : Lit × DataW H → Nat
  | (.string bytes, d) => bytes.length + uptoBulk d + 1
  | (_, d) => uptoBulk d + 1
 end
def uptoSmall : (H : Type) → List (DataW H) → Bool := fun _ ds => decide (uptoBulkAll ds ≤ 1048576)
def OpenSpec.upto (s : _root_.Go.ChangeSpec) : _root_.Go.OpenSpec := { _root_.Go.OpenSpec.ofChange s with cond := some uptoSmall }

/-- 'laws.FnExactBoxesOk', WHERE WHAT IT READS IS OF BULK AT MOST 1048576: true; the input reads as it did. -/
def fnExactBoxesOkUptoRow : OpenClaim := { program := "ythjiggihljiikaa", sum := "29041dbbad585c844e44494da977aef29a0b52088227d2fda45c9d668e3952c9", func := "loop.example/g03306/laws.FnExactBoxesOk", spec := "fnExactBoxesOk", apart := false, narrowed := true }
def FnExactBoxesOkUptoSaid : Prop := fnExactBoxesOkUptoRow.holds Try.pinned (OpenSpec.upto fnExactBoxesOkSpec)

/-- 'laws.FnExactIsFragile', WHERE WHAT IT READS IS OF BULK AT MOST 1048576: true; the input reads as it did. -/
def fnExactIsFragileUptoRow : OpenClaim := { program := "ythjiggihljiikaa", sum := "29041dbbad585c844e44494da977aef29a0b52088227d2fda45c9d668e3952c9", func := "loop.example/g03306/laws.FnExactIsFragile", spec := "fnExactIsFragile", apart := false, narrowed := true }
def FnExactIsFragileUptoSaid : Prop := fnExactIsFragileUptoRow.holds Try.pinned (OpenSpec.upto fnExactIsFragileSpec)

/-- 'laws.FnExactIsPacked', WHERE WHAT IT READS IS OF BULK AT MOST 1048576: true; the input reads as it did. -/
def fnExactIsPackedUptoRow : OpenClaim := { program := "ythjiggihljiikaa", sum := "29041dbbad585c844e44494da977aef29a0b52088227d2fda45c9d668e3952c9", func := "loop.example/g03306/laws.FnExactIsPacked", spec := "fnExactIsPacked", apart := false, narrowed := true }
def FnExactIsPackedUptoSaid : Prop := fnExactIsPackedUptoRow.holds Try.pinned (OpenSpec.upto fnExactIsPackedSpec)

/-- 'laws.FnExactFirstFit', WHERE WHAT IT READS IS OF BULK AT MOST 1048576: true; the input reads as it did. -/
def fnExactFirstFitUptoRow : OpenClaim := { program := "ythjiggihljiikaa", sum := "29041dbbad585c844e44494da977aef29a0b52088227d2fda45c9d668e3952c9", func := "loop.example/g03306/laws.FnExactFirstFit", spec := "fnExactFirstFit", apart := false, narrowed := true }
def FnExactFirstFitUptoSaid : Prop := fnExactFirstFitUptoRow.holds Try.pinned (OpenSpec.upto fnExactFirstFitSpec)

/-- 'laws.FnExactFewestBoxes', WHERE WHAT IT READS IS OF BULK AT MOST 1048576: true; the input reads as it did. -/
def fnExactFewestBoxesUptoRow : OpenClaim := { program := "ythjiggihljiikaa", sum := "29041dbbad585c844e44494da977aef29a0b52088227d2fda45c9d668e3952c9", func := "loop.example/g03306/laws.FnExactFewestBoxes", spec := "fnExactFewestBoxes", apart := false, narrowed := true }
def FnExactFewestBoxesUptoSaid : Prop := fnExactFewestBoxesUptoRow.holds Try.pinned (OpenSpec.upto fnExactFewestBoxesSpec)

/-- 'laws.FnExactRoomLeft', WHERE WHAT IT READS IS OF BULK AT MOST 1048576: true; the input reads as it did. -/
def fnExactRoomLeftUptoRow : OpenClaim := { program := "ythjiggihljiikaa", sum := "29041dbbad585c844e44494da977aef29a0b52088227d2fda45c9d668e3952c9", func := "loop.example/g03306/laws.FnExactRoomLeft", spec := "fnExactRoomLeft", apart := false, narrowed := true }
def FnExactRoomLeftUptoSaid : Prop := fnExactRoomLeftUptoRow.holds Try.pinned (OpenSpec.upto fnExactRoomLeftSpec)

/-- 'laws.FnTrunks', WHERE WHAT IT READS IS OF BULK AT MOST 1048576: true; the input reads as it did. -/
def fnTrunksUptoRow : OpenClaim := { program := "ythjiggihljiikaa", sum := "29041dbbad585c844e44494da977aef29a0b52088227d2fda45c9d668e3952c9", func := "loop.example/g03306/laws.FnTrunks", spec := "fnTrunks", apart := false, narrowed := true }
def FnTrunksUptoSaid : Prop := fnTrunksUptoRow.holds Try.pinned (OpenSpec.upto fnTrunksSpec)

end Rows
end Go.Proofs.Ythjiggihljiikaa
