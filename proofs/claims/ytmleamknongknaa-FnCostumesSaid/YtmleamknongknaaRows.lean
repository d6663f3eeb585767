/-
  No cell of these rows narrows 'for every input' (looked for: loops, veiled, ifaces, maps, wideKeys, modest, calm, conditions, laid).
  DERIVED. THE GIVEN ROWS OF THIS SEAT. 7 by the template 'for every input the law returns true; each argument reads behind the call as it read before'; 0 by the template 'total and deterministic' (their statements: YtmleamknongknaaTotals.lean).
  GIVEN WITH THE SEED: the statements are not yours to turn. If you find one false, say at which input.
  Laid BY PROGRAM, IN A SANDBOX (cutbox-rows.mjs): the forced cells as the released guide's own fill.sh prints them over the translation db70bda083d610ba… (all of the seat's roots in one cut). By AI agents, Wed Nov 11 2026. No macro, syntax, notation, axiom, sorry.
-/
import Derived.Test.YtmleamknongknaaChecked
import GoSem.Claim
import GoSem.ClaimJoined
import GoSem.ClaimMapViews
import Derived.JoinedTies
import Derived.KernelRfl
namespace Go.Proofs.Ytmleamknongknaa
/- THE CELL 'sum', in the pinned program and in every row, IS THE sha256 OF THE DUMP (.gsa) THAT YtmleamknongknaaProg.lean LOADS. Nothing in Lean hashes anything: it is a label: what it is worth is what the hold of that sum in a sandbox is worth. -/
noncomputable def Try.pinned : Pinned := { name := "ytmleamknongknaa", sum := "db70bda083d610ba64e7af3d8f667357b75efe2aedfcb6e45e24fee21e6d67df", checked := Try.checked }
namespace Rows
def none {H : Type} : Left H := { results := [], args := [] }

/-- 'laws.FnExactMeasureOk': WHATEVER THE INPUT: true; the input reads as it did. -/
def fnExactMeasureOkSpec : ChangeSpec := { name := "fnExactMeasureOk", fn := fun _ => fun
  | [d] => { results := [.lit (.bool true)], args := [d] }
  | _ => none }
def fnExactMeasureOkRow : OpenClaim := { program := "ytmleamknongknaa", sum := "db70bda083d610ba64e7af3d8f667357b75efe2aedfcb6e45e24fee21e6d67df", func := "loop.example/g03306/laws.FnExactMeasureOk", spec := "fnExactMeasureOk", apart := false }
def FnExactMeasureOkSaid : Prop := fnExactMeasureOkRow.holds Try.pinned (OpenSpec.ofChange fnExactMeasureOkSpec)

/-- ITS FALSE NEIGHBOUR: 'it returns false'. Refute it at one input. -/
def fnExactMeasureOkWrong : ChangeSpec := { name := "fnExactMeasureOk", fn := fun _ => fun
  | [d] => { results := [.lit (.bool false)], args := [d] }
  | _ => none }
def FnExactMeasureOkWrongFalsely : Prop := fnExactMeasureOkRow.holds Try.pinned (OpenSpec.ofChange fnExactMeasureOkWrong)

/-- 'laws.FnExactFitsFor': WHATEVER THE INPUT: true; the input reads as it did. -/
def fnExactFitsForSpec : ChangeSpec := { name := "fnExactFitsFor", fn := fun _ => fun
  | [d1, d2] => { results := [.lit (.bool true)], args := [d1, d2] }
  | _ => none }
def fnExactFitsForRow : OpenClaim := { program := "ytmleamknongknaa", sum := "db70bda083d610ba64e7af3d8f667357b75efe2aedfcb6e45e24fee21e6d67df", func := "loop.example/g03306/laws.FnExactFitsFor", spec := "fnExactFitsFor", apart := false }
def FnExactFitsForSaid : Prop := fnExactFitsForRow.holds Try.pinned (OpenSpec.ofChange fnExactFitsForSpec)

/-- ITS FALSE NEIGHBOUR: 'it returns false'. Refute it at one input. -/
def fnExactFitsForWrong : ChangeSpec := { name := "fnExactFitsFor", fn := fun _ => fun
  | [d1, d2] => { results := [.lit (.bool false)], args := [d1, d2] }
  | _ => none }
def FnExactFitsForWrongFalsely : Prop := fnExactFitsForRow.holds Try.pinned (OpenSpec.ofChange fnExactFitsForWrong)

/-- 'laws.FnExactClothOf': WHATEVER THE INPUT: true; the input reads as it did. -/
def fnExactClothOfSpec : ChangeSpec := { name := "fnExactClothOf", fn := fun _ => fun
  | [d] => { results := [.lit (.bool true)], args := [d] }
  | _ => none }
def fnExactClothOfRow : OpenClaim := { program := "ytmleamknongknaa", sum := "db70bda083d610ba64e7af3d8f667357b75efe2aedfcb6e45e24fee21e6d67df", func := "loop.example/g03306/laws.FnExactClothOf", spec := "fnExactClothOf", apart := false }
def FnExactClothOfSaid : Prop := fnExactClothOfRow.holds Try.pinned (OpenSpec.ofChange fnExactClothOfSpec)

/-- ITS FALSE NEIGHBOUR: 'it returns false'. Refute it at one input. -/
def fnExactClothOfWrong : ChangeSpec := { name := "fnExactClothOf", fn := fun _ => fun
  | [d] => { results := [.lit (.bool false)], args := [d] }
  | _ => none }
def FnExactClothOfWrongFalsely : Prop := fnExactClothOfRow.holds Try.pinned (OpenSpec.ofChange fnExactClothOfWrong)

/-- 'laws.FnExactSharedCostume': WHATEVER THE INPUT: true; the input reads as it did. -/
def fnExactSharedCostumeSpec : ChangeSpec := { name := "fnExactSharedCostume", fn := fun _ => fun
  | [d] => { results := [.lit (.bool true)], args := [d] }
  | _ => none }
def fnExactSharedCostumeRow : OpenClaim := { program := "ytmleamknongknaa", sum := "db70bda083d610ba64e7af3d8f667357b75efe2aedfcb6e45e24fee21e6d67df", func := "loop.example/g03306/laws.FnExactSharedCostume", spec := "fnExactSharedCostume", apart := false }
def FnExactSharedCostumeSaid : Prop := fnExactSharedCostumeRow.holds Try.pinned (OpenSpec.ofChange fnExactSharedCostumeSpec)

/-- ITS FALSE NEIGHBOUR: 'it returns false'. Refute it at one input. -/
def fnExactSharedCostumeWrong : ChangeSpec := { name := "fnExactSharedCostume", fn := fun _ => fun
  | [d] => { results := [.lit (.bool false)], args := [d] }
  | _ => none }
def FnExactSharedCostumeWrongFalsely : Prop := fnExactSharedCostumeRow.holds Try.pinned (OpenSpec.ofChange fnExactSharedCostumeWrong)

/-- 'laws.FnExactFewestCostumes': WHATEVER THE INPUT: true; the input reads as it did. -/
def fnExactFewestCostumesSpec : ChangeSpec := { name := "fnExactFewestCostumes", fn := fun _ => fun
  | [d1, d2] => { results := [.lit (.bool true)], args := [d1, d2] }
  | _ => none }
def fnExactFewestCostumesRow : OpenClaim := { program := "ytmleamknongknaa", sum := "db70bda083d610ba64e7af3d8f667357b75efe2aedfcb6e45e24fee21e6d67df", func := "loop.example/g03306/laws.FnExactFewestCostumes", spec := "fnExactFewestCostumes", apart := false }
def FnExactFewestCostumesSaid : Prop := fnExactFewestCostumesRow.holds Try.pinned (OpenSpec.ofChange fnExactFewestCostumesSpec)

/-- ITS FALSE NEIGHBOUR: 'it returns false'. Refute it at one input. -/
def fnExactFewestCostumesWrong : ChangeSpec := { name := "fnExactFewestCostumes", fn := fun _ => fun
  | [d1, d2] => { results := [.lit (.bool false)], args := [d1, d2] }
  | _ => none }
def FnExactFewestCostumesWrongFalsely : Prop := fnExactFewestCostumesRow.holds Try.pinned (OpenSpec.ofChange fnExactFewestCostumesWrong)

/-- 'laws.FnExactWidthsFor': WHATEVER THE INPUT: true; the input reads as it did. -/
def fnExactWidthsForSpec : ChangeSpec := { name := "fnExactWidthsFor", fn := fun _ => fun
  | [d1, d2] => { results := [.lit (.bool true)], args := [d1, d2] }
  | _ => none }
def fnExactWidthsForRow : OpenClaim := { program := "ytmleamknongknaa", sum := "db70bda083d610ba64e7af3d8f667357b75efe2aedfcb6e45e24fee21e6d67df", func := "loop.example/g03306/laws.FnExactWidthsFor", spec := "fnExactWidthsFor", apart := false }
def FnExactWidthsForSaid : Prop := fnExactWidthsForRow.holds Try.pinned (OpenSpec.ofChange fnExactWidthsForSpec)

/-- ITS FALSE NEIGHBOUR: 'it returns false'. Refute it at one input. -/
def fnExactWidthsForWrong : ChangeSpec := { name := "fnExactWidthsFor", fn := fun _ => fun
  | [d1, d2] => { results := [.lit (.bool false)], args := [d1, d2] }
  | _ => none }
def FnExactWidthsForWrongFalsely : Prop := fnExactWidthsForRow.holds Try.pinned (OpenSpec.ofChange fnExactWidthsForWrong)

/-- 'laws.FnCostumes': WHATEVER THE INPUT: true; the input reads as it did. -/
def fnCostumesSpec : ChangeSpec := { name := "fnCostumes", fn := fun _ => fun
  | [d] => { results := [.lit (.bool true)], args := [d] }
  | _ => none }
def fnCostumesRow : OpenClaim := { program := "ytmleamknongknaa", sum := "db70bda083d610ba64e7af3d8f667357b75efe2aedfcb6e45e24fee21e6d67df", func := "loop.example/g03306/laws.FnCostumes", spec := "fnCostumes", apart := false }
def FnCostumesSaid : Prop := fnCostumesRow.holds Try.pinned (OpenSpec.ofChange fnCostumesSpec)

/-- ITS FALSE NEIGHBOUR: 'it returns false'. Refute it at one input. -/
def fnCostumesWrong : ChangeSpec := { name := "fnCostumes", fn := fun _ => fun
  | [d] => { results := [.lit (.bool false)], args := [d] }
  | _ => none }
def FnCostumesWrongFalsely : Prop := fnCostumesRow.holds Try.pinned (OpenSpec.ofChange fnCostumesWrong)

/- THE SECOND FORM. 'bulk': how many values and letters a reading holds, each counted each time it is reached (what is shared counts as often as it is met; a slice's spare places count too). A statement '..UptoSaid' is the law's where the arguments, and the package variables that the reading takes, are together of bulk at most 1048576: NARROWER than '..Said'. Prove '..Said' where nothing that the law and all that it calls make is longer than what came in: it says more and counts as full. Else prove '..UptoSaid'. A law counts once. -/
mutual
def uptoBulk {H : Type} : DataW H → Nat
  | .lit (.string bytes) => bytes.length + 1
  | .lit _ => 1
  | .nil => 1
  | .ptr d => uptoBulk d + 1
  | .slice elems spare => uptoBulkAll elems + uptoBulkAll spare + 1
  | .agg parts => uptoBulkAll parts + 1
  | .iface _ d => uptoBulk d + 1
  | .map entries => uptoBulkEntries entries + 1
  | .held _ => 1
def uptoBulkAll {H : Type} : List (DataW H) → Nat
  | [] => 0
  | d :: r => uptoBulk d + uptoBulkAll r
def uptoBulkEntries {H : Type} : List (Lit × DataW H) → Nat
  | [] => 0
  | x :: r => uptoBulkEntry x + uptoBulkEntries r
def uptoBulkEntry {H : Type} : Lit × DataW H → Nat
  | (.string bytes, d) => bytes.length + uptoBulk d + 1
  | (_, d) => uptoBulk d + 1
 end
def uptoSmall : (H : Type) → List (DataW H) → Bool := fun _ ds => decide (uptoBulkAll ds ≤ 1048576)
def OpenSpec.upto (s : _root_.Go.ChangeSpec) : _root_.Go.OpenSpec := { _root_.Go.OpenSpec.ofChange s with cond := some uptoSmall }

/-- 'laws.FnExactMeasureOk', WHERE WHAT IT READS IS OF BULK AT MOST 1048576: true; the input reads as it did. -/
def fnExactMeasureOkUptoRow : OpenClaim := { program := "ytmleamknongknaa", sum := "db70bda083d610ba64e7af3d8f667357b75efe2aedfcb6e45e24fee21e6d67df", func := "loop.example/g03306/laws.FnExactMeasureOk", spec := "fnExactMeasureOk", apart := false, narrowed := true }
def FnExactMeasureOkUptoSaid : Prop := fnExactMeasureOkUptoRow.holds Try.pinned (OpenSpec.upto fnExactMeasureOkSpec)

/-- 'laws.FnExactFitsFor', WHERE WHAT IT READS IS OF BULK AT MOST 1048576: true; the input reads as it did. -/
def fnExactFitsForUptoRow : OpenClaim := { program := "ytmleamknongknaa", sum := "db70bda083d610ba64e7af3d8f667357b75efe2aedfcb6e45e24fee21e6d67df", func := "loop.example/g03306/laws.FnExactFitsFor", spec := "fnExactFitsFor", apart := false, narrowed := true }
def FnExactFitsForUptoSaid : Prop := fnExactFitsForUptoRow.holds Try.pinned (OpenSpec.upto fnExactFitsForSpec)

/-- 'laws.FnExactClothOf', WHERE WHAT IT READS IS OF BULK AT MOST 1048576: true; the input reads as it did. -/
def fnExactClothOfUptoRow : OpenClaim := { program := "ytmleamknongknaa", sum := "db70bda083d610ba64e7af3d8f667357b75efe2aedfcb6e45e24fee21e6d67df", func := "loop.example/g03306/laws.FnExactClothOf", spec := "fnExactClothOf", apart := false, narrowed := true }
def FnExactClothOfUptoSaid : Prop := fnExactClothOfUptoRow.holds Try.pinned (OpenSpec.upto fnExactClothOfSpec)

/-- 'laws.FnExactSharedCostume', WHERE WHAT IT READS IS OF BULK AT MOST 1048576: true; the input reads as it did. -/
def fnExactSharedCostumeUptoRow : OpenClaim := { program := "ytmleamknongknaa", sum := "db70bda083d610ba64e7af3d8f667357b75efe2aedfcb6e45e24fee21e6d67df", func := "loop.example/g03306/laws.FnExactSharedCostume", spec := "fnExactSharedCostume", apart := false, narrowed := true }
def FnExactSharedCostumeUptoSaid : Prop := fnExactSharedCostumeUptoRow.holds Try.pinned (OpenSpec.upto fnExactSharedCostumeSpec)

/-- 'laws.FnExactFewestCostumes', WHERE WHAT IT READS IS OF BULK AT MOST 1048576: true; the input reads as it did. -/
def fnExactFewestCostumesUptoRow : OpenClaim := { program := "ytmleamknongknaa", sum := "db70bda083d610ba64e7af3d8f667357b75efe2aedfcb6e45e24fee21e6d67df", func := "loop.example/g03306/laws.FnExactFewestCostumes", spec := "fnExactFewestCostumes", apart := false, narrowed := true }
def FnExactFewestCostumesUptoSaid : Prop := fnExactFewestCostumesUptoRow.holds Try.pinned (OpenSpec.upto fnExactFewestCostumesSpec)

/-- 'laws.FnExactWidthsFor', WHERE WHAT IT READS IS OF BULK AT MOST 1048576: true; the input reads as it did. -/
def fnExactWidthsForUptoRow : OpenClaim := { program := "ytmleamknongknaa", sum := "db70bda083d610ba64e7af3d8f667357b75efe2aedfcb6e45e24fee21e6d67df", func := "loop.example/g03306/laws.FnExactWidthsFor", spec := "fnExactWidthsFor", apart := false, narrowed := true }
def FnExactWidthsForUptoSaid : Prop := fnExactWidthsForUptoRow.holds Try.pinned (OpenSpec.upto fnExactWidthsForSpec)

/-- 'laws.FnCostumes', WHERE WHAT IT READS IS OF BULK AT MOST 1048576: true; the input reads as it did. -/
def fnCostumesUptoRow : OpenClaim := { program := "ytmleamknongknaa", sum := "db70bda083d610ba64e7af3d8f667357b75efe2aedfcb6e45e24fee21e6d67df", func := "loop.example/g03306/laws.FnCostumes", spec := "fnCostumes", apart := false, narrowed := true }
def FnCostumesUptoSaid : Prop := fnCostumesUptoRow.holds Try.pinned (OpenSpec.upto fnCostumesSpec)

end Rows
end Go.Proofs.Ytmleamknongknaa
