/-
  No cell of these rows narrows 'for every input' (looked for: loops, veiled, ifaces, maps, wideKeys, modest, calm, conditions, laid).
  DERIVED. THE GIVEN ROWS OF THIS SEAT. 8 by the template 'for every input the law returns true; each argument reads behind the call as it read before'; 0 by the template 'total and deterministic' (their statements: YtlkaalbhhnineaaTotals.lean).
  GIVEN WITH THE SEED: the statements are not yours to turn. If you find one false, say at which input.
  Laid BY PROGRAM, IN A SANDBOX (cutbox-rows.mjs): the forced cells as the released guide's own fill.sh prints them over the translation 097e3a10c13500b6… (all of the seat's roots in one cut). By AI agents, Wed Nov 11 2026. No macro, syntax, notation, axiom, sorry.
-/
import Derived.Test.YtlkaalbhhnineaaChecked
import GoSem.Claim
import GoSem.ClaimJoined
import GoSem.ClaimMapViews
import Derived.JoinedTies
import Derived.KernelRfl
namespace Go.Proofs.Ytlkaalbhhnineaa
/- THE CELL 'sum', in the pinned program and in every row, IS THE sha256 OF THE DUMP (.gsa) THAT YtlkaalbhhnineaaProg.lean LOADS. Nothing in Lean hashes anything: it is a label: what it is worth is what the hold of that sum in a sandbox is worth. -/
noncomputable def Try.pinned : Pinned := { name := "ytlkaalbhhnineaa", sum := "097e3a10c13500b6ba9662452531fb35a28c793d00e243f1908c27502a7375b9", checked := Try.checked }
namespace Rows
def none {H : Type} : Left H := { results := [], args := [] }

/-- 'laws.FnExactBlockOk': WHATEVER THE INPUT: true; the input reads as it did. -/
def fnExactBlockOkSpec : ChangeSpec := { name := "fnExactBlockOk", fn := fun _ => fun
  | [d] => { results := [.lit (.bool true)], args := [d] }
  | _ => none }
def fnExactBlockOkRow : OpenClaim := { program := "ytlkaalbhhnineaa", sum := "097e3a10c13500b6ba9662452531fb35a28c793d00e243f1908c27502a7375b9", func := "loop.example/g03306/laws.FnExactBlockOk", spec := "fnExactBlockOk", apart := false }
def FnExactBlockOkSaid : Prop := fnExactBlockOkRow.holds Try.pinned (OpenSpec.ofChange fnExactBlockOkSpec)

/-- ITS FALSE NEIGHBOUR: 'it returns false'. Refute it at one input. -/
def fnExactBlockOkWrong : ChangeSpec := { name := "fnExactBlockOk", fn := fun _ => fun
  | [d] => { results := [.lit (.bool false)], args := [d] }
  | _ => none }
def FnExactBlockOkWrongFalsely : Prop := fnExactBlockOkRow.holds Try.pinned (OpenSpec.ofChange fnExactBlockOkWrong)

/-- 'laws.FnExactWoodOf': WHATEVER THE INPUT: true; the input reads as it did. -/
def fnExactWoodOfSpec : ChangeSpec := { name := "fnExactWoodOf", fn := fun _ => fun
  | [d] => { results := [.lit (.bool true)], args := [d] }
  | _ => none }
def fnExactWoodOfRow : OpenClaim := { program := "ytlkaalbhhnineaa", sum := "097e3a10c13500b6ba9662452531fb35a28c793d00e243f1908c27502a7375b9", func := "loop.example/g03306/laws.FnExactWoodOf", spec := "fnExactWoodOf", apart := false }
def FnExactWoodOfSaid : Prop := fnExactWoodOfRow.holds Try.pinned (OpenSpec.ofChange fnExactWoodOfSpec)

/-- ITS FALSE NEIGHBOUR: 'it returns false'. Refute it at one input. -/
def fnExactWoodOfWrong : ChangeSpec := { name := "fnExactWoodOf", fn := fun _ => fun
  | [d] => { results := [.lit (.bool false)], args := [d] }
  | _ => none }
def FnExactWoodOfWrongFalsely : Prop := fnExactWoodOfRow.holds Try.pinned (OpenSpec.ofChange fnExactWoodOfWrong)

/-- 'laws.FnExactCanCarve': WHATEVER THE INPUT: true; the input reads as it did. -/
def fnExactCanCarveSpec : ChangeSpec := { name := "fnExactCanCarve", fn := fun _ => fun
  | [d1, d2] => { results := [.lit (.bool true)], args := [d1, d2] }
  | _ => none }
def fnExactCanCarveRow : OpenClaim := { program := "ytlkaalbhhnineaa", sum := "097e3a10c13500b6ba9662452531fb35a28c793d00e243f1908c27502a7375b9", func := "loop.example/g03306/laws.FnExactCanCarve", spec := "fnExactCanCarve", apart := false }
def FnExactCanCarveSaid : Prop := fnExactCanCarveRow.holds Try.pinned (OpenSpec.ofChange fnExactCanCarveSpec)

/-- ITS FALSE NEIGHBOUR: 'it returns false'. Refute it at one input. -/
def fnExactCanCarveWrong : ChangeSpec := { name := "fnExactCanCarve", fn := fun _ => fun
  | [d1, d2] => { results := [.lit (.bool false)], args := [d1, d2] }
  | _ => none }
def FnExactCanCarveWrongFalsely : Prop := fnExactCanCarveRow.holds Try.pinned (OpenSpec.ofChange fnExactCanCarveWrong)

/-- 'laws.FnExactSteepPlaces': WHATEVER THE INPUT: true; the input reads as it did. -/
def fnExactSteepPlacesSpec : ChangeSpec := { name := "fnExactSteepPlaces", fn := fun _ => fun
  | [d1, d2] => { results := [.lit (.bool true)], args := [d1, d2] }
  | _ => none }
def fnExactSteepPlacesRow : OpenClaim := { program := "ytlkaalbhhnineaa", sum := "097e3a10c13500b6ba9662452531fb35a28c793d00e243f1908c27502a7375b9", func := "loop.example/g03306/laws.FnExactSteepPlaces", spec := "fnExactSteepPlaces", apart := false }
def FnExactSteepPlacesSaid : Prop := fnExactSteepPlacesRow.holds Try.pinned (OpenSpec.ofChange fnExactSteepPlacesSpec)

/-- ITS FALSE NEIGHBOUR: 'it returns false'. Refute it at one input. -/
def fnExactSteepPlacesWrong : ChangeSpec := { name := "fnExactSteepPlaces", fn := fun _ => fun
  | [d1, d2] => { results := [.lit (.bool false)], args := [d1, d2] }
  | _ => none }
def FnExactSteepPlacesWrongFalsely : Prop := fnExactSteepPlacesRow.holds Try.pinned (OpenSpec.ofChange fnExactSteepPlacesWrong)

/-- 'laws.FnExactCutsFor': WHATEVER THE INPUT: true; the input reads as it did. -/
def fnExactCutsForSpec : ChangeSpec := { name := "fnExactCutsFor", fn := fun _ => fun
  | [d1, d2] => { results := [.lit (.bool true)], args := [d1, d2] }
  | _ => none }
def fnExactCutsForRow : OpenClaim := { program := "ytlkaalbhhnineaa", sum := "097e3a10c13500b6ba9662452531fb35a28c793d00e243f1908c27502a7375b9", func := "loop.example/g03306/laws.FnExactCutsFor", spec := "fnExactCutsFor", apart := false }
def FnExactCutsForSaid : Prop := fnExactCutsForRow.holds Try.pinned (OpenSpec.ofChange fnExactCutsForSpec)

/-- ITS FALSE NEIGHBOUR: 'it returns false'. Refute it at one input. -/
def fnExactCutsForWrong : ChangeSpec := { name := "fnExactCutsFor", fn := fun _ => fun
  | [d1, d2] => { results := [.lit (.bool false)], args := [d1, d2] }
  | _ => none }
def FnExactCutsForWrongFalsely : Prop := fnExactCutsForRow.holds Try.pinned (OpenSpec.ofChange fnExactCutsForWrong)

/-- 'laws.FnExactCutTo': WHATEVER THE INPUT: true; the input reads as it did. -/
def fnExactCutToSpec : ChangeSpec := { name := "fnExactCutTo", fn := fun _ => fun
  | [d1, d2, d3, d4] => { results := [.lit (.bool true)], args := [d1, d2, d3, d4] }
  | _ => none }
def fnExactCutToRow : OpenClaim := { program := "ytlkaalbhhnineaa", sum := "097e3a10c13500b6ba9662452531fb35a28c793d00e243f1908c27502a7375b9", func := "loop.example/g03306/laws.FnExactCutTo", spec := "fnExactCutTo", apart := false }
def FnExactCutToSaid : Prop := fnExactCutToRow.holds Try.pinned (OpenSpec.ofChange fnExactCutToSpec)

/-- ITS FALSE NEIGHBOUR: 'it returns false'. Refute it at one input. -/
def fnExactCutToWrong : ChangeSpec := { name := "fnExactCutTo", fn := fun _ => fun
  | [d1, d2, d3, d4] => { results := [.lit (.bool false)], args := [d1, d2, d3, d4] }
  | _ => none }
def FnExactCutToWrongFalsely : Prop := fnExactCutToRow.holds Try.pinned (OpenSpec.ofChange fnExactCutToWrong)

/-- 'laws.FnHeads': WHATEVER THE INPUT: true; the input reads as it did. -/
def fnHeadsSpec : ChangeSpec := { name := "fnHeads", fn := fun _ => fun
  | [d] => { results := [.lit (.bool true)], args := [d] }
  | _ => none }
def fnHeadsRow : OpenClaim := { program := "ytlkaalbhhnineaa", sum := "097e3a10c13500b6ba9662452531fb35a28c793d00e243f1908c27502a7375b9", func := "loop.example/g03306/laws.FnHeads", spec := "fnHeads", apart := false }
def FnHeadsSaid : Prop := fnHeadsRow.holds Try.pinned (OpenSpec.ofChange fnHeadsSpec)

/-- ITS FALSE NEIGHBOUR: 'it returns false'. Refute it at one input. -/
def fnHeadsWrong : ChangeSpec := { name := "fnHeads", fn := fun _ => fun
  | [d] => { results := [.lit (.bool false)], args := [d] }
  | _ => none }
def FnHeadsWrongFalsely : Prop := fnHeadsRow.holds Try.pinned (OpenSpec.ofChange fnHeadsWrong)

/-- 'laws.FnExactSmoothedBlock': WHATEVER THE INPUT: true; the input reads as it did. -/
def fnExactSmoothedBlockSpec : ChangeSpec := { name := "fnExactSmoothedBlock", fn := fun _ => fun
  | [d1, d2] => { results := [.lit (.bool true)], args := [d1, d2] }
  | _ => none }
def fnExactSmoothedBlockRow : OpenClaim := { program := "ytlkaalbhhnineaa", sum := "097e3a10c13500b6ba9662452531fb35a28c793d00e243f1908c27502a7375b9", func := "loop.example/g03306/laws.FnExactSmoothedBlock", spec := "fnExactSmoothedBlock", apart := false }
def FnExactSmoothedBlockSaid : Prop := fnExactSmoothedBlockRow.holds Try.pinned (OpenSpec.ofChange fnExactSmoothedBlockSpec)

/-- ITS FALSE NEIGHBOUR: 'it returns false'. Refute it at one input. -/
def fnExactSmoothedBlockWrong : ChangeSpec := { name := "fnExactSmoothedBlock", fn := fun _ => fun
  | [d1, d2] => { results := [.lit (.bool false)], args := [d1, d2] }
  | _ => none }
def FnExactSmoothedBlockWrongFalsely : Prop := fnExactSmoothedBlockRow.holds Try.pinned (OpenSpec.ofChange fnExactSmoothedBlockWrong)

/- THE SECOND FORM. 'bulk': how many values and letters a reading holds, each counted each time it is reached (what is shared counts as often as it is met; a slice's spare places count too). A statement '..UptoSaid' is the law's where the arguments, and the package variables that the reading takes, are together of bulk at most 1048576: NARROWER than '..Said'. Prove '..Said' where nothing that the law and all that it calls make is longer than what came in: it says more and counts as full. Else prove '..UptoSaid'. A law counts once. -/
mutual
def uptoBulk {H : Type} : DataW H → Nat
  | .lit (.string bytes) => bytes.length + 1
  | .lit _ => 1
  | .nil => 1
  | .ptr d => uptoBulk d + 1
  | .slice elems spare => uptoBulkAll elems + uptoBulkAll spare + 1
  | .agg parts => uptoBulkAll parts + 1
  | .iface _ d => uptoBulk d + 1
  | .map entries => uptoBulkEntries entries + 1
  | .held _ => 1
def uptoBulkAll {H : Type} : List (DataW H) → Nat
  | [] => 0
  | d :: r => uptoBulk d + uptoBulkAll r
def uptoBulkEntries {H : Type} : List (Lit × DataW H) → Nat
  | [] => 0
  | x :: r => uptoBulkEntry x + uptoBulkEntries r
def uptoBulkEntry {H : Type} : Lit × DataW H → Nat
  | (.string bytes, d) => bytes.length + uptoBulk d + 1
  | (_, d) => uptoBulk d + 1
 end
def uptoSmall : (H : Type) → List (DataW H) → Bool := fun _ ds => decide (uptoBulkAll ds ≤ 1048576)
def OpenSpec.upto (s : _root_.Go.ChangeSpec) : _root_.Go.OpenSpec := { _root_.Go.OpenSpec.ofChange s with cond := some uptoSmall }

/-- 'laws.FnExactBlockOk', WHERE WHAT IT READS IS OF BULK AT MOST 1048576: true; the input reads as it did. -/
def fnExactBlockOkUptoRow : OpenClaim := { program := "ytlkaalbhhnineaa", sum := "097e3a10c13500b6ba9662452531fb35a28c793d00e243f1908c27502a7375b9", func := "loop.example/g03306/laws.FnExactBlockOk", spec := "fnExactBlockOk", apart := false, narrowed := true }
def FnExactBlockOkUptoSaid : Prop := fnExactBlockOkUptoRow.holds Try.pinned (OpenSpec.upto fnExactBlockOkSpec)

/-- 'laws.FnExactWoodOf', WHERE WHAT IT READS IS OF BULK AT MOST 1048576: true; the input reads as it did. -/
def fnExactWoodOfUptoRow : OpenClaim := { program := "ytlkaalbhhnineaa", sum := "097e3a10c13500b6ba9662452531fb35a28c793d00e243f1908c27502a7375b9", func := "loop.example/g03306/laws.FnExactWoodOf", spec := "fnExactWoodOf", apart := false, narrowed := true }
def FnExactWoodOfUptoSaid : Prop := fnExactWoodOfUptoRow.holds Try.pinned (OpenSpec.upto fnExactWoodOfSpec)

/-- 'laws.FnExactCanCarve', WHERE WHAT IT READS IS OF BULK AT MOST 1048576: true; the input reads as it did. -/
def fnExactCanCarveUptoRow : OpenClaim := { program := "ytlkaalbhhnineaa", sum := "097e3a10c13500b6ba9662452531fb35a28c793d00e243f1908c27502a7375b9", func := "loop.example/g03306/laws.FnExactCanCarve", spec := "fnExactCanCarve", apart := false, narrowed := true }
def FnExactCanCarveUptoSaid : Prop := fnExactCanCarveUptoRow.holds Try.pinned (OpenSpec.upto fnExactCanCarveSpec)

/-- 'laws.FnExactSteepPlaces', WHERE WHAT IT READS IS OF BULK AT MOST 1048576: true; the input reads as it did. -/
def fnExactSteepPlacesUptoRow : OpenClaim := { program := "ytlkaalbhhnineaa", sum := "097e3a10c13500b6ba9662452531fb35a28c793d00e243f1908c27502a7375b9", func := "loop.example/g03306/laws.FnExactSteepPlaces", spec := "fnExactSteepPlaces", apart := false, narrowed := true }
def FnExactSteepPlacesUptoSaid : Prop := fnExactSteepPlacesUptoRow.holds Try.pinned (OpenSpec.upto fnExactSteepPlacesSpec)

/-- 'laws.FnExactCutsFor', WHERE WHAT IT READS IS OF BULK AT MOST 1048576: true; the input reads as it did. -/
def fnExactCutsForUptoRow : OpenClaim := { program := "ytlkaalbhhnineaa", sum := "097e3a10c13500b6ba9662452531fb35a28c793d00e243f1908c27502a7375b9", func := "loop.example/g03306/laws.FnExactCutsFor", spec := "fnExactCutsFor", apart := false, narrowed := true }
def FnExactCutsForUptoSaid : Prop := fnExactCutsForUptoRow.holds Try.pinned (OpenSpec.upto fnExactCutsForSpec)

/-- 'laws.FnExactCutTo', WHERE WHAT IT READS IS OF BULK AT MOST 1048576: true; the input reads as it did. -/
def fnExactCutToUptoRow : OpenClaim := { program := "ytlkaalbhhnineaa", sum := "097e3a10c13500b6ba9662452531fb35a28c793d00e243f1908c27502a7375b9", func := "loop.example/g03306/laws.FnExactCutTo", spec := "fnExactCutTo", apart := false, narrowed := true }
def FnExactCutToUptoSaid : Prop := fnExactCutToUptoRow.holds Try.pinned (OpenSpec.upto fnExactCutToSpec)

/-- 'laws.FnHeads', WHERE WHAT IT READS IS OF BULK AT MOST 1048576: true; the input reads as it did. -/
def fnHeadsUptoRow : OpenClaim := { program := "ytlkaalbhhnineaa", sum := "097e3a10c13500b6ba9662452531fb35a28c793d00e243f1908c27502a7375b9", func := "loop.example/g03306/laws.FnHeads", spec := "fnHeads", apart := false, narrowed := true }
def FnHeadsUptoSaid : Prop := fnHeadsUptoRow.holds Try.pinned (OpenSpec.upto fnHeadsSpec)

/-- 'laws.FnExactSmoothedBlock', WHERE WHAT IT READS IS OF BULK AT MOST 1048576: true; the input reads as it did. -/
def fnExactSmoothedBlockUptoRow : OpenClaim := { program := "ytlkaalbhhnineaa", sum := "097e3a10c13500b6ba9662452531fb35a28c793d00e243f1908c27502a7375b9", func := "loop.example/g03306/laws.FnExactSmoothedBlock", spec := "fnExactSmoothedBlock", apart := false, narrowed := true }
def FnExactSmoothedBlockUptoSaid : Prop := fnExactSmoothedBlockUptoRow.holds Try.pinned (OpenSpec.upto fnExactSmoothedBlockSpec)

end Rows
end Go.Proofs.Ytlkaalbhhnineaa
