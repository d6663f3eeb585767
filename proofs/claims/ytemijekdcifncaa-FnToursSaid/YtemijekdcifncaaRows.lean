/-
  No cell of these rows narrows 'for every input' (looked for: loops, veiled, ifaces, maps, wideKeys, modest, calm, conditions, laid).
  DERIVED. THE GIVEN ROWS OF THIS SEAT. 7 by the template 'for every input the law returns true; each argument reads behind the call as it read before'; 0 by the template 'total and deterministic' (their statements: YtemijekdcifncaaTotals.lean).
  GIVEN WITH THE SEED: the statements are not yours to turn. If you find one false, say at which input.
  Laid BY PROGRAM, IN A SANDBOX (cutbox-rows.mjs): the forced cells as the released guide's own fill.sh prints them over the translation fde502dd5451db64… (all of the seat's roots in one cut). By AI agents, Wed Nov 11 2026. No macro, syntax, notation, axiom, sorry.
-/
import Derived.Test.YtemijekdcifncaaChecked
import GoSem.Claim
import GoSem.ClaimJoined
import GoSem.ClaimMapViews
import Derived.JoinedTies
import Derived.KernelRfl
namespace Go.Proofs.Ytemijekdcifncaa
/- THE CELL 'sum', in the pinned program and in every row, IS THE sha256 OF THE DUMP (.gsa) THAT YtemijekdcifncaaProg.lean LOADS. Nothing in Lean hashes anything: it is a label: what it is worth is what the hold of that sum in a sandbox is worth. -/
noncomputable def Try.pinned : Pinned := { name := "ytemijekdcifncaa", sum := "fde502dd5451db648fb77a669b87752df13a63c6c563cc53a2a7649fb0558bf7", checked := Try.checked }
namespace Rows
def none {H : Type} : Left H := { results := [], args := [] }

/-- 'laws.FnExactTurnedTour': WHATEVER THE INPUT: true; the input reads as it did. -/
def fnExactTurnedTourSpec : ChangeSpec := { name := "fnExactTurnedTour", fn := fun _ => fun
  | [d] => { results := [.lit (.bool true)], args := [d] }
  | _ => none }
def fnExactTurnedTourRow : OpenClaim := { program := "ytemijekdcifncaa", sum := "fde502dd5451db648fb77a669b87752df13a63c6c563cc53a2a7649fb0558bf7", func := "loop.example/g03306/laws.FnExactTurnedTour", spec := "fnExactTurnedTour", apart := false }
def FnExactTurnedTourSaid : Prop := fnExactTurnedTourRow.holds Try.pinned (OpenSpec.ofChange fnExactTurnedTourSpec)

/-- ITS FALSE NEIGHBOUR: 'it returns false'. Refute it at one input. -/
def fnExactTurnedTourWrong : ChangeSpec := { name := "fnExactTurnedTour", fn := fun _ => fun
  | [d] => { results := [.lit (.bool false)], args := [d] }
  | _ => none }
def FnExactTurnedTourWrongFalsely : Prop := fnExactTurnedTourRow.holds Try.pinned (OpenSpec.ofChange fnExactTurnedTourWrong)

/-- 'laws.FnExactMapOk': WHATEVER THE INPUT: true; the input reads as it did. -/
def fnExactMapOkSpec : ChangeSpec := { name := "fnExactMapOk", fn := fun _ => fun
  | [d] => { results := [.lit (.bool true)], args := [d] }
  | _ => none }
def fnExactMapOkRow : OpenClaim := { program := "ytemijekdcifncaa", sum := "fde502dd5451db648fb77a669b87752df13a63c6c563cc53a2a7649fb0558bf7", func := "loop.example/g03306/laws.FnExactMapOk", spec := "fnExactMapOk", apart := false }
def FnExactMapOkSaid : Prop := fnExactMapOkRow.holds Try.pinned (OpenSpec.ofChange fnExactMapOkSpec)

/-- ITS FALSE NEIGHBOUR: 'it returns false'. Refute it at one input. -/
def fnExactMapOkWrong : ChangeSpec := { name := "fnExactMapOk", fn := fun _ => fun
  | [d] => { results := [.lit (.bool false)], args := [d] }
  | _ => none }
def FnExactMapOkWrongFalsely : Prop := fnExactMapOkRow.holds Try.pinned (OpenSpec.ofChange fnExactMapOkWrong)

/-- 'laws.FnExactHasShortcuts': WHATEVER THE INPUT: true; the input reads as it did. -/
def fnExactHasShortcutsSpec : ChangeSpec := { name := "fnExactHasShortcuts", fn := fun _ => fun
  | [d] => { results := [.lit (.bool true)], args := [d] }
  | _ => none }
def fnExactHasShortcutsRow : OpenClaim := { program := "ytemijekdcifncaa", sum := "fde502dd5451db648fb77a669b87752df13a63c6c563cc53a2a7649fb0558bf7", func := "loop.example/g03306/laws.FnExactHasShortcuts", spec := "fnExactHasShortcuts", apart := false }
def FnExactHasShortcutsSaid : Prop := fnExactHasShortcutsRow.holds Try.pinned (OpenSpec.ofChange fnExactHasShortcutsSpec)

/-- ITS FALSE NEIGHBOUR: 'it returns false'. Refute it at one input. -/
def fnExactHasShortcutsWrong : ChangeSpec := { name := "fnExactHasShortcuts", fn := fun _ => fun
  | [d] => { results := [.lit (.bool false)], args := [d] }
  | _ => none }
def FnExactHasShortcutsWrongFalsely : Prop := fnExactHasShortcutsRow.holds Try.pinned (OpenSpec.ofChange fnExactHasShortcutsWrong)

/-- 'laws.FnExactNearestTour': WHATEVER THE INPUT: true; the input reads as it did. -/
def fnExactNearestTourSpec : ChangeSpec := { name := "fnExactNearestTour", fn := fun _ => fun
  | [d] => { results := [.lit (.bool true)], args := [d] }
  | _ => none }
def fnExactNearestTourRow : OpenClaim := { program := "ytemijekdcifncaa", sum := "fde502dd5451db648fb77a669b87752df13a63c6c563cc53a2a7649fb0558bf7", func := "loop.example/g03306/laws.FnExactNearestTour", spec := "fnExactNearestTour", apart := false }
def FnExactNearestTourSaid : Prop := fnExactNearestTourRow.holds Try.pinned (OpenSpec.ofChange fnExactNearestTourSpec)

/-- ITS FALSE NEIGHBOUR: 'it returns false'. Refute it at one input. -/
def fnExactNearestTourWrong : ChangeSpec := { name := "fnExactNearestTour", fn := fun _ => fun
  | [d] => { results := [.lit (.bool false)], args := [d] }
  | _ => none }
def FnExactNearestTourWrongFalsely : Prop := fnExactNearestTourRow.holds Try.pinned (OpenSpec.ofChange fnExactNearestTourWrong)

/-- 'laws.FnExactTourLength': WHATEVER THE INPUT: true; the input reads as it did. -/
def fnExactTourLengthSpec : ChangeSpec := { name := "fnExactTourLength", fn := fun _ => fun
  | [d1, d2] => { results := [.lit (.bool true)], args := [d1, d2] }
  | _ => none }
def fnExactTourLengthRow : OpenClaim := { program := "ytemijekdcifncaa", sum := "fde502dd5451db648fb77a669b87752df13a63c6c563cc53a2a7649fb0558bf7", func := "loop.example/g03306/laws.FnExactTourLength", spec := "fnExactTourLength", apart := false }
def FnExactTourLengthSaid : Prop := fnExactTourLengthRow.holds Try.pinned (OpenSpec.ofChange fnExactTourLengthSpec)

/-- ITS FALSE NEIGHBOUR: 'it returns false'. Refute it at one input. -/
def fnExactTourLengthWrong : ChangeSpec := { name := "fnExactTourLength", fn := fun _ => fun
  | [d1, d2] => { results := [.lit (.bool false)], args := [d1, d2] }
  | _ => none }
def FnExactTourLengthWrongFalsely : Prop := fnExactTourLengthRow.holds Try.pinned (OpenSpec.ofChange fnExactTourLengthWrong)

/-- 'laws.FnTours': WHATEVER THE INPUT: true; the input reads as it did. -/
def fnToursSpec : ChangeSpec := { name := "fnTours", fn := fun _ => fun
  | [d] => { results := [.lit (.bool true)], args := [d] }
  | _ => none }
def fnToursRow : OpenClaim := { program := "ytemijekdcifncaa", sum := "fde502dd5451db648fb77a669b87752df13a63c6c563cc53a2a7649fb0558bf7", func := "loop.example/g03306/laws.FnTours", spec := "fnTours", unfollowed := true, recurses := true, apart := false }
def FnToursSaid : Prop := fnToursRow.holds Try.pinned (OpenSpec.ofChange fnToursSpec)

/-- ITS FALSE NEIGHBOUR: 'it returns false'. Refute it at one input. -/
def fnToursWrong : ChangeSpec := { name := "fnTours", fn := fun _ => fun
  | [d] => { results := [.lit (.bool false)], args := [d] }
  | _ => none }
def FnToursWrongFalsely : Prop := fnToursRow.holds Try.pinned (OpenSpec.ofChange fnToursWrong)

/-- 'laws.FnExactBestTour': WHATEVER THE INPUT: true; the input reads as it did. -/
def fnExactBestTourSpec : ChangeSpec := { name := "fnExactBestTour", fn := fun _ => fun
  | [d] => { results := [.lit (.bool true)], args := [d] }
  | _ => none }
def fnExactBestTourRow : OpenClaim := { program := "ytemijekdcifncaa", sum := "fde502dd5451db648fb77a669b87752df13a63c6c563cc53a2a7649fb0558bf7", func := "loop.example/g03306/laws.FnExactBestTour", spec := "fnExactBestTour", unfollowed := true, recurses := true, apart := false }
def FnExactBestTourSaid : Prop := fnExactBestTourRow.holds Try.pinned (OpenSpec.ofChange fnExactBestTourSpec)

/-- ITS FALSE NEIGHBOUR: 'it returns false'. Refute it at one input. -/
def fnExactBestTourWrong : ChangeSpec := { name := "fnExactBestTour", fn := fun _ => fun
  | [d] => { results := [.lit (.bool false)], args := [d] }
  | _ => none }
def FnExactBestTourWrongFalsely : Prop := fnExactBestTourRow.holds Try.pinned (OpenSpec.ofChange fnExactBestTourWrong)

/- THE SECOND FORM. 'bulk': how many values and letters a reading holds, each counted each time it is reached (what is shared counts as often as it is met; a slice's spare places count too). A statement '..UptoSaid' is the law's where the arguments, and the package variables that the reading takes, are together of bulk at most 1048576: NARROWER than '..Said'. Prove '..Said' where nothing that the law and all that it calls make is longer than what came in: it says more and counts as full. Else prove '..UptoSaid'. A law counts once. -/
mutual
def uptoBulk {H : Type} : DataW H → Nat
  | .lit (.string bytes) => bytes.length + 1
  | .lit _ => 1
  | .nil => 1
  | .ptr d => uptoBulk d + 1
  | .slice elems spare => uptoBulkAll elems + uptoBulkAll spare + 1
  | .agg parts => uptoBulkAll parts + 1
  | .iface _ d => uptoBulk d + 1
  | .map entries => uptoBulkEntries entries + 1
  | .held _ => 1
def uptoBulkAll {H : Type} : List (DataW H) → Nat
  | [] => 0
  | d :: r => uptoBulk d + uptoBulkAll r
def uptoBulkEntries {H : Type} : List (Lit × DataW H) → Nat
  | [] => 0
  | x :: r => uptoBulkEntry x + uptoBulkEntries r
def uptoBulkEntry {H : Type} : Lit × DataW H → Nat
  | (.string bytes, d) => bytes.length + uptoBulk d + 1
  | (_, d) => uptoBulk d + 1
 end
def uptoSmall : (H : Type) → List (DataW H) → Bool := fun _ ds => decide (uptoBulkAll ds ≤ 1048576)
def OpenSpec.upto (s : _root_.Go.ChangeSpec) : _root_.Go.OpenSpec := { _root_.Go.OpenSpec.ofChange s with cond := some uptoSmall }

/-- 'laws.FnExactTurnedTour', WHERE WHAT IT READS IS OF BULK AT MOST 1048576: true; the input reads as it did. -/
def fnExactTurnedTourUptoRow : OpenClaim := { program := "ytemijekdcifncaa", sum := "fde502dd5451db648fb77a669b87752df13a63c6c563cc53a2a7649fb0558bf7", func := "loop.example/g03306/laws.FnExactTurnedTour", spec := "fnExactTurnedTour", apart := false, narrowed := true }
def FnExactTurnedTourUptoSaid : Prop := fnExactTurnedTourUptoRow.holds Try.pinned (OpenSpec.upto fnExactTurnedTourSpec)

/-- 'laws.FnExactMapOk', WHERE WHAT IT READS IS OF BULK AT MOST 1048576: true; the input reads as it did. -/
def fnExactMapOkUptoRow : OpenClaim := { program := "ytemijekdcifncaa", sum := "fde502dd5451db648fb77a669b87752df13a63c6c563cc53a2a7649fb0558bf7", func := "loop.example/g03306/laws.FnExactMapOk", spec := "fnExactMapOk", apart := false, narrowed := true }
def FnExactMapOkUptoSaid : Prop := fnExactMapOkUptoRow.holds Try.pinned (OpenSpec.upto fnExactMapOkSpec)

/-- 'laws.FnExactHasShortcuts', WHERE WHAT IT READS IS OF BULK AT MOST 1048576: true; the input reads as it did. -/
def fnExactHasShortcutsUptoRow : OpenClaim := { program := "ytemijekdcifncaa", sum := "fde502dd5451db648fb77a669b87752df13a63c6c563cc53a2a7649fb0558bf7", func := "loop.example/g03306/laws.FnExactHasShortcuts", spec := "fnExactHasShortcuts", apart := false, narrowed := true }
def FnExactHasShortcutsUptoSaid : Prop := fnExactHasShortcutsUptoRow.holds Try.pinned (OpenSpec.upto fnExactHasShortcutsSpec)

/-- 'laws.FnExactNearestTour', WHERE WHAT IT READS IS OF BULK AT MOST 1048576: true; the input reads as it did. -/
def fnExactNearestTourUptoRow : OpenClaim := { program := "ytemijekdcifncaa", sum := "fde502dd5451db648fb77a669b87752df13a63c6c563cc53a2a7649fb0558bf7", func := "loop.example/g03306/laws.FnExactNearestTour", spec := "fnExactNearestTour", apart := false, narrowed := true }
def FnExactNearestTourUptoSaid : Prop := fnExactNearestTourUptoRow.holds Try.pinned (OpenSpec.upto fnExactNearestTourSpec)

/-- 'laws.FnExactTourLength', WHERE WHAT IT READS IS OF BULK AT MOST 1048576: true; the input reads as it did. -/
def fnExactTourLengthUptoRow : OpenClaim := { program := "ytemijekdcifncaa", sum := "fde502dd5451db648fb77a669b87752df13a63c6c563cc53a2a7649fb0558bf7", func := "loop.example/g03306/laws.FnExactTourLength", spec := "fnExactTourLength", apart := false, narrowed := true }
def FnExactTourLengthUptoSaid : Prop := fnExactTourLengthUptoRow.holds Try.pinned (OpenSpec.upto fnExactTourLengthSpec)

/-- 'laws.FnTours', WHERE WHAT IT READS IS OF BULK AT MOST 1048576: true; the input reads as it did. -/
def fnToursUptoRow : OpenClaim := { program := "ytemijekdcifncaa", sum := "fde502dd5451db648fb77a669b87752df13a63c6c563cc53a2a7649fb0558bf7", func := "loop.example/g03306/laws.FnTours", spec := "fnTours", unfollowed := true, recurses := true, apart := false, narrowed := true }
def FnToursUptoSaid : Prop := fnToursUptoRow.holds Try.pinned (OpenSpec.upto fnToursSpec)

/-- 'laws.FnExactBestTour', WHERE WHAT IT READS IS OF BULK AT MOST 1048576: true; the input reads as it did. -/
def fnExactBestTourUptoRow : OpenClaim := { program := "ytemijekdcifncaa", sum := "fde502dd5451db648fb77a669b87752df13a63c6c563cc53a2a7649fb0558bf7", func := "loop.example/g03306/laws.FnExactBestTour", spec := "fnExactBestTour", unfollowed := true, recurses := true, apart := false, narrowed := true }
def FnExactBestTourUptoSaid : Prop := fnExactBestTourUptoRow.holds Try.pinned (OpenSpec.upto fnExactBestTourSpec)

end Rows
end Go.Proofs.Ytemijekdcifncaa
