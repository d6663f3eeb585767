/-
  No cell of these rows narrows 'for every input' (looked for: loops, veiled, ifaces, maps, wideKeys, modest, calm, conditions, laid).
  DERIVED. THE GIVEN ROWS OF THIS SEAT. 11 by the template 'for every input the law returns true; each argument reads behind the call as it read before'; 0 by the template 'total and deterministic' (their statements: YtjifdheaeopdfaaTotals.lean).
  GIVEN WITH THE SEED: the statements are not yours to turn. If you find one false, say at which input.
  Laid BY PROGRAM, IN A SANDBOX (cutbox-rows.mjs): the forced cells as the released guide's own fill.sh prints them over the translation 1033abcce186e360… (all of the seat's roots in one cut). By AI agents, Wed Nov 11 2026. No macro, syntax, notation, axiom, sorry.
-/
import Derived.Test.YtjifdheaeopdfaaChecked
import GoSem.Claim
import GoSem.ClaimJoined
import GoSem.ClaimMapViews
import Derived.JoinedTies
import Derived.KernelRfl
namespace Go.Proofs.Ytjifdheaeopdfaa
/- THE CELL 'sum', in the pinned program and in every row, IS THE sha256 OF THE DUMP (.gsa) THAT YtjifdheaeopdfaaProg.lean LOADS. Nothing in Lean hashes anything: it is a label: what it is worth is what the hold of that sum in a sandbox is worth. -/
noncomputable def Try.pinned : Pinned := { name := "ytjifdheaeopdfaa", sum := "1033abcce186e360f5ca6a6750a37cc77b47e3722f663cad68dfea7f2ca526bd", checked := Try.checked }
namespace Rows
def none {H : Type} : Left H := { results := [], args := [] }

/-- 'laws.FnExactDelayOf': WHATEVER THE INPUT: true; the input reads as it did. -/
def fnExactDelayOfSpec : ChangeSpec := { name := "fnExactDelayOf", fn := fun _ => fun
  | [d] => { results := [.lit (.bool true)], args := [d] }
  | _ => none }
def fnExactDelayOfRow : OpenClaim := { program := "ytjifdheaeopdfaa", sum := "1033abcce186e360f5ca6a6750a37cc77b47e3722f663cad68dfea7f2ca526bd", func := "loop.example/g03306/laws.FnExactDelayOf", spec := "fnExactDelayOf", apart := false }
def FnExactDelayOfSaid : Prop := fnExactDelayOfRow.holds Try.pinned (OpenSpec.ofChange fnExactDelayOfSpec)

/-- ITS FALSE NEIGHBOUR: 'it returns false'. Refute it at one input. -/
def fnExactDelayOfWrong : ChangeSpec := { name := "fnExactDelayOf", fn := fun _ => fun
  | [d] => { results := [.lit (.bool false)], args := [d] }
  | _ => none }
def FnExactDelayOfWrongFalsely : Prop := fnExactDelayOfRow.holds Try.pinned (OpenSpec.ofChange fnExactDelayOfWrong)

/-- 'laws.FnExactEchoGap': WHATEVER THE INPUT: true; the input reads as it did. -/
def fnExactEchoGapSpec : ChangeSpec := { name := "fnExactEchoGap", fn := fun _ => fun
  | [d1, d2] => { results := [.lit (.bool true)], args := [d1, d2] }
  | _ => none }
def fnExactEchoGapRow : OpenClaim := { program := "ytjifdheaeopdfaa", sum := "1033abcce186e360f5ca6a6750a37cc77b47e3722f663cad68dfea7f2ca526bd", func := "loop.example/g03306/laws.FnExactEchoGap", spec := "fnExactEchoGap", apart := false }
def FnExactEchoGapSaid : Prop := fnExactEchoGapRow.holds Try.pinned (OpenSpec.ofChange fnExactEchoGapSpec)

/-- ITS FALSE NEIGHBOUR: 'it returns false'. Refute it at one input. -/
def fnExactEchoGapWrong : ChangeSpec := { name := "fnExactEchoGap", fn := fun _ => fun
  | [d1, d2] => { results := [.lit (.bool false)], args := [d1, d2] }
  | _ => none }
def FnExactEchoGapWrongFalsely : Prop := fnExactEchoGapRow.holds Try.pinned (OpenSpec.ofChange fnExactEchoGapWrong)

/-- 'laws.FnExactIsEcho': WHATEVER THE INPUT: true; the input reads as it did. -/
def fnExactIsEchoSpec : ChangeSpec := { name := "fnExactIsEcho", fn := fun _ => fun
  | [d1, d2] => { results := [.lit (.bool true)], args := [d1, d2] }
  | _ => none }
def fnExactIsEchoRow : OpenClaim := { program := "ytjifdheaeopdfaa", sum := "1033abcce186e360f5ca6a6750a37cc77b47e3722f663cad68dfea7f2ca526bd", func := "loop.example/g03306/laws.FnExactIsEcho", spec := "fnExactIsEcho", apart := false }
def FnExactIsEchoSaid : Prop := fnExactIsEchoRow.holds Try.pinned (OpenSpec.ofChange fnExactIsEchoSpec)

/-- ITS FALSE NEIGHBOUR: 'it returns false'. Refute it at one input. -/
def fnExactIsEchoWrong : ChangeSpec := { name := "fnExactIsEcho", fn := fun _ => fun
  | [d1, d2] => { results := [.lit (.bool false)], args := [d1, d2] }
  | _ => none }
def FnExactIsEchoWrongFalsely : Prop := fnExactIsEchoRow.holds Try.pinned (OpenSpec.ofChange fnExactIsEchoWrong)

/-- 'laws.FnExactQuietestSeat': WHATEVER THE INPUT: true; the input reads as it did. -/
def fnExactQuietestSeatSpec : ChangeSpec := { name := "fnExactQuietestSeat", fn := fun _ => fun
  | [d1, d2] => { results := [.lit (.bool true)], args := [d1, d2] }
  | _ => none }
def fnExactQuietestSeatRow : OpenClaim := { program := "ytjifdheaeopdfaa", sum := "1033abcce186e360f5ca6a6750a37cc77b47e3722f663cad68dfea7f2ca526bd", func := "loop.example/g03306/laws.FnExactQuietestSeat", spec := "fnExactQuietestSeat", apart := false }
def FnExactQuietestSeatSaid : Prop := fnExactQuietestSeatRow.holds Try.pinned (OpenSpec.ofChange fnExactQuietestSeatSpec)

/-- ITS FALSE NEIGHBOUR: 'it returns false'. Refute it at one input. -/
def fnExactQuietestSeatWrong : ChangeSpec := { name := "fnExactQuietestSeat", fn := fun _ => fun
  | [d1, d2] => { results := [.lit (.bool false)], args := [d1, d2] }
  | _ => none }
def FnExactQuietestSeatWrongFalsely : Prop := fnExactQuietestSeatRow.holds Try.pinned (OpenSpec.ofChange fnExactQuietestSeatWrong)

/-- 'laws.FnExactMixLevels': WHATEVER THE INPUT: true; the input reads as it did. -/
def fnExactMixLevelsSpec : ChangeSpec := { name := "fnExactMixLevels", fn := fun _ => fun
  | [d] => { results := [.lit (.bool true)], args := [d] }
  | _ => none }
def fnExactMixLevelsRow : OpenClaim := { program := "ytjifdheaeopdfaa", sum := "1033abcce186e360f5ca6a6750a37cc77b47e3722f663cad68dfea7f2ca526bd", func := "loop.example/g03306/laws.FnExactMixLevels", spec := "fnExactMixLevels", apart := false }
def FnExactMixLevelsSaid : Prop := fnExactMixLevelsRow.holds Try.pinned (OpenSpec.ofChange fnExactMixLevelsSpec)

/-- ITS FALSE NEIGHBOUR: 'it returns false'. Refute it at one input. -/
def fnExactMixLevelsWrong : ChangeSpec := { name := "fnExactMixLevels", fn := fun _ => fun
  | [d] => { results := [.lit (.bool false)], args := [d] }
  | _ => none }
def FnExactMixLevelsWrongFalsely : Prop := fnExactMixLevelsRow.holds Try.pinned (OpenSpec.ofChange fnExactMixLevelsWrong)

/-- 'laws.FnSounds': WHATEVER THE INPUT: true; the input reads as it did. -/
def fnSoundsSpec : ChangeSpec := { name := "fnSounds", fn := fun _ => fun
  | [d] => { results := [.lit (.bool true)], args := [d] }
  | _ => none }
def fnSoundsRow : OpenClaim := { program := "ytjifdheaeopdfaa", sum := "1033abcce186e360f5ca6a6750a37cc77b47e3722f663cad68dfea7f2ca526bd", func := "loop.example/g03306/laws.FnSounds", spec := "fnSounds", apart := false }
def FnSoundsSaid : Prop := fnSoundsRow.holds Try.pinned (OpenSpec.ofChange fnSoundsSpec)

/-- ITS FALSE NEIGHBOUR: 'it returns false'. Refute it at one input. -/
def fnSoundsWrong : ChangeSpec := { name := "fnSounds", fn := fun _ => fun
  | [d] => { results := [.lit (.bool false)], args := [d] }
  | _ => none }
def FnSoundsWrongFalsely : Prop := fnSoundsRow.holds Try.pinned (OpenSpec.ofChange fnSoundsWrong)

/-- 'laws.FnExactPriceOf': WHATEVER THE INPUT: true; the input reads as it did. -/
def fnExactPriceOfSpec : ChangeSpec := { name := "fnExactPriceOf", fn := fun _ => fun
  | [d1, d2] => { results := [.lit (.bool true)], args := [d1, d2] }
  | _ => none }
def fnExactPriceOfRow : OpenClaim := { program := "ytjifdheaeopdfaa", sum := "1033abcce186e360f5ca6a6750a37cc77b47e3722f663cad68dfea7f2ca526bd", func := "loop.example/g03306/laws.FnExactPriceOf", spec := "fnExactPriceOf", apart := false }
def FnExactPriceOfSaid : Prop := fnExactPriceOfRow.holds Try.pinned (OpenSpec.ofChange fnExactPriceOfSpec)

/-- ITS FALSE NEIGHBOUR: 'it returns false'. Refute it at one input. -/
def fnExactPriceOfWrong : ChangeSpec := { name := "fnExactPriceOf", fn := fun _ => fun
  | [d1, d2] => { results := [.lit (.bool false)], args := [d1, d2] }
  | _ => none }
def FnExactPriceOfWrongFalsely : Prop := fnExactPriceOfRow.holds Try.pinned (OpenSpec.ofChange fnExactPriceOfWrong)

/-- 'laws.FnExactFewestPieces': WHATEVER THE INPUT: true; the input reads as it did. -/
def fnExactFewestPiecesSpec : ChangeSpec := { name := "fnExactFewestPieces", fn := fun _ => fun
  | [d] => { results := [.lit (.bool true)], args := [d] }
  | _ => none }
def fnExactFewestPiecesRow : OpenClaim := { program := "ytjifdheaeopdfaa", sum := "1033abcce186e360f5ca6a6750a37cc77b47e3722f663cad68dfea7f2ca526bd", func := "loop.example/g03306/laws.FnExactFewestPieces", spec := "fnExactFewestPieces", apart := false }
def FnExactFewestPiecesSaid : Prop := fnExactFewestPiecesRow.holds Try.pinned (OpenSpec.ofChange fnExactFewestPiecesSpec)

/-- ITS FALSE NEIGHBOUR: 'it returns false'. Refute it at one input. -/
def fnExactFewestPiecesWrong : ChangeSpec := { name := "fnExactFewestPieces", fn := fun _ => fun
  | [d] => { results := [.lit (.bool false)], args := [d] }
  | _ => none }
def FnExactFewestPiecesWrongFalsely : Prop := fnExactFewestPiecesRow.holds Try.pinned (OpenSpec.ofChange fnExactFewestPiecesWrong)

/-- 'laws.FnExactChangeFor': WHATEVER THE INPUT: true; the input reads as it did. -/
def fnExactChangeForSpec : ChangeSpec := { name := "fnExactChangeFor", fn := fun _ => fun
  | [d1, d2] => { results := [.lit (.bool true)], args := [d1, d2] }
  | _ => none }
def fnExactChangeForRow : OpenClaim := { program := "ytjifdheaeopdfaa", sum := "1033abcce186e360f5ca6a6750a37cc77b47e3722f663cad68dfea7f2ca526bd", func := "loop.example/g03306/laws.FnExactChangeFor", spec := "fnExactChangeFor", apart := false }
def FnExactChangeForSaid : Prop := fnExactChangeForRow.holds Try.pinned (OpenSpec.ofChange fnExactChangeForSpec)

/-- ITS FALSE NEIGHBOUR: 'it returns false'. Refute it at one input. -/
def fnExactChangeForWrong : ChangeSpec := { name := "fnExactChangeFor", fn := fun _ => fun
  | [d1, d2] => { results := [.lit (.bool false)], args := [d1, d2] }
  | _ => none }
def FnExactChangeForWrongFalsely : Prop := fnExactChangeForRow.holds Try.pinned (OpenSpec.ofChange fnExactChangeForWrong)

/-- 'laws.FnExactCanPay': WHATEVER THE INPUT: true; the input reads as it did. -/
def fnExactCanPaySpec : ChangeSpec := { name := "fnExactCanPay", fn := fun _ => fun
  | [d1, d2] => { results := [.lit (.bool true)], args := [d1, d2] }
  | _ => none }
def fnExactCanPayRow : OpenClaim := { program := "ytjifdheaeopdfaa", sum := "1033abcce186e360f5ca6a6750a37cc77b47e3722f663cad68dfea7f2ca526bd", func := "loop.example/g03306/laws.FnExactCanPay", spec := "fnExactCanPay", apart := false }
def FnExactCanPaySaid : Prop := fnExactCanPayRow.holds Try.pinned (OpenSpec.ofChange fnExactCanPaySpec)

/-- ITS FALSE NEIGHBOUR: 'it returns false'. Refute it at one input. -/
def fnExactCanPayWrong : ChangeSpec := { name := "fnExactCanPay", fn := fun _ => fun
  | [d1, d2] => { results := [.lit (.bool false)], args := [d1, d2] }
  | _ => none }
def FnExactCanPayWrongFalsely : Prop := fnExactCanPayRow.holds Try.pinned (OpenSpec.ofChange fnExactCanPayWrong)

/-- 'laws.FnExactGroupPrice': WHATEVER THE INPUT: true; the input reads as it did. -/
def fnExactGroupPriceSpec : ChangeSpec := { name := "fnExactGroupPrice", fn := fun _ => fun
  | [d1, d2] => { results := [.lit (.bool true)], args := [d1, d2] }
  | _ => none }
def fnExactGroupPriceRow : OpenClaim := { program := "ytjifdheaeopdfaa", sum := "1033abcce186e360f5ca6a6750a37cc77b47e3722f663cad68dfea7f2ca526bd", func := "loop.example/g03306/laws.FnExactGroupPrice", spec := "fnExactGroupPrice", apart := false }
def FnExactGroupPriceSaid : Prop := fnExactGroupPriceRow.holds Try.pinned (OpenSpec.ofChange fnExactGroupPriceSpec)

/-- ITS FALSE NEIGHBOUR: 'it returns false'. Refute it at one input. -/
def fnExactGroupPriceWrong : ChangeSpec := { name := "fnExactGroupPrice", fn := fun _ => fun
  | [d1, d2] => { results := [.lit (.bool false)], args := [d1, d2] }
  | _ => none }
def FnExactGroupPriceWrongFalsely : Prop := fnExactGroupPriceRow.holds Try.pinned (OpenSpec.ofChange fnExactGroupPriceWrong)

/- THE SECOND FORM. 'bulk': how many values and letters a reading holds, each counted each time it is reached (what is shared counts as often as it is met; a slice's spare places count too). A statement '..UptoSaid' is the law's where the arguments, and the package variables that the reading takes, are together of bulk at most 1048576: NARROWER than '..Said'. Prove '..Said' where nothing that the law and all that it calls make is longer than what came in: it says more and counts as full. Else prove '..UptoSaid'. A law counts once. -/
mutual
def uptoBulk {H : Type} : DataW H → Nat
  | .lit (.string bytes) => bytes.length + 1
  | .lit _ => 1
  | .nil => 1
  | .ptr d => uptoBulk d + 1
  | .slice elems spare => uptoBulkAll elems + uptoBulkAll spare + 1
  | .agg parts => uptoBulkAll parts + 1
  | .iface _ d => uptoBulk d + 1
  | .map entries => uptoBulkEntries entries + 1
  | .held _ => 1
def uptoBulkAll {H : Type} : List (DataW H) → Nat
  | [] => 0
  | d :: r => uptoBulk d + uptoBulkAll r
def uptoBulkEntries {H : Type} : List (Lit × DataW H) → Nat
  | [] => 0
  | x :: r => uptoBulkEntry x + uptoBulkEntries r
def uptoBulkEntry {H : Type} : Lit × DataW H → Nat
  | (.string bytes, d) => bytes.length + uptoBulk d + 1
  | (_, d) => uptoBulk d + 1
 end
def uptoSmall : (H : Type) → List (DataW H) → Bool := fun _ ds => decide (uptoBulkAll ds ≤ 1048576)
def OpenSpec.upto (s : _root_.Go.ChangeSpec) : _root_.Go.OpenSpec := { _root_.Go.OpenSpec.ofChange s with cond := some uptoSmall }

/-- 'laws.FnExactDelayOf', WHERE WHAT IT READS IS OF BULK AT MOST 1048576: true; the input reads as it did. -/
def fnExactDelayOfUptoRow : OpenClaim := { program := "ytjifdheaeopdfaa", sum := "1033abcce186e360f5ca6a6750a37cc77b47e3722f663cad68dfea7f2ca526bd", func := "loop.example/g03306/laws.FnExactDelayOf", spec := "fnExactDelayOf", apart := false, narrowed := true }
def FnExactDelayOfUptoSaid : Prop := fnExactDelayOfUptoRow.holds Try.pinned (OpenSpec.upto fnExactDelayOfSpec)

/-- 'laws.FnExactEchoGap', WHERE WHAT IT READS IS OF BULK AT MOST 1048576: true; the input reads as it did. -/
def fnExactEchoGapUptoRow : OpenClaim := { program := "ytjifdheaeopdfaa", sum := "1033abcce186e360f5ca6a6750a37cc77b47e3722f663cad68dfea7f2ca526bd", func := "loop.example/g03306/laws.FnExactEchoGap", spec := "fnExactEchoGap", apart := false, narrowed := true }
def FnExactEchoGapUptoSaid : Prop := fnExactEchoGapUptoRow.holds Try.pinned (OpenSpec.upto fnExactEchoGapSpec)

/-- 'laws.FnExactIsEcho', WHERE WHAT IT READS IS OF BULK AT MOST 1048576: true; the input reads as it did. -/
def fnExactIsEchoUptoRow : OpenClaim := { program := "ytjifdheaeopdfaa", sum := "1033abcce186e360f5ca6a6750a37cc77b47e3722f663cad68dfea7f2ca526bd", func := "loop.example/g03306/laws.FnExactIsEcho", spec := "fnExactIsEcho", apart := false, narrowed := true }
def FnExactIsEchoUptoSaid : Prop := fnExactIsEchoUptoRow.holds Try.pinned (OpenSpec.upto fnExactIsEchoSpec)

/-- 'laws.FnExactQuietestSeat', WHERE WHAT IT READS IS OF BULK AT MOST 1048576: true; the input reads as it did. -/
def fnExactQuietestSeatUptoRow : OpenClaim := { program := "ytjifdheaeopdfaa", sum := "1033abcce186e360f5ca6a6750a37cc77b47e3722f663cad68dfea7f2ca526bd", func := "loop.example/g03306/laws.FnExactQuietestSeat", spec := "fnExactQuietestSeat", apart := false, narrowed := true }
def FnExactQuietestSeatUptoSaid : Prop := fnExactQuietestSeatUptoRow.holds Try.pinned (OpenSpec.upto fnExactQuietestSeatSpec)

/-- 'laws.FnExactMixLevels', WHERE WHAT IT READS IS OF BULK AT MOST 1048576: true; the input reads as it did. -/
def fnExactMixLevelsUptoRow : OpenClaim := { program := "ytjifdheaeopdfaa", sum := "1033abcce186e360f5ca6a6750a37cc77b47e3722f663cad68dfea7f2ca526bd", func := "loop.example/g03306/laws.FnExactMixLevels", spec := "fnExactMixLevels", apart := false, narrowed := true }
def FnExactMixLevelsUptoSaid : Prop := fnExactMixLevelsUptoRow.holds Try.pinned (OpenSpec.upto fnExactMixLevelsSpec)

/-- 'laws.FnSounds', WHERE WHAT IT READS IS OF BULK AT MOST 1048576: true; the input reads as it did. -/
def fnSoundsUptoRow : OpenClaim := { program := "ytjifdheaeopdfaa", sum := "1033abcce186e360f5ca6a6750a37cc77b47e3722f663cad68dfea7f2ca526bd", func := "loop.example/g03306/laws.FnSounds", spec := "fnSounds", apart := false, narrowed := true }
def FnSoundsUptoSaid : Prop := fnSoundsUptoRow.holds Try.pinned (OpenSpec.upto fnSoundsSpec)

/-- 'laws.FnExactPriceOf', WHERE WHAT IT READS IS OF BULK AT MOST 1048576: true; the input reads as it did. -/
def fnExactPriceOfUptoRow : OpenClaim := { program := "ytjifdheaeopdfaa", sum := "1033abcce186e360f5ca6a6750a37cc77b47e3722f663cad68dfea7f2ca526bd", func := "loop.example/g03306/laws.FnExactPriceOf", spec := "fnExactPriceOf", apart := false, narrowed := true }
def FnExactPriceOfUptoSaid : Prop := fnExactPriceOfUptoRow.holds Try.pinned (OpenSpec.upto fnExactPriceOfSpec)

/-- 'laws.FnExactFewestPieces', WHERE WHAT IT READS IS OF BULK AT MOST 1048576: true; the input reads as it did. -/
def fnExactFewestPiecesUptoRow : OpenClaim := { program := "ytjifdheaeopdfaa", sum := "1033abcce186e360f5ca6a6750a37cc77b47e3722f663cad68dfea7f2ca526bd", func := "loop.example/g03306/laws.FnExactFewestPieces", spec := "fnExactFewestPieces", apart := false, narrowed := true }
def FnExactFewestPiecesUptoSaid : Prop := fnExactFewestPiecesUptoRow.holds Try.pinned (OpenSpec.upto fnExactFewestPiecesSpec)

/-- 'laws.FnExactChangeFor', WHERE WHAT IT READS IS OF BULK AT MOST 1048576: true; the input reads as it did. -/
def fnExactChangeForUptoRow : OpenClaim := { program := "ytjifdheaeopdfaa", sum := "1033abcce186e360f5ca6a6750a37cc77b47e3722f663cad68dfea7f2ca526bd", func := "loop.example/g03306/laws.FnExactChangeFor", spec := "fnExactChangeFor", apart := false, narrowed := true }
def FnExactChangeForUptoSaid : Prop := fnExactChangeForUptoRow.holds Try.pinned (OpenSpec.upto fnExactChangeForSpec)

/-- 'laws.FnExactCanPay', WHERE WHAT IT READS IS OF BULK AT MOST 1048576: true; the input reads as it did. -/
def fnExactCanPayUptoRow : OpenClaim := { program := "ytjifdheaeopdfaa", sum := "1033abcce186e360f5ca6a6750a37cc77b47e3722f663cad68dfea7f2ca526bd", func := "loop.example/g03306/laws.FnExactCanPay", spec := "fnExactCanPay", apart := false, narrowed := true }
def FnExactCanPayUptoSaid : Prop := fnExactCanPayUptoRow.holds Try.pinned (OpenSpec.upto fnExactCanPaySpec)

/-- 'laws.FnExactGroupPrice', WHERE WHAT IT READS IS OF BULK AT MOST 1048576: true; the input reads as it did. -/
def fnExactGroupPriceUptoRow : OpenClaim := { program := "ytjifdheaeopdfaa", sum := "1033abcce186e360f5ca6a6750a37cc77b47e3722f663cad68dfea7f2ca526bd", func := "loop.example/g03306/laws.FnExactGroupPrice", spec := "fnExactGroupPrice", apart := false, narrowed := true }
def FnExactGroupPriceUptoSaid : Prop := fnExactGroupPriceUptoRow.holds Try.pinned (OpenSpec.upto fnExactGroupPriceSpec)

end Rows
end Go.Proofs.Ytjifdheaeopdfaa
