/-
  No cell of these rows narrows 'for every input' (looked for: loops, veiled, ifaces, maps, wideKeys, modest, calm, conditions, laid).
  DERIVED. THE GIVEN ROWS OF THIS SEAT. 6 by the template 'for every input the law returns true; each argument reads behind the call as it read before'; 0 by the template 'total and deterministic' (their statements: YtiibegilolijlaaTotals.lean).
  GIVEN WITH THE SEED: the statements are not yours to turn. If you find one false, say at which input.
  Laid BY PROGRAM, IN A SANDBOX (cutbox-rows.mjs): the forced cells as the released guide's own fill.sh prints them over the translation e5eba260dff93235… (all of the seat's roots in one cut). By AI agents, Wed Nov 11 2026. No macro, syntax, notation, axiom, sorry.
-/
import Derived.Test.YtiibegilolijlaaChecked
import GoSem.Claim
import GoSem.ClaimJoined
import GoSem.ClaimMapViews
import Derived.JoinedTies
import Derived.KernelRfl
namespace Go.Proofs.Ytiibegilolijlaa
/- THE CELL 'sum', in the pinned program and in every row, IS THE sha256 OF THE DUMP (.gsa) THAT YtiibegilolijlaaProg.lean LOADS. Nothing in Lean hashes anything: it is a label: what it is worth is what the hold of that sum in a sandbox is worth. -/
noncomputable def Try.pinned : Pinned := { name := "ytiibegilolijlaa", sum := "e5eba260dff9323527304b9a679020eae2435ba01f51ba52e120cd19e9f71801", checked := Try.checked }
namespace Rows
def none {H : Type} : Left H := { results := [], args := [] }

/-- 'laws.FnExactFadesOk': WHATEVER THE INPUT: true; the input reads as it did. -/
def fnExactFadesOkSpec : ChangeSpec := { name := "fnExactFadesOk", fn := fun _ => fun
  | [d] => { results := [.lit (.bool true)], args := [d] }
  | _ => none }
def fnExactFadesOkRow : OpenClaim := { program := "ytiibegilolijlaa", sum := "e5eba260dff9323527304b9a679020eae2435ba01f51ba52e120cd19e9f71801", func := "loop.example/g03306/laws.FnExactFadesOk", spec := "fnExactFadesOk", apart := false }
def FnExactFadesOkSaid : Prop := fnExactFadesOkRow.holds Try.pinned (OpenSpec.ofChange fnExactFadesOkSpec)

/-- ITS FALSE NEIGHBOUR: 'it returns false'. Refute it at one input. -/
def fnExactFadesOkWrong : ChangeSpec := { name := "fnExactFadesOk", fn := fun _ => fun
  | [d] => { results := [.lit (.bool false)], args := [d] }
  | _ => none }
def FnExactFadesOkWrongFalsely : Prop := fnExactFadesOkRow.holds Try.pinned (OpenSpec.ofChange fnExactFadesOkWrong)

/-- 'laws.FnExactLevelAt': WHATEVER THE INPUT: true; the input reads as it did. -/
def fnExactLevelAtSpec : ChangeSpec := { name := "fnExactLevelAt", fn := fun _ => fun
  | [d1, d2, d3] => { results := [.lit (.bool true)], args := [d1, d2, d3] }
  | _ => none }
def fnExactLevelAtRow : OpenClaim := { program := "ytiibegilolijlaa", sum := "e5eba260dff9323527304b9a679020eae2435ba01f51ba52e120cd19e9f71801", func := "loop.example/g03306/laws.FnExactLevelAt", spec := "fnExactLevelAt", apart := false }
def FnExactLevelAtSaid : Prop := fnExactLevelAtRow.holds Try.pinned (OpenSpec.ofChange fnExactLevelAtSpec)

/-- ITS FALSE NEIGHBOUR: 'it returns false'. Refute it at one input. -/
def fnExactLevelAtWrong : ChangeSpec := { name := "fnExactLevelAt", fn := fun _ => fun
  | [d1, d2, d3] => { results := [.lit (.bool false)], args := [d1, d2, d3] }
  | _ => none }
def FnExactLevelAtWrongFalsely : Prop := fnExactLevelAtRow.holds Try.pinned (OpenSpec.ofChange fnExactLevelAtWrong)

/-- 'laws.FnLights': WHATEVER THE INPUT: true; the input reads as it did. -/
def fnLightsSpec : ChangeSpec := { name := "fnLights", fn := fun _ => fun
  | [d] => { results := [.lit (.bool true)], args := [d] }
  | _ => none }
def fnLightsRow : OpenClaim := { program := "ytiibegilolijlaa", sum := "e5eba260dff9323527304b9a679020eae2435ba01f51ba52e120cd19e9f71801", func := "loop.example/g03306/laws.FnLights", spec := "fnLights", apart := false }
def FnLightsSaid : Prop := fnLightsRow.holds Try.pinned (OpenSpec.ofChange fnLightsSpec)

/-- ITS FALSE NEIGHBOUR: 'it returns false'. Refute it at one input. -/
def fnLightsWrong : ChangeSpec := { name := "fnLights", fn := fun _ => fun
  | [d] => { results := [.lit (.bool false)], args := [d] }
  | _ => none }
def FnLightsWrongFalsely : Prop := fnLightsRow.holds Try.pinned (OpenSpec.ofChange fnLightsWrong)

/-- 'laws.FnExactPowerAt': WHATEVER THE INPUT: true; the input reads as it did. -/
def fnExactPowerAtSpec : ChangeSpec := { name := "fnExactPowerAt", fn := fun _ => fun
  | [d1, d2, d3] => { results := [.lit (.bool true)], args := [d1, d2, d3] }
  | _ => none }
def fnExactPowerAtRow : OpenClaim := { program := "ytiibegilolijlaa", sum := "e5eba260dff9323527304b9a679020eae2435ba01f51ba52e120cd19e9f71801", func := "loop.example/g03306/laws.FnExactPowerAt", spec := "fnExactPowerAt", apart := false }
def FnExactPowerAtSaid : Prop := fnExactPowerAtRow.holds Try.pinned (OpenSpec.ofChange fnExactPowerAtSpec)

/-- ITS FALSE NEIGHBOUR: 'it returns false'. Refute it at one input. -/
def fnExactPowerAtWrong : ChangeSpec := { name := "fnExactPowerAt", fn := fun _ => fun
  | [d1, d2, d3] => { results := [.lit (.bool false)], args := [d1, d2, d3] }
  | _ => none }
def FnExactPowerAtWrongFalsely : Prop := fnExactPowerAtRow.holds Try.pinned (OpenSpec.ofChange fnExactPowerAtWrong)

/-- 'laws.FnExactMostPower': WHATEVER THE INPUT: true; the input reads as it did. -/
def fnExactMostPowerSpec : ChangeSpec := { name := "fnExactMostPower", fn := fun _ => fun
  | [d1, d2] => { results := [.lit (.bool true)], args := [d1, d2] }
  | _ => none }
def fnExactMostPowerRow : OpenClaim := { program := "ytiibegilolijlaa", sum := "e5eba260dff9323527304b9a679020eae2435ba01f51ba52e120cd19e9f71801", func := "loop.example/g03306/laws.FnExactMostPower", spec := "fnExactMostPower", apart := false }
def FnExactMostPowerSaid : Prop := fnExactMostPowerRow.holds Try.pinned (OpenSpec.ofChange fnExactMostPowerSpec)

/-- ITS FALSE NEIGHBOUR: 'it returns false'. Refute it at one input. -/
def fnExactMostPowerWrong : ChangeSpec := { name := "fnExactMostPower", fn := fun _ => fun
  | [d1, d2] => { results := [.lit (.bool false)], args := [d1, d2] }
  | _ => none }
def FnExactMostPowerWrongFalsely : Prop := fnExactMostPowerRow.holds Try.pinned (OpenSpec.ofChange fnExactMostPowerWrong)

/-- 'laws.FnExactBlowsFuse': WHATEVER THE INPUT: true; the input reads as it did. -/
def fnExactBlowsFuseSpec : ChangeSpec := { name := "fnExactBlowsFuse", fn := fun _ => fun
  | [d1, d2, d3] => { results := [.lit (.bool true)], args := [d1, d2, d3] }
  | _ => none }
def fnExactBlowsFuseRow : OpenClaim := { program := "ytiibegilolijlaa", sum := "e5eba260dff9323527304b9a679020eae2435ba01f51ba52e120cd19e9f71801", func := "loop.example/g03306/laws.FnExactBlowsFuse", spec := "fnExactBlowsFuse", apart := false }
def FnExactBlowsFuseSaid : Prop := fnExactBlowsFuseRow.holds Try.pinned (OpenSpec.ofChange fnExactBlowsFuseSpec)

/-- ITS FALSE NEIGHBOUR: 'it returns false'. Refute it at one input. -/
def fnExactBlowsFuseWrong : ChangeSpec := { name := "fnExactBlowsFuse", fn := fun _ => fun
  | [d1, d2, d3] => { results := [.lit (.bool false)], args := [d1, d2, d3] }
  | _ => none }
def FnExactBlowsFuseWrongFalsely : Prop := fnExactBlowsFuseRow.holds Try.pinned (OpenSpec.ofChange fnExactBlowsFuseWrong)

/- THE SECOND FORM. 'bulk': how many values and letters a reading holds, each counted each time it is reached (what is shared counts as often as it is met; a slice's spare places count too). A statement '..UptoSaid' is the law's where the arguments, and the package variables that the reading takes, are together of bulk at most 1048576: NARROWER than '..Said'. Prove '..Said' where nothing that the law and all that it calls make is longer than what came in: it says more and counts as full. Else prove '..UptoSaid'. A law counts once. -/
mutual
def uptoBulk {H : Type} : DataW H → Nat
  | .lit (.string bytes) => bytes.length + 1
  | .lit _ => 1
  | .nil => 1
  | .ptr d => uptoBulk d + 1
  | .slice elems spare => uptoBulkAll elems + uptoBulkAll spare + 1
  | .agg parts => uptoBulkAll parts + 1
  | .iface _ d => uptoBulk d + 1
  | .map entries => uptoBulkEntries entries + 1
  | .held _ => 1
def uptoBulkAll {H : Type} : List (DataW H) → Nat
  | [] => 0
  | d :: r => uptoBulk d + uptoBulkAll r
def uptoBulkEntries {H : Type} : List (Lit × DataW H) → Nat
  | [] => 0
  | x :: r => uptoBulkEntry x + uptoBulkEntries r
def uptoBulkEntry {H : Type} : Lit × DataW H → Nat
  | (.string bytes, d) => bytes.length + uptoBulk d + 1
  | (_, d) => uptoBulk d + 1
 end
def uptoSmall : (H : Type) → List (DataW H) → Bool := fun _ ds => decide (uptoBulkAll ds ≤ 1048576)
def OpenSpec.upto (s : _root_.Go.ChangeSpec) : _root_.Go.OpenSpec := { _root_.Go.OpenSpec.ofChange s with cond := some uptoSmall }

/-- 'laws.FnExactFadesOk', WHERE WHAT IT READS IS OF BULK AT MOST 1048576: true; the input reads as it did. -/
def fnExactFadesOkUptoRow : OpenClaim := { program := "ytiibegilolijlaa", sum := "e5eba260dff9323527304b9a679020eae2435ba01f51ba52e120cd19e9f71801", func := "loop.example/g03306/laws.FnExactFadesOk", spec := "fnExactFadesOk", apart := false, narrowed := true }
def FnExactFadesOkUptoSaid : Prop := fnExactFadesOkUptoRow.holds Try.pinned (OpenSpec.upto fnExactFadesOkSpec)

/-- 'laws.FnExactLevelAt', WHERE WHAT IT READS IS OF BULK AT MOST 1048576: true; the input reads as it did. -/
def fnExactLevelAtUptoRow : OpenClaim := { program := "ytiibegilolijlaa", sum := "e5eba260dff9323527304b9a679020eae2435ba01f51ba52e120cd19e9f71801", func := "loop.example/g03306/laws.FnExactLevelAt", spec := "fnExactLevelAt", apart := false, narrowed := true }
def FnExactLevelAtUptoSaid : Prop := fnExactLevelAtUptoRow.holds Try.pinned (OpenSpec.upto fnExactLevelAtSpec)

/-- 'laws.FnLights', WHERE WHAT IT READS IS OF BULK AT MOST 1048576: true; the input reads as it did. -/
def fnLightsUptoRow : OpenClaim := { program := "ytiibegilolijlaa", sum := "e5eba260dff9323527304b9a679020eae2435ba01f51ba52e120cd19e9f71801", func := "loop.example/g03306/laws.FnLights", spec := "fnLights", apart := false, narrowed := true }
def FnLightsUptoSaid : Prop := fnLightsUptoRow.holds Try.pinned (OpenSpec.upto fnLightsSpec)

/-- 'laws.FnExactPowerAt', WHERE WHAT IT READS IS OF BULK AT MOST 1048576: true; the input reads as it did. -/
def fnExactPowerAtUptoRow : OpenClaim := { program := "ytiibegilolijlaa", sum := "e5eba260dff9323527304b9a679020eae2435ba01f51ba52e120cd19e9f71801", func := "loop.example/g03306/laws.FnExactPowerAt", spec := "fnExactPowerAt", apart := false, narrowed := true }
def FnExactPowerAtUptoSaid : Prop := fnExactPowerAtUptoRow.holds Try.pinned (OpenSpec.upto fnExactPowerAtSpec)

/-- 'laws.FnExactMostPower', WHERE WHAT IT READS IS OF BULK AT MOST 1048576: true; the input reads as it did. -/
def fnExactMostPowerUptoRow : OpenClaim := { program := "ytiibegilolijlaa", sum := "e5eba260dff9323527304b9a679020eae2435ba01f51ba52e120cd19e9f71801", func := "loop.example/g03306/laws.FnExactMostPower", spec := "fnExactMostPower", apart := false, narrowed := true }
def FnExactMostPowerUptoSaid : Prop := fnExactMostPowerUptoRow.holds Try.pinned (OpenSpec.upto fnExactMostPowerSpec)

/-- 'laws.FnExactBlowsFuse', WHERE WHAT IT READS IS OF BULK AT MOST 1048576: true; the input reads as it did. -/
def fnExactBlowsFuseUptoRow : OpenClaim := { program := "ytiibegilolijlaa", sum := "e5eba260dff9323527304b9a679020eae2435ba01f51ba52e120cd19e9f71801", func := "loop.example/g03306/laws.FnExactBlowsFuse", spec := "fnExactBlowsFuse", apart := false, narrowed := true }
def FnExactBlowsFuseUptoSaid : Prop := fnExactBlowsFuseUptoRow.holds Try.pinned (OpenSpec.upto fnExactBlowsFuseSpec)

end Rows
end Go.Proofs.Ytiibegilolijlaa
