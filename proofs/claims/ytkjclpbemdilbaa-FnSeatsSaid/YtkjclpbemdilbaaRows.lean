/-
  No cell of these rows narrows 'for every input' (looked for: loops, veiled, ifaces, maps, wideKeys, modest, calm, conditions, laid).
  DERIVED. THE GIVEN ROWS OF THIS SEAT. 7 by the template 'for every input the law returns true; each argument reads behind the call as it read before'; 0 by the template 'total and deterministic' (their statements: YtkjclpbemdilbaaTotals.lean).
  GIVEN WITH THE SEED: the statements are not yours to turn. If you find one false, say at which input.
  Laid BY PROGRAM, IN A SANDBOX (cutbox-rows.mjs): the forced cells as the released guide's own fill.sh prints them over the translation 38721cfbef9c410b… (all of the seat's roots in one cut). By AI agents, Wed Nov 11 2026. No macro, syntax, notation, axiom, sorry.
-/
import Derived.Test.YtkjclpbemdilbaaChecked
import GoSem.Claim
import GoSem.ClaimJoined
import GoSem.ClaimMapViews
import Derived.JoinedTies
import Derived.KernelRfl
namespace Go.Proofs.Ytkjclpbemdilbaa
/- THE CELL 'sum', in the pinned program and in every row, IS THE sha256 OF THE DUMP (.gsa) THAT YtkjclpbemdilbaaProg.lean LOADS. Nothing in Lean hashes anything: it is a label: what it is worth is what the hold of that sum in a sandbox is worth. -/
noncomputable def Try.pinned : Pinned := { name := "ytkjclpbemdilbaa", sum := "38721cfbef9c410b776358a87ed0c8e7c8214e91ffd05c228f6388fef46f14bb", checked := Try.checked }
namespace Rows
def none {H : Type} : Left H := { results := [], args := [] }

/-- 'laws.FnExactHallOk': WHATEVER THE INPUT: true; the input reads as it did. -/
def fnExactHallOkSpec : ChangeSpec := { name := "fnExactHallOk", fn := fun _ => fun
  | [d] => { results := [.lit (.bool true)], args := [d] }
  | _ => none }
def fnExactHallOkRow : OpenClaim := { program := "ytkjclpbemdilbaa", sum := "38721cfbef9c410b776358a87ed0c8e7c8214e91ffd05c228f6388fef46f14bb", func := "loop.example/g03306/laws.FnExactHallOk", spec := "fnExactHallOk", apart := false }
def FnExactHallOkSaid : Prop := fnExactHallOkRow.holds Try.pinned (OpenSpec.ofChange fnExactHallOkSpec)

/-- ITS FALSE NEIGHBOUR: 'it returns false'. Refute it at one input. -/
def fnExactHallOkWrong : ChangeSpec := { name := "fnExactHallOk", fn := fun _ => fun
  | [d] => { results := [.lit (.bool false)], args := [d] }
  | _ => none }
def FnExactHallOkWrongFalsely : Prop := fnExactHallOkRow.holds Try.pinned (OpenSpec.ofChange fnExactHallOkWrong)

/-- 'laws.FnExactSees': WHATEVER THE INPUT: true; the input reads as it did. -/
def fnExactSeesSpec : ChangeSpec := { name := "fnExactSees", fn := fun _ => fun
  | [d1, d2, d3, d4] => { results := [.lit (.bool true)], args := [d1, d2, d3, d4] }
  | _ => none }
def fnExactSeesRow : OpenClaim := { program := "ytkjclpbemdilbaa", sum := "38721cfbef9c410b776358a87ed0c8e7c8214e91ffd05c228f6388fef46f14bb", func := "loop.example/g03306/laws.FnExactSees", spec := "fnExactSees", apart := false }
def FnExactSeesSaid : Prop := fnExactSeesRow.holds Try.pinned (OpenSpec.ofChange fnExactSeesSpec)

/-- ITS FALSE NEIGHBOUR: 'it returns false'. Refute it at one input. -/
def fnExactSeesWrong : ChangeSpec := { name := "fnExactSees", fn := fun _ => fun
  | [d1, d2, d3, d4] => { results := [.lit (.bool false)], args := [d1, d2, d3, d4] }
  | _ => none }
def FnExactSeesWrongFalsely : Prop := fnExactSeesRow.holds Try.pinned (OpenSpec.ofChange fnExactSeesWrong)

/-- 'laws.FnExactFreeTogether': WHATEVER THE INPUT: true; the input reads as it did. -/
def fnExactFreeTogetherSpec : ChangeSpec := { name := "fnExactFreeTogether", fn := fun _ => fun
  | [d1, d2] => { results := [.lit (.bool true)], args := [d1, d2] }
  | _ => none }
def fnExactFreeTogetherRow : OpenClaim := { program := "ytkjclpbemdilbaa", sum := "38721cfbef9c410b776358a87ed0c8e7c8214e91ffd05c228f6388fef46f14bb", func := "loop.example/g03306/laws.FnExactFreeTogether", spec := "fnExactFreeTogether", apart := false }
def FnExactFreeTogetherSaid : Prop := fnExactFreeTogetherRow.holds Try.pinned (OpenSpec.ofChange fnExactFreeTogetherSpec)

/-- ITS FALSE NEIGHBOUR: 'it returns false'. Refute it at one input. -/
def fnExactFreeTogetherWrong : ChangeSpec := { name := "fnExactFreeTogether", fn := fun _ => fun
  | [d1, d2] => { results := [.lit (.bool false)], args := [d1, d2] }
  | _ => none }
def FnExactFreeTogetherWrongFalsely : Prop := fnExactFreeTogetherRow.holds Try.pinned (OpenSpec.ofChange fnExactFreeTogetherWrong)

/-- 'laws.FnExactCountSeeing': WHATEVER THE INPUT: true; the input reads as it did. -/
def fnExactCountSeeingSpec : ChangeSpec := { name := "fnExactCountSeeing", fn := fun _ => fun
  | [d1, d2] => { results := [.lit (.bool true)], args := [d1, d2] }
  | _ => none }
def fnExactCountSeeingRow : OpenClaim := { program := "ytkjclpbemdilbaa", sum := "38721cfbef9c410b776358a87ed0c8e7c8214e91ffd05c228f6388fef46f14bb", func := "loop.example/g03306/laws.FnExactCountSeeing", spec := "fnExactCountSeeing", apart := false }
def FnExactCountSeeingSaid : Prop := fnExactCountSeeingRow.holds Try.pinned (OpenSpec.ofChange fnExactCountSeeingSpec)

/-- ITS FALSE NEIGHBOUR: 'it returns false'. Refute it at one input. -/
def fnExactCountSeeingWrong : ChangeSpec := { name := "fnExactCountSeeing", fn := fun _ => fun
  | [d1, d2] => { results := [.lit (.bool false)], args := [d1, d2] }
  | _ => none }
def FnExactCountSeeingWrongFalsely : Prop := fnExactCountSeeingRow.holds Try.pinned (OpenSpec.ofChange fnExactCountSeeingWrong)

/-- 'laws.FnSeats': WHATEVER THE INPUT: true; the input reads as it did. -/
def fnSeatsSpec : ChangeSpec := { name := "fnSeats", fn := fun _ => fun
  | [d] => { results := [.lit (.bool true)], args := [d] }
  | _ => none }
def fnSeatsRow : OpenClaim := { program := "ytkjclpbemdilbaa", sum := "38721cfbef9c410b776358a87ed0c8e7c8214e91ffd05c228f6388fef46f14bb", func := "loop.example/g03306/laws.FnSeats", spec := "fnSeats", apart := false }
def FnSeatsSaid : Prop := fnSeatsRow.holds Try.pinned (OpenSpec.ofChange fnSeatsSpec)

/-- ITS FALSE NEIGHBOUR: 'it returns false'. Refute it at one input. -/
def fnSeatsWrong : ChangeSpec := { name := "fnSeats", fn := fun _ => fun
  | [d] => { results := [.lit (.bool false)], args := [d] }
  | _ => none }
def FnSeatsWrongFalsely : Prop := fnSeatsRow.holds Try.pinned (OpenSpec.ofChange fnSeatsWrong)

/-- 'laws.FnExactLeastRise': WHATEVER THE INPUT: true; the input reads as it did. -/
def fnExactLeastRiseSpec : ChangeSpec := { name := "fnExactLeastRise", fn := fun _ => fun
  | [d] => { results := [.lit (.bool true)], args := [d] }
  | _ => none }
def fnExactLeastRiseRow : OpenClaim := { program := "ytkjclpbemdilbaa", sum := "38721cfbef9c410b776358a87ed0c8e7c8214e91ffd05c228f6388fef46f14bb", func := "loop.example/g03306/laws.FnExactLeastRise", spec := "fnExactLeastRise", apart := false }
def FnExactLeastRiseSaid : Prop := fnExactLeastRiseRow.holds Try.pinned (OpenSpec.ofChange fnExactLeastRiseSpec)

/-- ITS FALSE NEIGHBOUR: 'it returns false'. Refute it at one input. -/
def fnExactLeastRiseWrong : ChangeSpec := { name := "fnExactLeastRise", fn := fun _ => fun
  | [d] => { results := [.lit (.bool false)], args := [d] }
  | _ => none }
def FnExactLeastRiseWrongFalsely : Prop := fnExactLeastRiseRow.holds Try.pinned (OpenSpec.ofChange fnExactLeastRiseWrong)

/-- 'laws.FnExactSeatPeople': WHATEVER THE INPUT: true; the input reads as it did. -/
def fnExactSeatPeopleSpec : ChangeSpec := { name := "fnExactSeatPeople", fn := fun _ => fun
  | [d1, d2, d3, d4] => { results := [.lit (.bool true)], args := [d1, d2, d3, d4] }
  | _ => none }
def fnExactSeatPeopleRow : OpenClaim := { program := "ytkjclpbemdilbaa", sum := "38721cfbef9c410b776358a87ed0c8e7c8214e91ffd05c228f6388fef46f14bb", func := "loop.example/g03306/laws.FnExactSeatPeople", spec := "fnExactSeatPeople", apart := false }
def FnExactSeatPeopleSaid : Prop := fnExactSeatPeopleRow.holds Try.pinned (OpenSpec.ofChange fnExactSeatPeopleSpec)

/-- ITS FALSE NEIGHBOUR: 'it returns false'. Refute it at one input. -/
def fnExactSeatPeopleWrong : ChangeSpec := { name := "fnExactSeatPeople", fn := fun _ => fun
  | [d1, d2, d3, d4] => { results := [.lit (.bool false)], args := [d1, d2, d3, d4] }
  | _ => none }
def FnExactSeatPeopleWrongFalsely : Prop := fnExactSeatPeopleRow.holds Try.pinned (OpenSpec.ofChange fnExactSeatPeopleWrong)

/- THE SECOND FORM. 'bulk': how many values and letters a reading holds, each counted each time it is reached (what is shared counts as often as it is met; a slice's spare places count too). A statement '..UptoSaid' is the law's where the arguments, and the package variables that the reading takes, are together of bulk at most 1048576: NARROWER than '..Said'. Prove '..Said' where nothing that the law and all that it calls make is longer than what came in: it says more and counts as full. Else prove '..UptoSaid'. A law counts once. -/
mutual
def uptoBulk {H : Type} : DataW H → Nat
  | .lit (.string bytes) => bytes.length + 1
  | .lit _ => 1
  | .nil => 1
  | .ptr d => uptoBulk d + 1
  | .slice elems spare => uptoBulkAll elems + uptoBulkAll spare + 1
  | .agg parts => uptoBulkAll parts + 1
  | .iface _ d => uptoBulk d + 1
  | .map entries => uptoBulkEntries entries + 1
  | .held _ => 1
def uptoBulkAll {H : Type} : List (DataW H) → Nat
  | [] => 0
  | d :: r => uptoBulk d + uptoBulkAll r
def uptoBulkEntries {H : Type} : List (Lit × DataW H) → Nat
  | [] => 0
  | x :: r => uptoBulkEntry x + uptoBulkEntries r
def uptoBulkEntry {H : Type} : Lit × DataW H → Nat
  | (.string bytes, d) => bytes.length + uptoBulk d + 1
  | (_, d) => uptoBulk d + 1
 end
def uptoSmall : (H : Type) → List (DataW H) → Bool := fun _ ds => decide (uptoBulkAll ds ≤ 1048576)
def OpenSpec.upto (s : _root_.Go.ChangeSpec) : _root_.Go.OpenSpec := { _root_.Go.OpenSpec.ofChange s with cond := some uptoSmall }

/-- 'laws.FnExactHallOk', WHERE WHAT IT READS IS OF BULK AT MOST 1048576: true; the input reads as it did. -/
def fnExactHallOkUptoRow : OpenClaim := { program := "ytkjclpbemdilbaa", sum := "38721cfbef9c410b776358a87ed0c8e7c8214e91ffd05c228f6388fef46f14bb", func := "loop.example/g03306/laws.FnExactHallOk", spec := "fnExactHallOk", apart := false, narrowed := true }
def FnExactHallOkUptoSaid : Prop := fnExactHallOkUptoRow.holds Try.pinned (OpenSpec.upto fnExactHallOkSpec)

/-- 'laws.FnExactSees', WHERE WHAT IT READS IS OF BULK AT MOST 1048576: true; the input reads as it did. -/
def fnExactSeesUptoRow : OpenClaim := { program := "ytkjclpbemdilbaa", sum := "38721cfbef9c410b776358a87ed0c8e7c8214e91ffd05c228f6388fef46f14bb", func := "loop.example/g03306/laws.FnExactSees", spec := "fnExactSees", apart := false, narrowed := true }
def FnExactSeesUptoSaid : Prop := fnExactSeesUptoRow.holds Try.pinned (OpenSpec.upto fnExactSeesSpec)

/-- 'laws.FnExactFreeTogether', WHERE WHAT IT READS IS OF BULK AT MOST 1048576: true; the input reads as it did. -/
def fnExactFreeTogetherUptoRow : OpenClaim := { program := "ytkjclpbemdilbaa", sum := "38721cfbef9c410b776358a87ed0c8e7c8214e91ffd05c228f6388fef46f14bb", func := "loop.example/g03306/laws.FnExactFreeTogether", spec := "fnExactFreeTogether", apart := false, narrowed := true }
def FnExactFreeTogetherUptoSaid : Prop := fnExactFreeTogetherUptoRow.holds Try.pinned (OpenSpec.upto fnExactFreeTogetherSpec)

/-- 'laws.FnExactCountSeeing', WHERE WHAT IT READS IS OF BULK AT MOST 1048576: true; the input reads as it did. -/
def fnExactCountSeeingUptoRow : OpenClaim := { program := "ytkjclpbemdilbaa", sum := "38721cfbef9c410b776358a87ed0c8e7c8214e91ffd05c228f6388fef46f14bb", func := "loop.example/g03306/laws.FnExactCountSeeing", spec := "fnExactCountSeeing", apart := false, narrowed := true }
def FnExactCountSeeingUptoSaid : Prop := fnExactCountSeeingUptoRow.holds Try.pinned (OpenSpec.upto fnExactCountSeeingSpec)

/-- 'laws.FnSeats', WHERE WHAT IT READS IS OF BULK AT MOST 1048576: true; the input reads as it did. -/
def fnSeatsUptoRow : OpenClaim := { program := "ytkjclpbemdilbaa", sum := "38721cfbef9c410b776358a87ed0c8e7c8214e91ffd05c228f6388fef46f14bb", func := "loop.example/g03306/laws.FnSeats", spec := "fnSeats", apart := false, narrowed := true }
def FnSeatsUptoSaid : Prop := fnSeatsUptoRow.holds Try.pinned (OpenSpec.upto fnSeatsSpec)

/-- 'laws.FnExactLeastRise', WHERE WHAT IT READS IS OF BULK AT MOST 1048576: true; the input reads as it did. -/
def fnExactLeastRiseUptoRow : OpenClaim := { program := "ytkjclpbemdilbaa", sum := "38721cfbef9c410b776358a87ed0c8e7c8214e91ffd05c228f6388fef46f14bb", func := "loop.example/g03306/laws.FnExactLeastRise", spec := "fnExactLeastRise", apart := false, narrowed := true }
def FnExactLeastRiseUptoSaid : Prop := fnExactLeastRiseUptoRow.holds Try.pinned (OpenSpec.upto fnExactLeastRiseSpec)

/-- 'laws.FnExactSeatPeople', WHERE WHAT IT READS IS OF BULK AT MOST 1048576: true; the input reads as it did. -/
def fnExactSeatPeopleUptoRow : OpenClaim := { program := "ytkjclpbemdilbaa", sum := "38721cfbef9c410b776358a87ed0c8e7c8214e91ffd05c228f6388fef46f14bb", func := "loop.example/g03306/laws.FnExactSeatPeople", spec := "fnExactSeatPeople", apart := false, narrowed := true }
def FnExactSeatPeopleUptoSaid : Prop := fnExactSeatPeopleUptoRow.holds Try.pinned (OpenSpec.upto fnExactSeatPeopleSpec)

end Rows
end Go.Proofs.Ytkjclpbemdilbaa
