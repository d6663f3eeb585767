/- Bits of small numbers. -/
import Derived.Test.YthjiggihljiikaaBox
import Derived.WalkKit
import Derived.ProofKit
import Derived.Handy
import Derived.OpenShut
import Derived.ShutString
import Derived.ChangeOld
import Derived.Below
import Derived.BigQuiet
import Derived.Deep.QuietTactic
import Derived.Deep.Draws
import Derived.Deep.DeepCutAuto
import Derived.Deep.DeepFit
import Derived.Deep.LoopGhost
import Derived.Outline
import Derived.WalkSpells
import Derived.WalkLawsBesides
import Derived.WalkSmall
import Derived.Laws.OwnMore
import Derived.OneCell
import Derived.Laws.Rows
import Derived.Maps.AppendAt
import Derived.StillTailTactics
import Derived.Lib.SmallJoins
import Derived.Deep.RegionWith
import Derived.Deep.RegionHeld3
import Derived.RegionTactic
import Derived.Deep.Matrix
import Derived.Deep.Fields
import Derived.ChangeSame
namespace Go.Proofs.Ythjiggihljiikaa
open Go.RowKit

theorem chkBit : ((List.range 4096).all fun s => (List.range 12).all fun k => decide (bits .and .i64 ((s : Int) / ((2 ^ k : Nat) : Int)) 1 = if s.testBit k then 1 else 0)) = true := by decide +kernel
theorem chkNot : ((List.range 4096).all fun s => (List.range 12).all fun k => !s.testBit k || decide (bits .andNot .i64 (s : Int) ((2 ^ k : Nat) : Int) = ((s - 2 ^ k : Nat) : Int))) = true := by decide +kernel
theorem bit_and {s k : Nat} (hs : s < 4096) (hk : k < 12) : bits .and .i64 ((s : Int) / ((2 ^ k : Nat) : Int)) 1 = if s.testBit k then 1 else 0 := by
  have := List.all_eq_true.1 (List.all_eq_true.1 chkBit s (List.mem_range.2 hs)) k (List.mem_range.2 hk)
  simpa using this
theorem bit_not {s k : Nat} (hs : s < 4096) (hk : k < 12) (h : s.testBit k = true) : bits .andNot .i64 (s : Int) ((2 ^ k : Nat) : Int) = ((s - 2 ^ k : Nat) : Int) := by
  have := List.all_eq_true.1 (List.all_eq_true.1 chkNot s (List.mem_range.2 hs)) k (List.mem_range.2 hk)
  rw [h] at this
  simpa using this

end Go.Proofs.Ythjiggihljiikaa
