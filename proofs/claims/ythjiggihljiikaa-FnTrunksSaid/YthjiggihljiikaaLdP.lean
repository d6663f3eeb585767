/- Loads: the plain law. -/
import Derived.Test.YthjiggihljiikaaBox
import Derived.WalkKit
import Derived.ProofKit
import Derived.Handy
import Derived.OpenShut
import Derived.ShutString
import Derived.ChangeOld
import Derived.Below
import Derived.BigQuiet
import Derived.Deep.QuietTactic
import Derived.Deep.Draws
import Derived.Deep.DeepCutAuto
import Derived.Deep.DeepFit
import Derived.Deep.LoopGhost
import Derived.Outline
import Derived.WalkSpells
import Derived.WalkLawsBesides
import Derived.WalkSmall
import Derived.Laws.OwnMore
import Derived.OneCell
import Derived.Laws.Rows
import Derived.Maps.AppendAt
import Derived.StillTailTactics
import Derived.Lib.SmallJoins
import Derived.Deep.RegionWith
import Derived.Deep.RegionHeld3
import Derived.RegionTactic
import Derived.Deep.Matrix
import Derived.Deep.Fields
import Derived.ChangeSame
namespace Go.Proofs.Ythjiggihljiikaa
open Go.RowKit

/-- the sum of the sizes in a box, of the first k. -/
def ldTo (zs bs : List Int) (b : Int) : Nat → Int
  | 0 => 0
  | k + 1 => ldTo zs bs b k + if gt bs k = b then gt zs k else 0
theorem ldTo_yes {zs bs : List Int} {b : Int} {k : Nat} (h : gt bs k = b) : ldTo zs bs b (k + 1) = ldTo zs bs b k + gt zs k := by simp only [ldTo]; rw [if_pos h]
theorem ldTo_no {zs bs : List Int} {b : Int} {k : Nat} (h : gt bs k ≠ b) : ldTo zs bs b (k + 1) = ldTo zs bs b k := by simp only [ldTo]; rw [if_neg h]; omega
theorem ldTo_bd {zs bs : List Int} (hz : ∀ k, k < zs.length → 1 ≤ gt zs k ∧ gt zs k ≤ 1000) (b : Int) {k : Nat} (hk : k ≤ zs.length) : 0 ≤ ldTo zs bs b k ∧ ldTo zs bs b k ≤ 1000 * k := by
  induction k with
  | zero => simp [ldTo]
  | succ k ih =>
    have := ih (by omega)
    have := hz k (by omega)
    simp only [ldTo]
    split <;> omega
/-- all are packed. -/
def packed (zs : List Int) (room : Int) (bs : List Int) : Bool :=
  boxesOk zs room && decide (bs.length = zs.length) && allW 0 11 bs && (List.range 12).all fun (b : Nat) => decide (ldTo zs bs (b : Int) zs.length ≤ room)
theorem packed_no {zs bs : List Int} {room : Int} (b : Nat) (hb : b < 12) (h : room < ldTo zs bs (b : Int) zs.length) : packed zs room bs = false := by
  rw [Bool.eq_false_iff]
  intro ht
  simp only [packed, Bool.and_eq_true] at ht
  have := List.all_eq_true.1 ht.2 b (List.mem_range.2 hb)
  simp at this
  omega
theorem packed_yes {zs bs : List Int} {room : Int} (h1 : boxesOk zs room = true) (h2 : bs.length = zs.length) (h3 : allW 0 11 bs = true) (h : ∀ b : Nat, b < 12 → ldTo zs bs (b : Int) zs.length ≤ room) : packed zs room bs = true := by
  simp only [packed, h1, h2, h3, Bool.and_eq_true, decide_eq_true_eq, true_and, and_true, List.all_eq_true, List.mem_range]
  exact fun b hb => h b hb
/-- the room that is left in the first b boxes that are taken. -/
def roomTo (zs : List Int) (room : Int) (bs : List Int) : Nat → Int
  | 0 => 0
  | b + 1 => roomTo zs room bs b + if 0 < ldTo zs bs (b : Int) zs.length then room - ldTo zs bs (b : Int) zs.length else 0
theorem roomTo_yes {zs bs : List Int} {room : Int} {b : Nat} (h : 0 < ldTo zs bs (b : Int) zs.length) : roomTo zs room bs (b + 1) = roomTo zs room bs b + (room - ldTo zs bs (b : Int) zs.length) := by simp only [roomTo]; rw [if_pos h]
theorem roomTo_no {zs bs : List Int} {room : Int} {b : Nat} (h : ¬ 0 < ldTo zs bs (b : Int) zs.length) : roomTo zs room bs (b + 1) = roomTo zs room bs b := by simp only [roomTo]; rw [if_neg h]; omega
theorem roomTo_bd {zs bs : List Int} {room : Int} (hz : zs.length ≤ 12 ∧ (1 ≤ room ∧ room ≤ 1000) ∧ ∀ k, k < zs.length → 1 ≤ gt zs k ∧ gt zs k ≤ room) (b : Nat) : -(13000 * (b : Int)) ≤ roomTo zs room bs b ∧ roomTo zs room bs b ≤ 13000 * b := by
  induction b with
  | zero => simp [roomTo]
  | succ b ih =>
    have := ldTo_bd (bs := bs) (fun k hk => by have := hz.2.2 k hk; omega) (b : Int) (Nat.le_refl zs.length)
    simp only [roomTo]
    split <;> omega
def roomLeft (zs : List Int) (room : Int) (bs : List Int) : Int := if packed zs room bs then roomTo zs room bs 12 else -1

end Go.Proofs.Ythjiggihljiikaa
