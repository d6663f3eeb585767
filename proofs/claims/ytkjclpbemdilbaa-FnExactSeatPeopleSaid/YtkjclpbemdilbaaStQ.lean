/- SeatPeople: the reference s way. -/
import Derived.Test.YtkjclpbemdilbaaStP
import Derived.WalkKit
import Derived.ProofKit
import Derived.Handy
import Derived.OpenShut
import Derived.ShutString
import Derived.ChangeOld
import Derived.Below
import Derived.BigQuiet
import Derived.Deep.QuietTactic
import Derived.Deep.Draws
import Derived.Deep.DeepCutAuto
import Derived.Deep.DeepFit
import Derived.Deep.LoopGhost
import Derived.Outline
import Derived.WalkSpells
import Derived.WalkLawsBesides
import Derived.WalkSmall
import Derived.Laws.OwnMore
import Derived.OneCell
import Derived.Laws.Rows
import Derived.Maps.AppendAt
import Derived.StillTailTactics
import Derived.Lib.SmallJoins
import Derived.Deep.RegionWith
import Derived.Deep.RegionHeld3
import Derived.RegionTactic
import Derived.Deep.Matrix
import Derived.Deep.Fields
import Derived.ChangeSame
namespace Go.Proofs.Ytkjclpbemdilbaa
open Go.RowKit

/-- the k-th person can take the seat, as the reference asks. -/
def stepOk (rows : List (List Int)) (Y : Nat) (seat : Int) (hs : List Int) (k : Nat) : Prop := 0 ≤ seat ∧ seat + k < ((rowAt rows 0).length : Int) ∧ g2 rows Y (seat.toNat + k) = -1 ∧ 0 ≤ gt hs k
theorem seat_no {rows : List (List Int)} {Y : Nat} {seat : Int} {hs : List Int} {k : Nat} (hk : k < hs.length)
    (h : ¬ (0 ≤ seat ∧ seat < ((rowAt rows 0).length : Int)) ∨ ¬ (0 ≤ seat + k ∧ seat + k < ((rowAt rows 0).length : Int)) ∨ 0 ≤ g2 rows Y (seat.toNat + k) ∨ gt hs k < 0) : seatOk rows (Y : Int) seat hs = false := by
  rw [Bool.eq_false_iff]
  intro ht
  simp only [seatOk, areFreeB, Bool.and_eq_true, decide_eq_true_eq, List.all_eq_true, List.mem_range, Int.toNat_natCast] at ht
  have h1 := ht.2.2.2.1.2 k hk
  have h2 := allW_iff.1 ht.2.2.2.2 k hk
  have h3 := ht.2.2.2.1.1
  rcases h with h | h | h | h <;> omega
theorem seat_yes {rows : List (List Int)} {Y : Nat} {seat : Int} {hs : List Int} (hg : gridOk rows 8 10 (-1) 200 = true) (h0 : 0 < hs.length) (hY : Y < rows.length) (hall : ∀ k, k < hs.length → stepOk rows Y seat hs k) :
    seatOk rows (Y : Int) seat hs = allW 0 200 hs := by
  have e1 : (!decide (hs.length = 0)) = true := by rw [decide_eq_false (by omega)]; rfl
  have e2 : inR (Y : Int) 0 ((rows.length : Int) - 1) = true := inR_iff.2 (by omega)
  have e3 : areFreeB (g2 rows Y) (rowAt rows 0).length seat (hs.length : Int) = true := by
    simp only [areFreeB, Bool.and_eq_true, decide_eq_true_eq, List.all_eq_true, List.mem_range, Int.toNat_natCast]
    have h1 := hall 0 h0
    have h2 := hall (hs.length - 1) (by omega)
    unfold stepOk at h1 h2
    exact ⟨⟨h1.1, by omega⟩, fun i hi => (hall i hi).2.2.1⟩
  unfold seatOk
  rw [hg, e1, e2, Int.toNat_natCast, e3]
  rfl
theorem seat_grid {rows : List (List Int)} {Y X : Nat} {hs : List Int} (hg : gridOk rows 8 10 (-1) 200 = true) (hY : Y < rows.length) (hfit : X + hs.length ≤ (rowAt rows 0).length) (h0 : ∀ k, k < hs.length → 0 ≤ gt hs k) :
    gridOk (gridL rows.length (rowAt rows 0).length (seatTo (g2 rows) Y X hs hs.length)) 8 10 (-1) 200 = allW 0 200 hs := by
  obtain ⟨hG, hh, hw⟩ := gridOk_grid hg
  have l0 : (rowAt (gridL rows.length (rowAt rows 0).length (seatTo (g2 rows) Y X hs hs.length)) 0).length = (rowAt rows 0).length := row_gridL_length (by omega)
  have e : ∀ y x, y < rows.length → x < (rowAt rows 0).length → g2 (gridL rows.length (rowAt rows 0).length (seatTo (g2 rows) Y X hs hs.length)) y x = seatTo (g2 rows) Y X hs hs.length y x := fun y x hy hx => g2_gridL hy hx
  cases hc : allW 0 200 hs with
  | true =>
    have ha := allW_iff.1 hc
    refine gridOk_rows (by rw [gridL_length]; exact inR_iff.2 (by omega)) (by rw [l0]; exact inR_iff.2 (by omega)) fun y hy => ?_
    rw [gridL_length] at hy
    simp only [rowOk, Bool.and_eq_true, decide_eq_true_eq]
    refine ⟨by rw [row_gridL_length hy, l0], allW_iff.2 fun x hx => ?_⟩
    rw [row_gridL_length hy] at hx
    have e2 := e y x hy hx
    unfold g2 at e2
    rw [show gt (rowAt (gridL rows.length (rowAt rows 0).length (seatTo (g2 rows) Y X hs hs.length)) y) x = seatTo (g2 rows) Y X hs hs.length y x from e2]
    unfold seatTo
    split
    · rename_i h1
      have := ha (x - X) (by omega); omega
    · exact hG.bd y x hy hx
  | false =>
    rw [Bool.eq_false_iff]
    intro ht
    obtain ⟨hG2, _, _⟩ := gridOk_grid ht
    have : allW 0 200 hs = true := allW_iff.2 fun k hk => by
      have h1 := hG2.bd Y (X + k) (by rw [gridL_length]; exact hY) (by rw [l0]; omega)
      rw [e Y (X + k) hY (by omega)] at h1
      unfold seatTo at h1
      rw [if_pos (by omega), show X + k - X = k from by omega] at h1
      exact ⟨h0 k hk, h1.2⟩
    rw [hc] at this
    cases this
theorem sumLen_grid {h wd : Nat} (F : Nat → Nat → Int) {k : Nat} (hk : k ≤ h) : sumLen (gridL h wd F) k = wd * k := by
  induction k with
  | zero => rfl
  | succ k ih => simp only [sumLen]; rw [ih (by omega), row_gridL_length (by omega), Nat.mul_succ]
theorem seat_okM {h wd : Nat} (hh : h ≤ 8) (hw : wd ≤ 10) (F : Nat → Nat → Int) : OkM (gridL h wd F) := by
  unfold OkM
  have := sumLen_grid (wd := wd) F (Nat.le_refl h)
  have h2 : wd * h ≤ 10 * 8 := Nat.mul_le_mul hw hh
  rw [gridL_length] at *
  omega

end Go.Proofs.Ytkjclpbemdilbaa
