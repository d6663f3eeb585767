/- SmoothedBlock: the plain law once more. -/
import Derived.Test.YtlkaalbhhnineaaGl
import Derived.WalkKit
import Derived.ProofKit
import Derived.Handy
import Derived.OpenShut
import Derived.ShutString
import Derived.ChangeOld
import Derived.Below
import Derived.BigQuiet
import Derived.Deep.QuietTactic
import Derived.Deep.Draws
import Derived.Deep.DeepCutAuto
import Derived.Deep.DeepFit
import Derived.Deep.LoopGhost
import Derived.Outline
import Derived.WalkSpells
import Derived.WalkLawsBesides
import Derived.WalkSmall
import Derived.Laws.OwnMore
import Derived.OneCell
import Derived.Laws.Rows
import Derived.Maps.AppendAt
import Derived.StillTailTactics
import Derived.Lib.SmallJoins
import Derived.Deep.RegionWith
import Derived.Deep.RegionHeld3
import Derived.RegionTactic
import Derived.Deep.Matrix
import Derived.Deep.Fields
import Derived.ChangeSame
namespace Go.Proofs.Ytlkaalbhhnineaa
open Go.RowKit

/-- the least of a row's heights and slopes, from acc on. -/
def minRow (most : Int) (f : Nat → Nat → Int) (y x v : Nat) (acc : Int) : Nat → Int
  | 0 => acc
  | u + 1 => min (minRow most f y x v acc u) (f v u + most * (absI ((x : Int) - (u : Int)) + absI ((y : Int) - (v : Int))))
def minAll (most : Int) (f : Nat → Nat → Int) (wd y x : Nat) : Nat → Int
  | 0 => f y x
  | v + 1 => minRow most f y x v (minAll most f wd y x v) wd
/-- where the work stands: row y, place x, and the number there. -/
def smTo (most : Int) (f : Nat → Nat → Int) (h wd y x : Nat) (cur : Int) : Nat → Nat → Int := fun y' x' =>
  if y' < y ∨ (y' = y ∧ x' < x) then minAll most f wd y' x' h else if y' = y ∧ x' = x then cur else f y' x'
def smoothL (rows : List (List Int)) (most : Int) : List (List Int) :=
  if gridOk rows 8 8 0 20 && inR most 0 20 then gridL rows.length (rowAt rows 0).length (fun y x => minAll most (g2 rows) (rowAt rows 0).length y x rows.length) else []
theorem absI_bd {n : Int} (h : -8 ≤ n ∧ n ≤ 8) : 0 ≤ absI n ∧ absI n ≤ 8 := by unfold absI; split <;> omega
theorem slope_bd {most a b : Int} (hm : 0 ≤ most ∧ most ≤ 20) (ha : 0 ≤ a ∧ a ≤ 8) (hb : 0 ≤ b ∧ b ≤ 8) : 0 ≤ most * (a + b) ∧ most * (a + b) ≤ 320 := by
  refine ⟨Int.mul_nonneg hm.1 (by omega), ?_⟩
  have e1 : most * (a + b) ≤ 20 * (a + b) := Int.mul_le_mul_of_nonneg_right hm.2 (by omega)
  omega
theorem minRow_bd {most : Int} {f : Nat → Nat → Int} {h wd y x v : Nat} {acc : Int} (hm : 0 ≤ most ∧ most ≤ 20) (hf : ∀ y x, y < h → x < wd → 0 ≤ f y x ∧ f y x ≤ 20) (hh : h ≤ 8) (hw : wd ≤ 8) (hy : y < h) (hx : x < wd) (hv : v < h) (ha : 0 ≤ acc ∧ acc ≤ 20)
    {u : Nat} (hu : u ≤ wd) : 0 ≤ minRow most f y x v acc u ∧ minRow most f y x v acc u ≤ 20 := by
  induction u with
  | zero => exact ha
  | succ u ih =>
    have := ih (by omega)
    have h1 := hf v u hv (by omega)
    have h2 := slope_bd hm (absI_bd (n := (x : Int) - (u : Int)) (by omega)) (absI_bd (n := (y : Int) - (v : Int)) (by omega))
    simp only [minRow]
    omega
theorem minAll_bd {most : Int} {f : Nat → Nat → Int} {h wd y x : Nat} (hm : 0 ≤ most ∧ most ≤ 20) (hf : ∀ y x, y < h → x < wd → 0 ≤ f y x ∧ f y x ≤ 20) (hh : h ≤ 8) (hw : wd ≤ 8) (hy : y < h) (hx : x < wd) {v : Nat} (hv : v ≤ h) :
    0 ≤ minAll most f wd y x v ∧ minAll most f wd y x v ≤ 20 := by
  induction v with
  | zero => exact hf y x hy hx
  | succ v ih => exact minRow_bd hm hf hh hw hy hx (by omega) (ih (by omega)) (Nat.le_refl _)
theorem smTo_start {most : Int} {f : Nat → Nat → Int} {h wd y x : Nat} : ∀ y' x', y' < h → x' < wd → smTo most f h wd y x (f y x) y' x' = smTo most f h wd y x (minAll most f wd y x 0) y' x' := fun _ _ _ _ => rfl
theorem smTo_upd {most : Int} {f : Nat → Nat → Int} {h wd y x : Nat} (c z : Int) : upd (smTo most f h wd y x c) y x z = smTo most f h wd y x z := by
  funext y' x'
  unfold upd smTo
  by_cases e : y' = y ∧ x' = x
  · rw [if_pos e, if_neg (by omega), if_pos e]
  · rw [if_neg e, if_neg e, if_neg e]
theorem smTo_at {most : Int} {f : Nat → Nat → Int} {h wd y x : Nat} (c : Int) : smTo most f h wd y x c y x = c := by
  unfold smTo
  rw [if_neg (by omega), if_pos ⟨rfl, rfl⟩]
theorem smTo_next {most : Int} {f : Nat → Nat → Int} {h wd y x : Nat} : smTo most f h wd y x (minAll most f wd y x h) = smTo most f h wd y (x + 1) (f y (x + 1)) := by
  funext y' x'
  unfold smTo
  by_cases e1 : y' < y ∨ (y' = y ∧ x' < x)
  · rw [if_pos e1, if_pos (by omega)]
  · by_cases e2 : y' = y ∧ x' = x
    · rw [if_neg e1, if_pos e2, if_pos (by omega), e2.1, e2.2]
    · rw [if_neg e1, if_neg e2, if_neg (by omega)]
      by_cases e3 : y' = y ∧ x' = x + 1
      · rw [if_pos e3, e3.1, e3.2]
      · rw [if_neg e3]
theorem smTo_row {most : Int} {f : Nat → Nat → Int} {h wd y : Nat} {c : Int} : ∀ y' x', y' < h → x' < wd → smTo most f h wd y wd c y' x' = smTo most f h wd (y + 1) 0 (f (y + 1) 0) y' x' := by
  intro y' x' _ hx
  unfold smTo
  by_cases e1 : y' < y ∨ (y' = y ∧ x' < wd)
  · rw [if_pos e1, if_pos (by omega)]
  · rw [if_neg e1, if_neg (by omega), if_neg (by omega)]
    by_cases e3 : y' = y + 1 ∧ x' = 0
    · rw [if_pos e3, e3.1, e3.2]
    · rw [if_neg e3]
theorem smTo_zero {most : Int} {f : Nat → Nat → Int} {h wd : Nat} : ∀ y' x', y' < h → x' < wd → f y' x' = smTo most f h wd 0 0 (f 0 0) y' x' := by
  intro y' x' _ _
  unfold smTo
  rw [if_neg (by omega)]
  by_cases e3 : y' = 0 ∧ x' = 0
  · rw [if_pos e3, e3.1, e3.2]
  · rw [if_neg e3]
theorem smTo_end {most : Int} {f : Nat → Nat → Int} {h wd : Nat} {c : Int} : ∀ y' x', y' < h → x' < wd → smTo most f h wd h 0 c y' x' = minAll most f wd y' x' h := by
  intro y' x' hy _
  unfold smTo
  rw [if_pos (by omega)]

theorem OwM.nil (w : World) (B : Nat) : OwM w B (.slice none 0 0) [] := ⟨rfl, [], World.ownsRow_nil _ _ _ _, fun i hi => absurd hi (by simp), fun i hi => absurd hi (by simp), fun i j _ hj => absurd hj (by simp)⟩

end Go.Proofs.Ytlkaalbhhnineaa
