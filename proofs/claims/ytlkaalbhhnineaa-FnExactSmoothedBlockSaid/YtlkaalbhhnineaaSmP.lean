/- SmoothedBlock: the plain law. -/
import Derived.Test.YtlkaalbhhnineaaCpI
import Derived.Test.YtlkaalbhhnineaaCpS
import Derived.Test.YtlkaalbhhnineaaGrid
import Derived.WalkKit
import Derived.ProofKit
import Derived.Handy
import Derived.OpenShut
import Derived.ShutString
import Derived.ChangeOld
import Derived.Below
import Derived.BigQuiet
import Derived.Deep.QuietTactic
import Derived.Deep.Draws
import Derived.Deep.DeepCutAuto
import Derived.Deep.DeepFit
import Derived.Deep.LoopGhost
import Derived.Outline
import Derived.WalkSpells
import Derived.WalkLawsBesides
import Derived.WalkSmall
import Derived.Laws.OwnMore
import Derived.OneCell
import Derived.Laws.Rows
import Derived.Maps.AppendAt
import Derived.StillTailTactics
import Derived.Lib.SmallJoins
import Derived.Deep.RegionWith
import Derived.Deep.RegionHeld3
import Derived.RegionTactic
import Derived.Deep.Matrix
import Derived.Deep.Fields
import Derived.ChangeSame
namespace Go.Proofs.Ytlkaalbhhnineaa
open Go.RowKit

/-- the magnitude. -/
def absI (n : Int) : Int := if 0 ≤ n then n else -n
theorem absI_max (n : Int) : absI n = max n (-n) := by unfold absI; split <;> omega
set_option maxHeartbeats 400000 in
theorem size_any (n : Int) (w : World) (h0 : -1000000000000 ≤ n) (h1 : n ≤ 1000000000000) : Calls Try.prog 39 #[.int .i64 n] w fun e w' => e = .returned (.int .i64 (absI n)) ∧ w = w' := by
  have hf := hide (absI_max n)
  go_enter Try.func39, Try.ntmps39
  go_wp2
  all_goals go_ret
  all_goals exact ⟨ret_int (by rw [hf.out]; omega), rfl⟩

/-- h rows of wd numbers. -/
def gridL (h wd : Nat) (F : Nat → Nat → Int) : List (List Int) := (List.range h).map fun y => (List.range wd).map fun x => F y x
theorem gridL_length (h wd : Nat) (F : Nat → Nat → Int) : (gridL h wd F).length = h := by simp [gridL]
theorem rowAt_gridL {h wd : Nat} {F : Nat → Nat → Int} {y : Nat} (hy : y < h) : rowAt (gridL h wd F) y = (List.range wd).map fun x => F y x := by simp [rowAt, gridL, hy]
theorem row_gridL_length {h wd : Nat} {F : Nat → Nat → Int} {y : Nat} (hy : y < h) : (rowAt (gridL h wd F) y).length = wd := by rw [rowAt_gridL hy]; simp
theorem g2_gridL {h wd : Nat} {F : Nat → Nat → Int} {y x : Nat} (hy : y < h) (hx : x < wd) : g2 (gridL h wd F) y x = F y x := by
  unfold g2
  rw [rowAt_gridL hy]
  simp [gt, hx]
theorem gridL_congr {h wd : Nat} {F G : Nat → Nat → Int} (hfg : ∀ y x, y < h → x < wd → F y x = G y x) : gridL h wd F = gridL h wd G := by
  unfold gridL
  exact List.map_congr_left fun y hy => List.map_congr_left fun x hx => hfg y x (List.mem_range.1 hy) (List.mem_range.1 hx)
theorem grid_eq {rows : List (List Int)} {h wd : Nat} {lo hi : Int} (hg : Grid rows h wd lo hi) : rows = gridL h wd (g2 rows) := by
  apply List.ext_getElem
  · rw [gridL_length]; exact hg.len
  · intro y h1 h2
    have hy : y < h := by have := hg.len; omega
    rw [← rowAt_getElem h1, ← rowAt_getElem h2, rowAt_gridL hy]
    refine ext_gt (by rw [hg.row y hy]; simp) fun x hx => ?_
    rw [hg.row y hy] at hx
    simp [g2, gt, hx]
/-- one number of a grid is another. -/
def upd (F : Nat → Nat → Int) (y x : Nat) (z : Int) : Nat → Nat → Int := fun y' x' => if y' = y ∧ x' = x then z else F y' x'
theorem gridL_set {h wd : Nat} {F : Nat → Nat → Int} {y x : Nat} (hy : y < h) (z : Int) : (gridL h wd F).set y ((rowAt (gridL h wd F) y).set x z) = gridL h wd (upd F y x z) := by
  apply List.ext_getElem
  · simp [gridL]
  · intro y' h1 h2
    have hy' : y' < h := by simpa [gridL] using h2
    by_cases e : y' = y
    · subst e
      rw [List.getElem_set_self, ← rowAt_getElem h2, rowAt_gridL hy, rowAt_gridL hy]
      apply List.ext_getElem
      · simp
      · intro x' h3 h4
        by_cases e : x' = x
        · subst e; simp [upd]
        · simp [upd, e, Ne.symm e]
    · rw [List.getElem_set_ne (Ne.symm e), ← rowAt_getElem (by simpa [gridL] using hy'), ← rowAt_getElem h2, rowAt_gridL hy', rowAt_gridL hy']
      exact List.map_congr_left fun x' _ => by simp [upd, e]
/-- Rows of the program's own that all have wd > 0 numbers: row y, and what a store into it makes. -/
theorem OwM.row {w : World} {B : Nat} {gv cv n : Nat} {rows : List (List Int)} (h : OwMN w B (.slice (some ⟨gv, 0, none⟩) n cv) n rows) {y : Nat} (hy : y < n) (h0 : 0 < (rowAt rows y).length) :
    ∃ g c, w.cell? ⟨gv, y, none⟩ = some (.slice (some ⟨g, 0, none⟩) (rowAt rows y).length c) ∧ B ≤ g ∧ g < w.heap.size ∧ (∀ x, x < (rowAt rows y).length → w.cell? ⟨g, x, none⟩ = some (.int .i64 (gt (rowAt rows y) x))) ∧ (∀ x, w.frozen? ⟨g, x, none⟩ = false) ∧
      ∀ x z, OwMN (w.setCell ⟨g, x, none⟩ (.int .i64 z)) B (.slice (some ⟨gv, 0, none⟩) n cv) n (rows.set y ((rowAt rows y).set x z)) := by
  obtain ⟨hl, rs, h1, h2, h3, h4⟩ := h
  have hrl : rs.length = n := by have := h1.1; simpa using this
  have hyo := h2 y hy
  rcases hyo.form with ⟨e, e0⟩ | ⟨g, c, e, hB, hg, _, _⟩
  · rw [e0] at h0; simp at h0
  · refine ⟨g, c, ?_, hB, hg, fun x hx => ?_, fun x => ?_, fun x z => ?_⟩
    · rw [← e]
      exact (World.ownsRow.cellAt h1 y (by omega)).trans (vAt_some (by omega))
    · have ho := hyo
      rw [e] at ho
      exact OwN.cellAt (n := (rowAt rows y).length) ho hx
    · have ho := hyo
      rw [e] at ho
      exact OwN.frozenAt (n := (rowAt rows y).length) ho x
    · have ho := hyo
      rw [e] at ho
      have hst := OwN.stored (n := (rowAt rows y).length) ho x z
      have hob : (vAt rs y).ownBlock = some g := by rw [e]; rfl
      refine ⟨by rw [List.length_set]; exact hl, rs, World.ownsRow.kept h1 hst.2 ?_, fun i hi => ?_, h3, h4⟩
      · have := (h3 y hy).symm.ne
        rwa [hob] at this
      · by_cases e1 : i = y
        · subst e1
          rw [rowAt_set_same (by omega), e]
          have := hst.1.toI
          exact this
        · rw [rowAt_set_other e1]
          refine (h2 i hi).kept hst.2 ?_
          have hap : Apart (vAt rs i) (vAt rs y) := by
            rcases Nat.lt_or_ge i y with h | h
            · exact h4 i y h hy
            · exact (h4 y i (by omega) hi).symm
          have := hap.ne
          rwa [hob] at this
theorem OwM.open_ {w : World} {B : Nat} {v : Value} {rows : List (List Int)} (h : OwM w B v rows) (h0 : 0 < rows.length) : ∃ gv cv, v = .slice (some ⟨gv, 0, none⟩) rows.length cv := by
  obtain ⟨_, rs, h1, _⟩ := h
  rcases owns_form h1 with ⟨_, he⟩ | ⟨g, cap, rfl, _⟩
  · omega
  · exact ⟨g, cap, rfl⟩

/-- the least of a row's heights and slopes, from acc on. -/
def minRow (most : Int) (f : Nat → Nat → Int) (y x v : Nat) (acc : Int) : Nat → Int
  | 0 => acc
  | u + 1 => min (minRow most f y x v acc u) (f v u + most * (absI ((x : Int) - (u : Int)) + absI ((y : Int) - (v : Int))))
def minAll (most : Int) (f : Nat → Nat → Int) (wd y x : Nat) : Nat → Int
  | 0 => f y x
  | v + 1 => minRow most f y x v (minAll most f wd y x v) wd
/-- where the work stands: row y, place x, and the number there. -/
def smTo (most : Int) (f : Nat → Nat → Int) (h wd y x : Nat) (cur : Int) : Nat → Nat → Int := fun y' x' =>
  if y' < y ∨ (y' = y ∧ x' < x) then minAll most f wd y' x' h else if y' = y ∧ x' = x then cur else f y' x'
def smoothL (rows : List (List Int)) (most : Int) : List (List Int) :=
  if gridOk rows 8 8 0 20 && inR most 0 20 then gridL rows.length (rowAt rows 0).length (fun y x => minAll most (g2 rows) (rowAt rows 0).length y x rows.length) else []
theorem absI_bd {n : Int} (h : -8 ≤ n ∧ n ≤ 8) : 0 ≤ absI n ∧ absI n ≤ 8 := by unfold absI; split <;> omega
theorem slope_bd {most a b : Int} (hm : 0 ≤ most ∧ most ≤ 20) (ha : 0 ≤ a ∧ a ≤ 8) (hb : 0 ≤ b ∧ b ≤ 8) : 0 ≤ most * (a + b) ∧ most * (a + b) ≤ 320 := by
  refine ⟨Int.mul_nonneg hm.1 (by omega), ?_⟩
  have e1 : most * (a + b) ≤ 20 * (a + b) := Int.mul_le_mul_of_nonneg_right hm.2 (by omega)
  omega
theorem minRow_bd {most : Int} {f : Nat → Nat → Int} {h wd y x v : Nat} {acc : Int} (hm : 0 ≤ most ∧ most ≤ 20) (hf : ∀ y x, y < h → x < wd → 0 ≤ f y x ∧ f y x ≤ 20) (hh : h ≤ 8) (hw : wd ≤ 8) (hy : y < h) (hx : x < wd) (hv : v < h) (ha : 0 ≤ acc ∧ acc ≤ 20)
    {u : Nat} (hu : u ≤ wd) : 0 ≤ minRow most f y x v acc u ∧ minRow most f y x v acc u ≤ 20 := by
  induction u with
  | zero => exact ha
  | succ u ih =>
    have := ih (by omega)
    have h1 := hf v u hv (by omega)
    have h2 := slope_bd hm (absI_bd (n := (x : Int) - (u : Int)) (by omega)) (absI_bd (n := (y : Int) - (v : Int)) (by omega))
    simp only [minRow]
    omega
theorem minAll_bd {most : Int} {f : Nat → Nat → Int} {h wd y x : Nat} (hm : 0 ≤ most ∧ most ≤ 20) (hf : ∀ y x, y < h → x < wd → 0 ≤ f y x ∧ f y x ≤ 20) (hh : h ≤ 8) (hw : wd ≤ 8) (hy : y < h) (hx : x < wd) {v : Nat} (hv : v ≤ h) :
    0 ≤ minAll most f wd y x v ∧ minAll most f wd y x v ≤ 20 := by
  induction v with
  | zero => exact hf y x hy hx
  | succ v ih => exact minRow_bd hm hf hh hw hy hx (by omega) (ih (by omega)) (Nat.le_refl _)
theorem smTo_start {most : Int} {f : Nat → Nat → Int} {h wd y x : Nat} : ∀ y' x', y' < h → x' < wd → smTo most f h wd y x (f y x) y' x' = smTo most f h wd y x (minAll most f wd y x 0) y' x' := fun _ _ _ _ => rfl
theorem smTo_upd {most : Int} {f : Nat → Nat → Int} {h wd y x : Nat} (c z : Int) : upd (smTo most f h wd y x c) y x z = smTo most f h wd y x z := by
  funext y' x'
  unfold upd smTo
  by_cases e : y' = y ∧ x' = x
  · rw [if_pos e, if_neg (by omega), if_pos e]
  · rw [if_neg e, if_neg e, if_neg e]
theorem smTo_at {most : Int} {f : Nat → Nat → Int} {h wd y x : Nat} (c : Int) : smTo most f h wd y x c y x = c := by
  unfold smTo
  rw [if_neg (by omega), if_pos ⟨rfl, rfl⟩]
theorem smTo_next {most : Int} {f : Nat → Nat → Int} {h wd y x : Nat} : smTo most f h wd y x (minAll most f wd y x h) = smTo most f h wd y (x + 1) (f y (x + 1)) := by
  funext y' x'
  unfold smTo
  by_cases e1 : y' < y ∨ (y' = y ∧ x' < x)
  · rw [if_pos e1, if_pos (by omega)]
  · by_cases e2 : y' = y ∧ x' = x
    · rw [if_neg e1, if_pos e2, if_pos (by omega), e2.1, e2.2]
    · rw [if_neg e1, if_neg e2, if_neg (by omega)]
      by_cases e3 : y' = y ∧ x' = x + 1
      · rw [if_pos e3, e3.1, e3.2]
      · rw [if_neg e3]
theorem smTo_row {most : Int} {f : Nat → Nat → Int} {h wd y : Nat} {c : Int} : ∀ y' x', y' < h → x' < wd → smTo most f h wd y wd c y' x' = smTo most f h wd (y + 1) 0 (f (y + 1) 0) y' x' := by
  intro y' x' _ hx
  unfold smTo
  by_cases e1 : y' < y ∨ (y' = y ∧ x' < wd)
  · rw [if_pos e1, if_pos (by omega)]
  · rw [if_neg e1, if_neg (by omega), if_neg (by omega)]
    by_cases e3 : y' = y + 1 ∧ x' = 0
    · rw [if_pos e3, e3.1, e3.2]
    · rw [if_neg e3]
theorem smTo_zero {most : Int} {f : Nat → Nat → Int} {h wd : Nat} : ∀ y' x', y' < h → x' < wd → f y' x' = smTo most f h wd 0 0 (f 0 0) y' x' := by
  intro y' x' _ _
  unfold smTo
  rw [if_neg (by omega)]
  by_cases e3 : y' = 0 ∧ x' = 0
  · rw [if_pos e3, e3.1, e3.2]
  · rw [if_neg e3]
theorem smTo_end {most : Int} {f : Nat → Nat → Int} {h wd : Nat} {c : Int} : ∀ y' x', y' < h → x' < wd → smTo most f h wd h 0 c y' x' = minAll most f wd y' x' h := by
  intro y' x' hy _
  unfold smTo
  rw [if_pos (by omega)]

theorem OwM.nil (w : World) (B : Nat) : OwM w B (.slice none 0 0) [] := ⟨rfl, [], World.ownsRow_nil _ _ _ _, fun i hi => absurd hi (by simp), fun i hi => absurd hi (by simp), fun i j _ hj => absurd hj (by simp)⟩

end Go.Proofs.Ytlkaalbhhnineaa
