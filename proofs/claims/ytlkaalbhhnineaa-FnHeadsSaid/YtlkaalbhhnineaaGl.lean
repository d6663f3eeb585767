/- Grids as functions. -/
import Derived.Test.YtlkaalbhhnineaaCpI
import Derived.Test.YtlkaalbhhnineaaCpS
import Derived.Test.YtlkaalbhhnineaaSteep
import Derived.Test.YtlkaalbhhnineaaCarve
import Derived.Test.YtlkaalbhhnineaaCuts
import Derived.WalkKit
import Derived.ProofKit
import Derived.Handy
import Derived.OpenShut
import Derived.ShutString
import Derived.ChangeOld
import Derived.Below
import Derived.BigQuiet
import Derived.Deep.QuietTactic
import Derived.Deep.Draws
import Derived.Deep.DeepCutAuto
import Derived.Deep.DeepFit
import Derived.Deep.LoopGhost
import Derived.Outline
import Derived.WalkSpells
import Derived.WalkLawsBesides
import Derived.WalkSmall
import Derived.Laws.OwnMore
import Derived.OneCell
import Derived.Laws.Rows
import Derived.Maps.AppendAt
import Derived.StillTailTactics
import Derived.Lib.SmallJoins
import Derived.Deep.RegionWith
import Derived.Deep.RegionHeld3
import Derived.RegionTactic
import Derived.Deep.Matrix
import Derived.Deep.Fields
import Derived.ChangeSame
namespace Go.Proofs.Ytlkaalbhhnineaa
open Go.RowKit

/-- h rows of wd numbers. -/
def gridL (h wd : Nat) (F : Nat → Nat → Int) : List (List Int) := (List.range h).map fun y => (List.range wd).map fun x => F y x
theorem gridL_length (h wd : Nat) (F : Nat → Nat → Int) : (gridL h wd F).length = h := by simp [gridL]
theorem rowAt_gridL {h wd : Nat} {F : Nat → Nat → Int} {y : Nat} (hy : y < h) : rowAt (gridL h wd F) y = (List.range wd).map fun x => F y x := by simp [rowAt, gridL, hy]
theorem row_gridL_length {h wd : Nat} {F : Nat → Nat → Int} {y : Nat} (hy : y < h) : (rowAt (gridL h wd F) y).length = wd := by rw [rowAt_gridL hy]; simp
theorem g2_gridL {h wd : Nat} {F : Nat → Nat → Int} {y x : Nat} (hy : y < h) (hx : x < wd) : g2 (gridL h wd F) y x = F y x := by
  unfold g2
  rw [rowAt_gridL hy]
  simp [gt, hx]
theorem gridL_congr {h wd : Nat} {F G : Nat → Nat → Int} (hfg : ∀ y x, y < h → x < wd → F y x = G y x) : gridL h wd F = gridL h wd G := by
  unfold gridL
  exact List.map_congr_left fun y hy => List.map_congr_left fun x hx => hfg y x (List.mem_range.1 hy) (List.mem_range.1 hx)
theorem grid_eq {rows : List (List Int)} {h wd : Nat} {lo hi : Int} (hg : Grid rows h wd lo hi) : rows = gridL h wd (g2 rows) := by
  apply List.ext_getElem
  · rw [gridL_length]; exact hg.len
  · intro y h1 h2
    have hy : y < h := by have := hg.len; omega
    rw [← rowAt_getElem h1, ← rowAt_getElem h2, rowAt_gridL hy]
    refine ext_gt (by rw [hg.row y hy]; simp) fun x hx => ?_
    rw [hg.row y hy] at hx
    simp [g2, gt, hx]
/-- one number of a grid is another. -/
def upd (F : Nat → Nat → Int) (y x : Nat) (z : Int) : Nat → Nat → Int := fun y' x' => if y' = y ∧ x' = x then z else F y' x'
theorem gridL_set {h wd : Nat} {F : Nat → Nat → Int} {y x : Nat} (hy : y < h) (z : Int) : (gridL h wd F).set y ((rowAt (gridL h wd F) y).set x z) = gridL h wd (upd F y x z) := by
  apply List.ext_getElem
  · simp [gridL]
  · intro y' h1 h2
    have hy' : y' < h := by simpa [gridL] using h2
    by_cases e : y' = y
    · subst e
      rw [List.getElem_set_self, ← rowAt_getElem h2, rowAt_gridL hy, rowAt_gridL hy]
      apply List.ext_getElem
      · simp
      · intro x' h3 h4
        by_cases e : x' = x
        · subst e; simp [upd]
        · simp [upd, e, Ne.symm e]
    · rw [List.getElem_set_ne (Ne.symm e), ← rowAt_getElem (by simpa [gridL] using hy'), ← rowAt_getElem h2, rowAt_gridL hy', rowAt_gridL hy']
      exact List.map_congr_left fun x' _ => by simp [upd, e]
/-- Rows of the program's own that all have wd > 0 numbers: row y, and what a store into it makes. -/
theorem OwM.row {w : World} {B : Nat} {gv cv n : Nat} {rows : List (List Int)} (h : OwMN w B (.slice (some ⟨gv, 0, none⟩) n cv) n rows) {y : Nat} (hy : y < n) (h0 : 0 < (rowAt rows y).length) :
    ∃ g c, w.cell? ⟨gv, y, none⟩ = some (.slice (some ⟨g, 0, none⟩) (rowAt rows y).length c) ∧ B ≤ g ∧ g < w.heap.size ∧ (∀ x, x < (rowAt rows y).length → w.cell? ⟨g, x, none⟩ = some (.int .i64 (gt (rowAt rows y) x))) ∧ (∀ x, w.frozen? ⟨g, x, none⟩ = false) ∧
      ∀ x z, OwMN (w.setCell ⟨g, x, none⟩ (.int .i64 z)) B (.slice (some ⟨gv, 0, none⟩) n cv) n (rows.set y ((rowAt rows y).set x z)) := by
  obtain ⟨hl, rs, h1, h2, h3, h4⟩ := h
  have hrl : rs.length = n := by have := h1.1; simpa using this
  have hyo := h2 y hy
  rcases hyo.form with ⟨e, e0⟩ | ⟨g, c, e, hB, hg, _, _⟩
  · rw [e0] at h0; simp at h0
  · refine ⟨g, c, ?_, hB, hg, fun x hx => ?_, fun x => ?_, fun x z => ?_⟩
    · rw [← e]
      exact (World.ownsRow.cellAt h1 y (by omega)).trans (vAt_some (by omega))
    · have ho := hyo
      rw [e] at ho
      exact OwN.cellAt (n := (rowAt rows y).length) ho hx
    · have ho := hyo
      rw [e] at ho
      exact OwN.frozenAt (n := (rowAt rows y).length) ho x
    · have ho := hyo
      rw [e] at ho
      have hst := OwN.stored (n := (rowAt rows y).length) ho x z
      have hob : (vAt rs y).ownBlock = some g := by rw [e]; rfl
      refine ⟨by rw [List.length_set]; exact hl, rs, World.ownsRow.kept h1 hst.2 ?_, fun i hi => ?_, h3, h4⟩
      · have := (h3 y hy).symm.ne
        rwa [hob] at this
      · by_cases e1 : i = y
        · subst e1
          rw [rowAt_set_same (by omega), e]
          have := hst.1.toI
          exact this
        · rw [rowAt_set_other e1]
          refine (h2 i hi).kept hst.2 ?_
          have hap : Apart (vAt rs i) (vAt rs y) := by
            rcases Nat.lt_or_ge i y with h | h
            · exact h4 i y h hy
            · exact (h4 y i (by omega) hi).symm
          have := hap.ne
          rwa [hob] at this
theorem OwM.open_ {w : World} {B : Nat} {v : Value} {rows : List (List Int)} (h : OwM w B v rows) (h0 : 0 < rows.length) : ∃ gv cv, v = .slice (some ⟨gv, 0, none⟩) rows.length cv := by
  obtain ⟨_, rs, h1, _⟩ := h
  rcases owns_form h1 with ⟨_, he⟩ | ⟨g, cap, rfl, _⟩
  · omega
  · exact ⟨g, cap, rfl⟩

end Go.Proofs.Ytlkaalbhhnineaa
