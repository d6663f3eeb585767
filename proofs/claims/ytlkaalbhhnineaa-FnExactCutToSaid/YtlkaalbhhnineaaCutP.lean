/- CutTo. -/
import Derived.Test.YtlkaalbhhnineaaCpI
import Derived.Test.YtlkaalbhhnineaaCpS
import Derived.Test.YtlkaalbhhnineaaGrid
import Derived.WalkKit
import Derived.ProofKit
import Derived.Handy
import Derived.OpenShut
import Derived.ShutString
import Derived.ChangeOld
import Derived.Below
import Derived.BigQuiet
import Derived.Deep.QuietTactic
import Derived.Deep.Draws
import Derived.Deep.DeepCutAuto
import Derived.Deep.DeepFit
import Derived.Deep.LoopGhost
import Derived.Outline
import Derived.WalkSpells
import Derived.WalkLawsBesides
import Derived.WalkSmall
import Derived.Laws.OwnMore
import Derived.OneCell
import Derived.Laws.Rows
import Derived.Maps.AppendAt
import Derived.StillTailTactics
import Derived.Lib.SmallJoins
import Derived.Deep.RegionWith
import Derived.Deep.RegionHeld3
import Derived.RegionTactic
import Derived.Deep.Matrix
import Derived.Deep.Fields
import Derived.ChangeSame
namespace Go.Proofs.Ytlkaalbhhnineaa
open Go.RowKit

/-- h rows of wd numbers. -/
def gridL (h wd : Nat) (F : Nat → Nat → Int) : List (List Int) := (List.range h).map fun y => (List.range wd).map fun x => F y x
theorem gridL_length (h wd : Nat) (F : Nat → Nat → Int) : (gridL h wd F).length = h := by simp [gridL]
theorem rowAt_gridL {h wd : Nat} {F : Nat → Nat → Int} {y : Nat} (hy : y < h) : rowAt (gridL h wd F) y = (List.range wd).map fun x => F y x := by simp [rowAt, gridL, hy]
theorem row_gridL_length {h wd : Nat} {F : Nat → Nat → Int} {y : Nat} (hy : y < h) : (rowAt (gridL h wd F) y).length = wd := by rw [rowAt_gridL hy]; simp
theorem g2_gridL {h wd : Nat} {F : Nat → Nat → Int} {y x : Nat} (hy : y < h) (hx : x < wd) : g2 (gridL h wd F) y x = F y x := by
  unfold g2
  rw [rowAt_gridL hy]
  simp [gt, hx]
theorem gridL_congr {h wd : Nat} {F G : Nat → Nat → Int} (hfg : ∀ y x, y < h → x < wd → F y x = G y x) : gridL h wd F = gridL h wd G := by
  unfold gridL
  exact List.map_congr_left fun y hy => List.map_congr_left fun x hx => hfg y x (List.mem_range.1 hy) (List.mem_range.1 hx)
theorem grid_eq {rows : List (List Int)} {h wd : Nat} {lo hi : Int} (hg : Grid rows h wd lo hi) : rows = gridL h wd (g2 rows) := by
  apply List.ext_getElem
  · rw [gridL_length]; exact hg.len
  · intro y h1 h2
    have hy : y < h := by have := hg.len; omega
    rw [← rowAt_getElem h1, ← rowAt_getElem h2, rowAt_gridL hy]
    refine ext_gt (by rw [hg.row y hy]; simp) fun x hx => ?_
    rw [hg.row y hy] at hx
    simp [g2, gt, hx]
/-- one number of a grid is another. -/
def upd (F : Nat → Nat → Int) (y x : Nat) (z : Int) : Nat → Nat → Int := fun y' x' => if y' = y ∧ x' = x then z else F y' x'
theorem gridL_set {h wd : Nat} {F : Nat → Nat → Int} {y x : Nat} (hy : y < h) (z : Int) : (gridL h wd F).set y ((rowAt (gridL h wd F) y).set x z) = gridL h wd (upd F y x z) := by
  apply List.ext_getElem
  · simp [gridL]
  · intro y' h1 h2
    have hy' : y' < h := by simpa [gridL] using h2
    by_cases e : y' = y
    · subst e
      rw [List.getElem_set_self, ← rowAt_getElem h2, rowAt_gridL hy, rowAt_gridL hy]
      apply List.ext_getElem
      · simp
      · intro x' h3 h4
        by_cases e : x' = x
        · subst e; simp [upd]
        · simp [upd, e, Ne.symm e]
    · rw [List.getElem_set_ne (Ne.symm e), ← rowAt_getElem (by simpa [gridL] using hy'), ← rowAt_getElem h2, rowAt_gridL hy', rowAt_gridL hy']
      exact List.map_congr_left fun x' _ => by simp [upd, e]
/-- Rows of the program's own that all have wd > 0 numbers: row y, and what a store into it makes. -/
theorem OwM.row {w : World} {B : Nat} {gv cv n : Nat} {rows : List (List Int)} (h : OwMN w B (.slice (some ⟨gv, 0, none⟩) n cv) n rows) {y : Nat} (hy : y < n) (h0 : 0 < (rowAt rows y).length) :
    ∃ g c, w.cell? ⟨gv, y, none⟩ = some (.slice (some ⟨g, 0, none⟩) (rowAt rows y).length c) ∧ B ≤ g ∧ g < w.heap.size ∧ (∀ x, x < (rowAt rows y).length → w.cell? ⟨g, x, none⟩ = some (.int .i64 (gt (rowAt rows y) x))) ∧ (∀ x, w.frozen? ⟨g, x, none⟩ = false) ∧
      ∀ x z, OwMN (w.setCell ⟨g, x, none⟩ (.int .i64 z)) B (.slice (some ⟨gv, 0, none⟩) n cv) n (rows.set y ((rowAt rows y).set x z)) := by
  obtain ⟨hl, rs, h1, h2, h3, h4⟩ := h
  have hrl : rs.length = n := by have := h1.1; simpa using this
  have hyo := h2 y hy
  rcases hyo.form with ⟨e, e0⟩ | ⟨g, c, e, hB, hg, _, _⟩
  · rw [e0] at h0; simp at h0
  · refine ⟨g, c, ?_, hB, hg, fun x hx => ?_, fun x => ?_, fun x z => ?_⟩
    · rw [← e]
      exact (World.ownsRow.cellAt h1 y (by omega)).trans (vAt_some (by omega))
    · have ho := hyo
      rw [e] at ho
      exact OwN.cellAt (n := (rowAt rows y).length) ho hx
    · have ho := hyo
      rw [e] at ho
      exact OwN.frozenAt (n := (rowAt rows y).length) ho x
    · have ho := hyo
      rw [e] at ho
      have hst := OwN.stored (n := (rowAt rows y).length) ho x z
      have hob : (vAt rs y).ownBlock = some g := by rw [e]; rfl
      refine ⟨by rw [List.length_set]; exact hl, rs, World.ownsRow.kept h1 hst.2 ?_, fun i hi => ?_, h3, h4⟩
      · have := (h3 y hy).symm.ne
        rwa [hob] at this
      · by_cases e1 : i = y
        · subst e1
          rw [rowAt_set_same (by omega), e]
          have := hst.1.toI
          exact this
        · rw [rowAt_set_other e1]
          refine (h2 i hi).kept hst.2 ?_
          have hap : Apart (vAt rs i) (vAt rs y) := by
            rcases Nat.lt_or_ge i y with h | h
            · exact h4 i y h hy
            · exact (h4 y i (by omega) hi).symm
          have := hap.ne
          rwa [hob] at this
theorem OwM.open_ {w : World} {B : Nat} {v : Value} {rows : List (List Int)} (h : OwM w B v rows) (h0 : 0 < rows.length) : ∃ gv cv, v = .slice (some ⟨gv, 0, none⟩) rows.length cv := by
  obtain ⟨_, rs, h1, _⟩ := h
  rcases owns_form h1 with ⟨_, he⟩ | ⟨g, cap, rfl, _⟩
  · omega
  · exact ⟨g, cap, rfl⟩

/-- the place can be cut so. -/
def cutOk (rows : List (List Int)) (x y z : Int) : Bool := gridOk rows 8 8 0 20 && (inR y 0 ((rows.length : Int) - 1) && (inR x 0 (((rowAt rows 0).length : Int) - 1) && inR z 0 (g2 rows y.toNat x.toNat)))
def cutL (rows : List (List Int)) (x y z : Int) : List (List Int) := if cutOk rows x y z then rows.set y.toNat ((rowAt rows y.toNat).set x.toNat z) else rows
theorem sumLen_set {rows : List (List Int)} {y : Nat} {r : List Int} (hr : r.length = (rowAt rows y).length) (k : Nat) : sumLen (rows.set y r) k = sumLen rows k := by
  induction k with
  | zero => rfl
  | succ k ih =>
    simp only [sumLen]
    rw [ih]
    by_cases e : k = y
    · subst e
      by_cases h : k < rows.length
      · rw [rowAt_set_same h, hr]
      · have : rows.set k r = rows := List.set_eq_of_length_le (by omega)
        rw [this]
    · rw [rowAt_set_other e]
theorem CutTo_len (rows : List (List Int)) (x y z : Int) (h : OkM rows) : OkM (cutL rows x y z) := by
  unfold cutL
  split
  · refine ⟨by rw [List.length_set]; exact h.1, ?_⟩
    rw [sumLen_set (by simp), List.length_set]
    exact h.2
  · exact h

set_option maxHeartbeats 2000000 in
theorem impl_CutTo (v : Value) (rows : List (List Int)) (x y z : Int) (w : World) (h : RdM w v rows) (hl : OkM rows) (_ : I64 x) (_ : I64 y) (_ : I64 z) :
    Calls Try.prog 25 #[v, .int .i64 x, .int .i64 y, .int .i64 z] w fun e w' => ∃ u, e = .returned (.tuple #[u, .bool (cutOk rows x y z)]) ∧ OwM w' w.heap.size u (cutL rows x y z) ∧ Nx w w' := by
  have hv := h
  obtain ⟨A, c, rfl, hx⟩ := h
  have Hx := hide hx
  clear hx
  cases hg : gridOk rows 8 8 0 20 with
  | false =>
    have hf := hide (show cutOk rows x y z = false from by simp [cutOk, hg])
    go_enter Try.func25, Try.ntmps25
    go_wp2_with fail
    refine (copyRows_any _ _ _ hv hl).mono ?_
    rintro e w1 ⟨u, rfl, ho, b⟩
    go_wp2_with fail
    refine (impl_BlockOk _ _ _ (hv.below b) hl).mono ?_
    rintro e w2 ⟨rfl, b2⟩
    have G := hide (And.intro (ho.below b2) (b.trans b2))
    clear ho b b2
    rw [hg]
    go_wp2_with fail
    go_ret2
    exact ⟨u, by rw [hf.out]; rfl, by unfold cutL; rw [hf.out]; exact G.out.1, G.out.2⟩
  | true =>
  obtain ⟨hG, hh, hw⟩ := gridOk_grid hg
  cases h1 : inR y 0 ((rows.length : Int) - 1) with
  | false =>
    have hf := hide (show cutOk rows x y z = false from by simp [cutOk, h1])
    clear hG
    go_enter Try.func25, Try.ntmps25
    go_wp2_with fail
    refine (copyRows_any _ _ _ hv hl).mono ?_
    rintro e w1 ⟨u, rfl, ho, b⟩
    go_wp2_with fail
    refine (impl_BlockOk _ _ _ (hv.below b) hl).mono ?_
    rintro e w2 ⟨rfl, b2⟩
    have G := hide (And.intro (ho.below b2) (b.trans b2))
    clear ho b b2
    rw [hg]
    go_wp2_with (go_at_call 42; refine (within_any _ _ _ _).mono ?_; rintro e w' ⟨rfl, rfl⟩)
    go_ret2
    exact ⟨u, by rw [hf.out]; rfl, by unfold cutL; rw [hf.out]; exact G.out.1, G.out.2⟩
  | true =>
  have b1 := inR_iff.1 h1
  obtain ⟨Y, rfl⟩ := Int.eq_ofNat_of_zero_le b1.1
  have hY : Y < rows.length := by omega
  obtain ⟨b0, off, rfl, hb0, hc⟩ := Hx.out (by omega)
  obtain ⟨A0, c0, hr0, A0', c0', e0, hz0⟩ := hc 0 (by omega)
  obtain ⟨A1, c1, hr1, A1', c1', e1, hz1⟩ := hc Y hY
  have hrow0 := hG.row 0 (by omega)
  have hrowY := hG.row Y hY
  injection e1 with e2 e3 e4
  subst e2
  clear e0 e3 e4 hz0 hc b1
  cases h2 : inR x 0 (((rowAt rows 0).length : Int) - 1) with
  | false =>
    have hf := hide (show cutOk rows x (Y : Int) z = false from by simp [cutOk, h2])
    clear hG hrow0 hrowY hz1
    go_enter Try.func25, Try.ntmps25
    go_wp2_with fail
    refine (copyRows_any _ _ _ hv hl).mono ?_
    rintro e w1 ⟨u, rfl, ho, b⟩
    go_wp2_with fail
    refine (impl_BlockOk _ _ _ (hv.below b) hl).mono ?_
    rintro e w2 ⟨rfl, b2⟩
    have q0 := ((b.trans b2).cells b0 (off + 0) hb0).trans hr0
    rw [Nat.add_zero] at q0
    have G := hide (And.intro (ho.below b2) (b.trans b2))
    clear ho b b2 hr0 hr1
    rw [hg]
    go_wp2_with (go_at_call 42; refine (within_any _ _ _ _).mono ?_; rintro e w' ⟨rfl, rfl⟩)
    go_ret2
    exact ⟨u, by rw [hf.out]; rfl, by unfold cutL; rw [hf.out]; exact G.out.1, G.out.2⟩
  | true =>
  have b2 := inR_iff.1 h2
  obtain ⟨X, rfl⟩ := Int.eq_ofNat_of_zero_le b2.1
  have hX : X < (rowAt rows 0).length := by omega
  have hXi : (X : Int) < ((rowAt rows 0).length : Int) := by omega
  have hXY : X < (rowAt rows Y).length := by omega
  obtain ⟨b5, off5, rfl, hb5, hcc⟩ := hz1 (by omega)
  have hcell := hcc X hXY
  have HrowY := hide hrowY
  have hYl : ((X : Nat) : Int) < ((rowAt rows Y).length : Int) := by omega
  have hYi : (Y : Int) < (rows.length : Int) := by omega
  clear hG hrow0 hrowY hcc b2
  cases h3 : inR z 0 (g2 rows Y X) with
  | false =>
    have hf := hide (show cutOk rows (X : Int) (Y : Int) z = false from by simp [cutOk, h3])
    go_enter Try.func25, Try.ntmps25
    go_wp2_with fail
    refine (copyRows_any _ _ _ hv hl).mono ?_
    rintro e w1 ⟨u, rfl, ho, b⟩
    go_wp2_with fail
    refine (impl_BlockOk _ _ _ (hv.below b) hl).mono ?_
    rintro e w2 ⟨rfl, b2⟩
    have q0 := ((b.trans b2).cells b0 (off + 0) hb0).trans hr0
    rw [Nat.add_zero] at q0
    have q1 := ((b.trans b2).cells b0 (off + Y) hb0).trans hr1
    have q2 := ((b.trans b2).cells b5 (off5 + X) hb5).trans hcell
    change _ = some (Value.int .i64 (g2 rows Y X)) at q2
    have G := hide (And.intro (ho.below b2) (b.trans b2))
    clear ho b b2 hr0 hr1 hcell
    rw [hg]
    go_wp2_with (go_at_call 42; refine (within_any _ _ _ _).mono ?_; rintro e w' ⟨rfl, rfl⟩)
    go_ret2
    exact ⟨u, by rw [hf.out]; rfl, by unfold cutL; rw [hf.out]; exact G.out.1, G.out.2⟩
  | true =>
    have hf := hide (show cutOk rows (X : Int) (Y : Int) z = true from by simp [cutOk, hg, h1, h2, h3])
    have hfl := hide (show cutL rows (X : Int) (Y : Int) z = rows.set Y ((rowAt rows Y).set X z) from by unfold cutL; rw [hf.out, if_pos rfl]; rfl)
    go_enter Try.func25, Try.ntmps25
    go_wp2_with fail
    refine (copyRows_any _ _ _ hv hl).mono ?_
    rintro e w1 ⟨u, rfl, ho, b⟩
    go_wp2_with fail
    refine (impl_BlockOk _ _ _ (hv.below b) hl).mono ?_
    rintro e w2 ⟨rfl, b2⟩
    have q0 := ((b.trans b2).cells b0 (off + 0) hb0).trans hr0
    rw [Nat.add_zero] at q0
    have q1 := ((b.trans b2).cells b0 (off + Y) hb0).trans hr1
    have q2 := ((b.trans b2).cells b5 (off5 + X) hb5).trans hcell
    change _ = some (Value.int .i64 (g2 rows Y X)) at q2
    have ho2 := ho.below b2
    obtain ⟨gv, cv, rfl⟩ := ho2.open_ (by omega)
    obtain ⟨g, cg, k1, k2, k3, k4, k5, k6⟩ := OwM.row ho2 hY (by omega)
    have k7 := k4 X hXY
    have k8 := k5 X
    have R := hide (And.intro (k6 X z).toM ((b.trans b2).setCell (p := ⟨g, X, none⟩) k2 (.int .i64 z)))
    clear ho ho2 b b2 hr0 hr1 hcell k2 k3 k4 k5 k6
    rw [hg]
    go_wp2_with (go_at_call 42; refine (within_any _ _ _ _).mono ?_; rintro e w' ⟨rfl, rfl⟩)
    go_ret2
    exact ⟨.slice (some ⟨gv, 0, none⟩) rows.length cv, by rw [hf.out]; rfl, by rw [hfl.out]; exact R.out.1, R.out.2⟩

set_option maxHeartbeats 2000000 in
theorem spec_CutTo (v : Value) (rows : List (List Int)) (x y z : Int) (w : World) (h : RdM w v rows) (hl : OkM rows) (_ : I64 x) (_ : I64 y) (_ : I64 z) :
    Calls Try.prog 24 #[v, .int .i64 x, .int .i64 y, .int .i64 z] w fun e w' => ∃ u, e = .returned (.tuple #[u, .bool (cutOk rows x y z)]) ∧ OwM w' w.heap.size u (cutL rows x y z) ∧ Nx w w' := by
  have hv := h
  obtain ⟨A, c, rfl, hx⟩ := h
  have Hx := hide hx
  clear hx
  cases hg : gridOk rows 8 8 0 20 with
  | false =>
    have hf := hide (show cutOk rows x y z = false from by simp [cutOk, hg])
    go_enter Try.func24, Try.ntmps24
    go_wp2_with fail
    refine (l20Copy_any _ _ _ hv hl).mono ?_
    rintro e w1 ⟨u, rfl, ho, b⟩
    go_wp2_with fail
    refine (spec_BlockOk _ _ _ (hv.below b) hl).mono ?_
    rintro e w2 ⟨rfl, b2⟩
    have G := hide (And.intro (ho.below b2) (b.trans b2))
    clear ho b b2
    rw [hg]
    go_wp2_with fail
    go_ret2
    exact ⟨u, by rw [hf.out]; rfl, by unfold cutL; rw [hf.out]; exact G.out.1, G.out.2⟩
  | true =>
  obtain ⟨hG, hh, hw⟩ := gridOk_grid hg
  cases h1 : inR y 0 ((rows.length : Int) - 1) with
  | false =>
    have hf := hide (show cutOk rows x y z = false from by simp [cutOk, h1])
    clear hG
    go_enter Try.func24, Try.ntmps24
    go_wp2_with fail
    refine (l20Copy_any _ _ _ hv hl).mono ?_
    rintro e w1 ⟨u, rfl, ho, b⟩
    go_wp2_with fail
    refine (spec_BlockOk _ _ _ (hv.below b) hl).mono ?_
    rintro e w2 ⟨rfl, b2⟩
    have G := hide (And.intro (ho.below b2) (b.trans b2))
    clear ho b b2
    rw [hg]
    go_wp2_with (go_at_call 35; refine (l01In_any _ _ _ _).mono ?_; rintro e w' ⟨rfl, rfl⟩)
    go_ret2
    exact ⟨u, by rw [hf.out]; rfl, by unfold cutL; rw [hf.out]; exact G.out.1, G.out.2⟩
  | true =>
  have b1 := inR_iff.1 h1
  obtain ⟨Y, rfl⟩ := Int.eq_ofNat_of_zero_le b1.1
  have hY : Y < rows.length := by omega
  obtain ⟨b0, off, rfl, hb0, hc⟩ := Hx.out (by omega)
  obtain ⟨A0, c0, hr0, A0', c0', e0, hz0⟩ := hc 0 (by omega)
  obtain ⟨A1, c1, hr1, A1', c1', e1, hz1⟩ := hc Y hY
  have hrow0 := hG.row 0 (by omega)
  have hrowY := hG.row Y hY
  injection e1 with e2 e3 e4
  subst e2
  clear e0 e3 e4 hz0 hc b1
  cases h2 : inR x 0 (((rowAt rows 0).length : Int) - 1) with
  | false =>
    have hf := hide (show cutOk rows x (Y : Int) z = false from by simp [cutOk, h2])
    clear hG hrow0 hrowY hz1
    go_enter Try.func24, Try.ntmps24
    go_wp2_with fail
    refine (l20Copy_any _ _ _ hv hl).mono ?_
    rintro e w1 ⟨u, rfl, ho, b⟩
    go_wp2_with fail
    refine (spec_BlockOk _ _ _ (hv.below b) hl).mono ?_
    rintro e w2 ⟨rfl, b2⟩
    have q0 := ((b.trans b2).cells b0 (off + 0) hb0).trans hr0
    rw [Nat.add_zero] at q0
    have G := hide (And.intro (ho.below b2) (b.trans b2))
    clear ho b b2 hr0 hr1
    rw [hg]
    go_wp2_with (go_at_call 35; refine (l01In_any _ _ _ _).mono ?_; rintro e w' ⟨rfl, rfl⟩)
    go_ret2
    exact ⟨u, by rw [hf.out]; rfl, by unfold cutL; rw [hf.out]; exact G.out.1, G.out.2⟩
  | true =>
  have b2 := inR_iff.1 h2
  obtain ⟨X, rfl⟩ := Int.eq_ofNat_of_zero_le b2.1
  have hX : X < (rowAt rows 0).length := by omega
  have hXi : (X : Int) < ((rowAt rows 0).length : Int) := by omega
  have hXY : X < (rowAt rows Y).length := by omega
  obtain ⟨b5, off5, rfl, hb5, hcc⟩ := hz1 (by omega)
  have hcell := hcc X hXY
  have HrowY := hide hrowY
  have hYl : ((X : Nat) : Int) < ((rowAt rows Y).length : Int) := by omega
  have hYi : (Y : Int) < (rows.length : Int) := by omega
  clear hG hrow0 hrowY hcc b2
  cases h3 : inR z 0 (g2 rows Y X) with
  | false =>
    have hf := hide (show cutOk rows (X : Int) (Y : Int) z = false from by simp [cutOk, h3])
    go_enter Try.func24, Try.ntmps24
    go_wp2_with fail
    refine (l20Copy_any _ _ _ hv hl).mono ?_
    rintro e w1 ⟨u, rfl, ho, b⟩
    go_wp2_with fail
    refine (spec_BlockOk _ _ _ (hv.below b) hl).mono ?_
    rintro e w2 ⟨rfl, b2⟩
    have q0 := ((b.trans b2).cells b0 (off + 0) hb0).trans hr0
    rw [Nat.add_zero] at q0
    have q1 := ((b.trans b2).cells b0 (off + Y) hb0).trans hr1
    have q2 := ((b.trans b2).cells b5 (off5 + X) hb5).trans hcell
    change _ = some (Value.int .i64 (g2 rows Y X)) at q2
    have G := hide (And.intro (ho.below b2) (b.trans b2))
    clear ho b b2 hr0 hr1 hcell
    rw [hg]
    go_wp2_with (go_at_call 35; refine (l01In_any _ _ _ _).mono ?_; rintro e w' ⟨rfl, rfl⟩)
    go_ret2
    exact ⟨u, by rw [hf.out]; rfl, by unfold cutL; rw [hf.out]; exact G.out.1, G.out.2⟩
  | true =>
    have hf := hide (show cutOk rows (X : Int) (Y : Int) z = true from by simp [cutOk, hg, h1, h2, h3])
    have hfl := hide (show cutL rows (X : Int) (Y : Int) z = rows.set Y ((rowAt rows Y).set X z) from by unfold cutL; rw [hf.out, if_pos rfl]; rfl)
    go_enter Try.func24, Try.ntmps24
    go_wp2_with fail
    refine (l20Copy_any _ _ _ hv hl).mono ?_
    rintro e w1 ⟨u, rfl, ho, b⟩
    go_wp2_with fail
    refine (spec_BlockOk _ _ _ (hv.below b) hl).mono ?_
    rintro e w2 ⟨rfl, b2⟩
    have q0 := ((b.trans b2).cells b0 (off + 0) hb0).trans hr0
    rw [Nat.add_zero] at q0
    have q1 := ((b.trans b2).cells b0 (off + Y) hb0).trans hr1
    have q2 := ((b.trans b2).cells b5 (off5 + X) hb5).trans hcell
    change _ = some (Value.int .i64 (g2 rows Y X)) at q2
    have ho2 := ho.below b2
    obtain ⟨gv, cv, rfl⟩ := ho2.open_ (by omega)
    obtain ⟨g, cg, k1, k2, k3, k4, k5, k6⟩ := OwM.row ho2 hY (by omega)
    have k7 := k4 X hXY
    have k8 := k5 X
    have R := hide (And.intro (k6 X z).toM ((b.trans b2).setCell (p := ⟨g, X, none⟩) k2 (.int .i64 z)))
    clear ho ho2 b b2 hr0 hr1 hcell k2 k3 k4 k5 k6
    rw [hg]
    go_wp2_with (go_at_call 35; refine (l01In_any _ _ _ _).mono ?_; rintro e w' ⟨rfl, rfl⟩)
    go_ret2
    exact ⟨.slice (some ⟨gv, 0, none⟩) rows.length cv, by rw [hf.out]; rfl, by rw [hfl.out]; exact R.out.1, R.out.2⟩

end Go.Proofs.Ytlkaalbhhnineaa
