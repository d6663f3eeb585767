/- SeatPeople: the plain law. -/
import Derived.Test.YtkjclpbemdilbaaCpI
import Derived.Test.YtkjclpbemdilbaaCpS
import Derived.Test.YtkjclpbemdilbaaFree
import Derived.WalkKit
import Derived.ProofKit
import Derived.Handy
import Derived.OpenShut
import Derived.ShutString
import Derived.ChangeOld
import Derived.Below
import Derived.BigQuiet
import Derived.Deep.QuietTactic
import Derived.Deep.Draws
import Derived.Deep.DeepCutAuto
import Derived.Deep.DeepFit
import Derived.Deep.LoopGhost
import Derived.Outline
import Derived.WalkSpells
import Derived.WalkLawsBesides
import Derived.WalkSmall
import Derived.Laws.OwnMore
import Derived.OneCell
import Derived.Laws.Rows
import Derived.Maps.AppendAt
import Derived.StillTailTactics
import Derived.Lib.SmallJoins
import Derived.Deep.RegionWith
import Derived.Deep.RegionHeld3
import Derived.RegionTactic
import Derived.Deep.Matrix
import Derived.Deep.Fields
import Derived.ChangeSame
namespace Go.Proofs.Ytkjclpbemdilbaa
open Go.RowKit

/-- h rows of wd numbers. -/
def gridL (h wd : Nat) (F : Nat → Nat → Int) : List (List Int) := (List.range h).map fun y => (List.range wd).map fun x => F y x
theorem gridL_length (h wd : Nat) (F : Nat → Nat → Int) : (gridL h wd F).length = h := by simp [gridL]
theorem rowAt_gridL {h wd : Nat} {F : Nat → Nat → Int} {y : Nat} (hy : y < h) : rowAt (gridL h wd F) y = (List.range wd).map fun x => F y x := by simp [rowAt, gridL, hy]
theorem row_gridL_length {h wd : Nat} {F : Nat → Nat → Int} {y : Nat} (hy : y < h) : (rowAt (gridL h wd F) y).length = wd := by rw [rowAt_gridL hy]; simp
theorem g2_gridL {h wd : Nat} {F : Nat → Nat → Int} {y x : Nat} (hy : y < h) (hx : x < wd) : g2 (gridL h wd F) y x = F y x := by
  unfold g2
  rw [rowAt_gridL hy]
  simp [gt, hx]
theorem gridL_congr {h wd : Nat} {F G : Nat → Nat → Int} (hfg : ∀ y x, y < h → x < wd → F y x = G y x) : gridL h wd F = gridL h wd G := by
  unfold gridL
  exact List.map_congr_left fun y hy => List.map_congr_left fun x hx => hfg y x (List.mem_range.1 hy) (List.mem_range.1 hx)
theorem grid_eq {rows : List (List Int)} {h wd : Nat} {lo hi : Int} (hg : Grid rows h wd lo hi) : rows = gridL h wd (g2 rows) := by
  apply List.ext_getElem
  · rw [gridL_length]; exact hg.len
  · intro y h1 h2
    have hy : y < h := by have := hg.len; omega
    rw [← rowAt_getElem h1, ← rowAt_getElem h2, rowAt_gridL hy]
    refine ext_gt (by rw [hg.row y hy]; simp) fun x hx => ?_
    rw [hg.row y hy] at hx
    simp [g2, gt, hx]
/-- one number of a grid is another. -/
def upd (F : Nat → Nat → Int) (y x : Nat) (z : Int) : Nat → Nat → Int := fun y' x' => if y' = y ∧ x' = x then z else F y' x'
theorem gridL_set {h wd : Nat} {F : Nat → Nat → Int} {y x : Nat} (hy : y < h) (z : Int) : (gridL h wd F).set y ((rowAt (gridL h wd F) y).set x z) = gridL h wd (upd F y x z) := by
  apply List.ext_getElem
  · simp [gridL]
  · intro y' h1 h2
    have hy' : y' < h := by simpa [gridL] using h2
    by_cases e : y' = y
    · subst e
      rw [List.getElem_set_self, ← rowAt_getElem h2, rowAt_gridL hy, rowAt_gridL hy]
      apply List.ext_getElem
      · simp
      · intro x' h3 h4
        by_cases e : x' = x
        · subst e; simp [upd]
        · simp [upd, e, Ne.symm e]
    · rw [List.getElem_set_ne (Ne.symm e), ← rowAt_getElem (by simpa [gridL] using hy'), ← rowAt_getElem h2, rowAt_gridL hy', rowAt_gridL hy']
      exact List.map_congr_left fun x' _ => by simp [upd, e]
/-- Rows of the program's own that all have wd > 0 numbers: row y, and what a store into it makes. -/
theorem OwM.row {w : World} {B : Nat} {gv cv n : Nat} {rows : List (List Int)} (h : OwMN w B (.slice (some ⟨gv, 0, none⟩) n cv) n rows) {y : Nat} (hy : y < n) (h0 : 0 < (rowAt rows y).length) :
    ∃ g c, w.cell? ⟨gv, y, none⟩ = some (.slice (some ⟨g, 0, none⟩) (rowAt rows y).length c) ∧ B ≤ g ∧ g < w.heap.size ∧ (∀ x, x < (rowAt rows y).length → w.cell? ⟨g, x, none⟩ = some (.int .i64 (gt (rowAt rows y) x))) ∧ (∀ x, w.frozen? ⟨g, x, none⟩ = false) ∧
      ∀ x z, OwMN (w.setCell ⟨g, x, none⟩ (.int .i64 z)) B (.slice (some ⟨gv, 0, none⟩) n cv) n (rows.set y ((rowAt rows y).set x z)) := by
  obtain ⟨hl, rs, h1, h2, h3, h4⟩ := h
  have hrl : rs.length = n := by have := h1.1; simpa using this
  have hyo := h2 y hy
  rcases hyo.form with ⟨e, e0⟩ | ⟨g, c, e, hB, hg, _, _⟩
  · rw [e0] at h0; simp at h0
  · refine ⟨g, c, ?_, hB, hg, fun x hx => ?_, fun x => ?_, fun x z => ?_⟩
    · rw [← e]
      exact (World.ownsRow.cellAt h1 y (by omega)).trans (vAt_some (by omega))
    · have ho := hyo
      rw [e] at ho
      exact OwN.cellAt (n := (rowAt rows y).length) ho hx
    · have ho := hyo
      rw [e] at ho
      exact OwN.frozenAt (n := (rowAt rows y).length) ho x
    · have ho := hyo
      rw [e] at ho
      have hst := OwN.stored (n := (rowAt rows y).length) ho x z
      have hob : (vAt rs y).ownBlock = some g := by rw [e]; rfl
      refine ⟨by rw [List.length_set]; exact hl, rs, World.ownsRow.kept h1 hst.2 ?_, fun i hi => ?_, h3, h4⟩
      · have := (h3 y hy).symm.ne
        rwa [hob] at this
      · by_cases e1 : i = y
        · subst e1
          rw [rowAt_set_same (by omega), e]
          have := hst.1.toI
          exact this
        · rw [rowAt_set_other e1]
          refine (h2 i hi).kept hst.2 ?_
          have hap : Apart (vAt rs i) (vAt rs y) := by
            rcases Nat.lt_or_ge i y with h | h
            · exact h4 i y h hy
            · exact (h4 y i (by omega) hi).symm
          have := hap.ne
          rwa [hob] at this
theorem OwM.open_ {w : World} {B : Nat} {v : Value} {rows : List (List Int)} (h : OwM w B v rows) (h0 : 0 < rows.length) : ∃ gv cv, v = .slice (some ⟨gv, 0, none⟩) rows.length cv := by
  obtain ⟨_, rs, h1, _⟩ := h
  rcases owns_form h1 with ⟨_, he⟩ | ⟨g, cap, rfl, _⟩
  · omega
  · exact ⟨g, cap, rfl⟩

/-- people can sit there: the hall, the row, the free seats, the heights. -/
def seatOk (rows : List (List Int)) (row seat : Int) (hs : List Int) : Bool :=
  gridOk rows 8 10 (-1) 200 && (!decide (hs.length = 0) && (inR row 0 ((rows.length : Int) - 1) && (areFreeB (g2 rows row.toNat) (rowAt rows 0).length seat hs.length && allW 0 200 hs)))
/-- the hall with the first k people on their seats. -/
def seatTo (f : Nat → Nat → Int) (row seat : Nat) (hs : List Int) (k : Nat) : Nat → Nat → Int := fun y x => if y = row ∧ seat ≤ x ∧ x < seat + k then gt hs (x - seat) else f y x
theorem seatTo_zero (f : Nat → Nat → Int) (row seat : Nat) (hs : List Int) : seatTo f row seat hs 0 = f := by
  funext y x
  unfold seatTo
  rw [if_neg (by omega)]
theorem seatTo_next (f : Nat → Nat → Int) (row seat : Nat) (hs : List Int) (k : Nat) : upd (seatTo f row seat hs k) row (seat + k) (gt hs k) = seatTo f row seat hs (k + 1) := by
  funext y x
  unfold upd seatTo
  by_cases e : y = row ∧ x = seat + k
  · rw [if_pos e, if_pos (by omega), show x - seat = k from by omega]
  · rw [if_neg e]
    by_cases e2 : y = row ∧ seat ≤ x ∧ x < seat + k
    · rw [if_pos e2, if_pos (by omega)]
    · rw [if_neg e2, if_neg (by omega)]
def seatL (rows : List (List Int)) (row seat : Int) (hs : List Int) : List (List Int) :=
  if seatOk rows row seat hs then gridL rows.length (rowAt rows 0).length (seatTo (g2 rows) row.toNat seat.toNat hs hs.length) else rows

theorem RdI.cells {w : World} {A : Option Addr} {n c : Nat} {zs : List Int} (h : RdI w (.slice A n c) zs) (h0 : 0 < zs.length) : ∃ b off, A = some ⟨b, off, none⟩ ∧ b < w.heap.size ∧ ∀ j, j < zs.length → w.cell? ⟨b, off + j, none⟩ = some (.int .i64 (gt zs j)) := by
  obtain ⟨A', c', e, hx⟩ := h
  injection e with e1 e2 e3
  subst e1
  exact hx h0
theorem sizeInt : (Try.prog.info? 3).map (·.size) = some 1 := by kernel_rfl
theorem splice_take {α : Type} {L Y : List α} {off n : Nat} (h : off + Y.length ≤ n) (hn : n ≤ L.length) :
    (L.take off ++ (Y ++ L.drop (off + Y.length))).take n = (L.take n).take off ++ (Y ++ (L.take n).drop (off + Y.length)) := by
  have hP : (L.take n).length = n := by rw [List.length_take]; omega
  have e1 : L.take off = (L.take n).take off := by rw [List.take_take, Nat.min_eq_left (by omega)]
  have e2 : L.drop (off + Y.length) = (L.take n).drop (off + Y.length) ++ L.drop n := by
    have := List.take_append_drop n L
    conv => lhs; rw [← this]
    rw [List.drop_append_of_le_length (by omega)]
  rw [e1, e2, ← List.append_assoc, ← List.append_assoc, ← List.append_assoc]
  refine List.take_left' ?_
  simp only [List.length_append, List.length_take, List.length_drop]
  omega
/-- Rows of the program's own: the block of row y, and what a copy into it makes. -/
theorem OwM.rowBlk {w : World} {B : Nat} {gv cv n : Nat} {rows : List (List Int)} (h : OwMN w B (.slice (some ⟨gv, 0, none⟩) n cv) n rows) {y : Nat} (hy : y < n) (h0 : 0 < (rowAt rows y).length) :
    ∃ g c cur, w.cell? ⟨gv, y, none⟩ = some (.slice (some ⟨g, 0, none⟩) (rowAt rows y).length c) ∧ B ≤ g ∧ g < w.heap.size ∧ w.heap[g]? = some (.cells cur 3 (0, 0)) ∧ ((rowAt rows y).length ≤ c ∧ c ≤ maxLen) ∧ cur.size = c ∧
      ∀ (off : Nat) (ys : List Int), off + ys.length ≤ (rowAt rows y).length → OwMN (w.setRow g (cur.toList.take off ++ (ys.map (Value.int .i64) ++ cur.toList.drop (off + ys.length))).toArray) B (.slice (some ⟨gv, 0, none⟩) n cv) n (rows.set y ((rowAt rows y).take off ++ (ys ++ (rowAt rows y).drop (off + ys.length)))) := by
  obtain ⟨hl, rs, h1, h2, h3, h4⟩ := h
  have hrl : rs.length = n := by have := h1.1; simpa using this
  have hyo := h2 y hy
  rcases hyo.2 with ⟨e, e0⟩ | ⟨g, c, cur, e, hB, hg, hlc, hcm, hsz, htk⟩
  · omega
  · rw [Nat.mul_one] at hsz htk
    refine ⟨g, c, cur, ?_, hB, lt_of_block hg, hg, ⟨hlc, hcm⟩, hsz, fun off ys hfit => ?_⟩
    · rw [← e]
      exact (World.ownsRow.cellAt h1 y (by omega)).trans (vAt_some (by omega))
    · have hob : (vAt rs y).ownBlock = some g := by rw [e]; rfl
      have hgr : w.grownBy (w.setRow g (cur.toList.take off ++ (ys.map (Value.int .i64) ++ cur.toList.drop (off + ys.length))).toArray) (some g) :=
        ⟨rfl, rfl, rfl, by simp, fun k _ hne => setRow_other w g k _ (fun e => hne (by rw [e]))⟩
      have hnl : ((rowAt rows y).take off ++ (ys ++ (rowAt rows y).drop (off + ys.length))).length = (rowAt rows y).length := by
        simp only [List.length_append, List.length_take, List.length_drop]; omega
      refine ⟨by rw [List.length_set]; exact hl, rs, World.ownsRow.kept h1 hgr ?_, fun i hi => ?_, h3, h4⟩
      · have := (h3 y hy).symm.ne
        rwa [hob] at this
      · by_cases e1 : i = y
        · subst e1
          rw [rowAt_set_same (by omega), e]
          refine ⟨by simp, .inr ⟨g, c, _, by rw [hnl], hB, setRow_heap w g _ _ _ _ hg, by rw [hnl]; exact hlc, hcm, ?_, ?_⟩⟩
          · have hcl : cur.toList.length = c := by simpa using hsz
            simp only [List.size_toArray, List.length_append, List.length_take, List.length_map, List.length_drop]
            omega
          · have hcl : cur.toList.length = c := by simpa using hsz
            have := splice_take (L := cur.toList) (Y := ys.map (Value.int .i64)) (off := off) (n := (rowAt rows i).length) (by simpa using hfit) (by omega)
            rw [htk] at this
            rw [List.length_map] at this
            rw [hnl, Nat.mul_one, List.toList_toArray, this]
            simp
        · rw [rowAt_set_other e1]
          refine (h2 i hi).kept hgr ?_
          have hap : Apart (vAt rs i) (vAt rs y) := by
            rcases Nat.lt_or_ge i y with h | h
            · exact h4 i y h hy
            · exact (h4 y i (by omega) hi).symm
          have := hap.ne
          rwa [hob] at this

theorem gt_splice {R hs : List Int} {s x : Nat} (h : s + hs.length ≤ R.length) : gt (R.take s ++ (hs ++ R.drop (s + hs.length))) x = if s ≤ x ∧ x < s + hs.length then gt hs (x - s) else gt R x := by
  have hl : (R.take s).length = s := by rw [List.length_take]; omega
  unfold gt
  simp only [List.getD]
  rcases Nat.lt_or_ge x s with h1 | h1
  · rw [if_neg (by omega), List.getElem?_append_left (by omega), List.getElem?_take_of_lt h1]
  · rw [List.getElem?_append_right (by omega), hl]
    rcases Nat.lt_or_ge x (s + hs.length) with h2 | h2
    · rw [if_pos ⟨h1, h2⟩, List.getElem?_append_left (by omega)]
    · rw [if_neg (by omega), List.getElem?_append_right (by omega), List.getElem?_drop, show s + hs.length + (x - s - hs.length) = x from by omega]
theorem seat_set {rows : List (List Int)} {h wd : Nat} {lo hi : Int} (hg : Grid rows h wd lo hi) {Y s : Nat} {hs : List Int} (hY : Y < h) (hfit : s + hs.length ≤ wd) :
    rows.set Y ((rowAt rows Y).take s ++ (hs ++ (rowAt rows Y).drop (s + hs.length))) = gridL h wd (seatTo (g2 rows) Y s hs hs.length) := by
  have hrow := hg.row
  apply List.ext_getElem
  · rw [List.length_set, gridL_length]; exact hg.len
  · intro y h1 h2
    have hy : y < h := by rw [gridL_length] at h2; exact h2
    rw [← rowAt_getElem h2, rowAt_gridL hy]
    by_cases e : y = Y
    · subst e
      rw [List.getElem_set_self]
      have hlen : ((rowAt rows y).take s ++ (hs ++ (rowAt rows y).drop (s + hs.length))).length = wd := by
        simp only [List.length_append, List.length_take, List.length_drop, hrow y hy]; omega
      refine ext_gt (by rw [hlen]; simp) fun x hx => ?_
      rw [hlen] at hx
      rw [gt_splice (by rw [hrow y hy]; exact hfit)]
      have : gt ((List.range wd).map fun x => seatTo (g2 rows) y s hs hs.length y x) x = seatTo (g2 rows) y s hs hs.length y x := by simp [gt, hx]
      rw [this]
      unfold seatTo g2
      simp
    · rw [List.getElem_set_ne (Ne.symm e)]
      have hyr : y < rows.length := by rw [hg.len]; exact hy
      rw [← rowAt_getElem hyr]
      refine ext_gt (by rw [hrow y hy]; simp) fun x hx => ?_
      rw [hrow y hy] at hx
      have : gt ((List.range wd).map fun x => seatTo (g2 rows) Y s hs hs.length y x) x = seatTo (g2 rows) Y s hs hs.length y x := by simp [gt, hx]
      rw [this]
      unfold seatTo g2
      rw [if_neg (by omega)]

end Go.Proofs.Ytkjclpbemdilbaa
