/- Seats, plain. -/
import Derived.Test.YtkjclpbemdilbaaStP
import Derived.Test.YtkjclpbemdilbaaStI
import Derived.Test.YtkjclpbemdilbaaTog
import Derived.Test.YtkjclpbemdilbaaPeople
import Derived.WalkKit
import Derived.ProofKit
import Derived.Handy
import Derived.OpenShut
import Derived.ShutString
import Derived.ChangeOld
import Derived.Below
import Derived.BigQuiet
import Derived.Deep.QuietTactic
import Derived.Deep.Draws
import Derived.Deep.DeepCutAuto
import Derived.Deep.DeepFit
import Derived.Deep.LoopGhost
import Derived.Outline
import Derived.WalkSpells
import Derived.WalkLawsBesides
import Derived.WalkSmall
import Derived.Laws.OwnMore
import Derived.OneCell
import Derived.Laws.Rows
import Derived.Maps.AppendAt
import Derived.StillTailTactics
import Derived.Lib.SmallJoins
import Derived.Deep.RegionWith
import Derived.Deep.RegionHeld3
import Derived.RegionTactic
import Derived.Deep.Matrix
import Derived.Deep.Fields
import Derived.ChangeSame
namespace Go.Proofs.Ytkjclpbemdilbaa
open Go.RowKit

theorem s1_mono' {f g : Nat → Int} {k : Nat} (h : ∀ j, j < k → f j ≤ g j) : s1 f k ≤ s1 g k := by
  induction k with
  | zero => exact Int.le_refl _
  | succ k ih =>
    have := ih fun j hj => h j (by omega)
    have := h k (by omega)
    simp only [s1]; omega
theorem tot_mono' {f g : Nat → Nat → Int} {h wd : Nat} (hf : ∀ y x, y < h → x < wd → f y x ≤ g y x) : tot f wd h ≤ tot g wd h := s1_mono' fun y hy => s1_mono' fun x hx => hf y x hy hx
theorem oneB_mono {a b : Bool} (h : a = true → b = true) : oneB a ≤ oneB b := by
  cases a with
  | false => cases b <;> simp [oneB]
  | true => rw [h rfl]; exact Int.le_refl _
theorem seesB_iff {rows : List (List Int)} {y x : Nat} {rise : Int} (hg : gridOk rows 8 10 (-1) 200 = true) (hy : y < rows.length) (hx : x < (rowAt rows 0).length) :
    seesB rows (y : Int) (x : Int) rise = true ↔ (0 ≤ rise ∧ rise ≤ 50) ∧ 0 ≤ g2 rows y x ∧ ∀ r, r < y → 0 ≤ g2 rows r x → g2 rows r x < g2 rows y x + rise * ((y : Int) - (r : Int)) := by
  unfold seesB
  rw [hg, Int.toNat_natCast, Int.toNat_natCast, inR_iff.2 (show 0 ≤ (y : Int) ∧ (y : Int) ≤ (rows.length : Int) - 1 by omega), inR_iff.2 (show 0 ≤ (x : Int) ∧ (x : Int) ≤ ((rowAt rows 0).length : Int) - 1 by omega)]
  simp only [Bool.true_and, Bool.and_true, Bool.and_eq_true, inR_iff, decide_eq_true_eq, List.all_eq_true, List.mem_range, clear1, Bool.not_eq_true', Bool.and_eq_false_iff, decide_eq_false_iff_not]
  constructor
  · rintro ⟨⟨h1, h2⟩, h3⟩
    exact ⟨h1, h2, fun r hr h0 => by rcases h3 r hr with h | h <;> omega⟩
  · rintro ⟨h1, h2, h3⟩
    refine ⟨⟨h1, h2⟩, fun r hr => ?_⟩
    rcases Int.lt_or_le (g2 rows r x) 0 with h0 | h0
    · exact .inl (by omega)
    · have := h3 r hr h0; exact .inr (by omega)
theorem sees_man {rows : List (List Int)} {y x : Nat} {rise : Int} (hg : gridOk rows 8 10 (-1) 200 = true) (hy : y < rows.length) (hx : x < (rowAt rows 0).length) (h : seesB rows (y : Int) (x : Int) rise = true) : 0 ≤ g2 rows y x := ((seesB_iff hg hy hx).1 h).2.1
theorem sees_front {rows : List (List Int)} {x : Nat} {rise : Int} (hg : gridOk rows 8 10 (-1) 200 = true) (hr : 0 ≤ rise ∧ rise ≤ 50) (hx : x < (rowAt rows 0).length) (h : 0 ≤ g2 rows 0 x) : seesB rows ((0 : Nat) : Int) (x : Int) rise = true :=
  (seesB_iff hg (by have := (gridOk_grid hg).2.1; omega) hx).2 ⟨hr, h, fun r hr => absurd hr (by omega)⟩
theorem countS_grid {rows : List (List Int)} {rise : Int} (hg : gridOk rows 8 10 (-1) 200 = true) (hr : 0 ≤ rise ∧ rise ≤ 50) : countS rows rise = seeing rows rise := by
  unfold countS
  rw [if_pos (by rw [hg, Bool.true_and]; exact inR_iff.2 hr)]
theorem seeing_le {rows : List (List Int)} {rise : Int} (hg : gridOk rows 8 10 (-1) 200 = true) : seeing rows rise ≤ manned rows := by
  refine tot_mono' fun y x hy hx => oneB_mono fun h => ?_
  simpa using sees_man hg hy hx h
theorem seeing_mono {rows : List (List Int)} {r r' : Int} (hg : gridOk rows 8 10 (-1) 200 = true) (hr : r ≤ r') (hr' : r' ≤ 50) : seeing rows r ≤ seeing rows r' := by
  refine tot_mono' fun y x hy hx => oneB_mono fun h => ?_
  have h1 := (seesB_iff hg hy hx).1 h
  refine (seesB_iff hg hy hx).2 ⟨by omega, h1.2.1, fun q hq h0 => ?_⟩
  have := h1.2.2 q hq h0
  have h2 := Int.mul_le_mul_of_nonneg_right hr (show 0 ≤ (y : Int) - (q : Int) by omega)
  omega
theorem seeing_bd {rows : List (List Int)} (hg : gridOk rows 8 10 (-1) 200 = true) (rise : Int) : 0 ≤ seeing rows rise ∧ seeing rows rise ≤ 100 := by
  have := (gridOk_grid hg).2
  exact tot_bd (h := rows.length) (Nat.le_refl _) (by omega) (by omega) fun y x => oneB_bd _
theorem manned_bd {rows : List (List Int)} (hg : gridOk rows 8 10 (-1) 200 = true) : 0 ≤ manned rows ∧ manned rows ≤ 100 := by
  have := (gridOk_grid hg).2
  exact tot_bd (h := rows.length) (Nat.le_refl _) (by omega) (by omega) fun y x => oneB_bd _
theorem firstR_spec (c : Nat → Bool) (n : Nat) : (firstR c n = -1 ∧ ∀ j, j < n → c j = false) ∨ ∃ i, i < n ∧ firstR c n = (i : Int) ∧ c i = true ∧ ∀ j, j < i → c j = false := by
  unfold firstR
  cases h : (List.range n).find? c with
  | none =>
    refine .inl ⟨rfl, fun j hj => ?_⟩
    have := List.find?_eq_none.1 h j (List.mem_range.2 hj)
    simpa using this
  | some i =>
    have := List.find?_range_eq_some.1 h
    exact .inr ⟨i, by simpa using this.2.1, rfl, this.1, fun j hj => by simpa using this.2.2 j hj⟩
/-- what the law asks of the least rise. -/
theorem least_law {rows : List (List Int)} (hg : gridOk rows 8 10 (-1) 200 = true) :
    (leastR rows = -1 ∧ countS rows 50 ≠ manned rows) ∨ ∃ i : Nat, i < 51 ∧ leastR rows = (i : Int) ∧ countS rows (i : Int) = manned rows ∧ (0 < i → countS rows ((i : Int) - 1) ≠ manned rows) := by
  unfold leastR
  rw [if_pos hg]
  rcases firstR_spec (fun r => manned rows == seeing rows (r : Int)) 51 with ⟨e, hall⟩ | ⟨i, hi, e, h1, h2⟩
  · refine .inl ⟨e, ?_⟩
    rw [countS_grid hg (by omega)]
    have := hall 50 (by omega)
    simp at this
    exact fun h => this h.symm
  · refine .inr ⟨i, hi, e, ?_, fun h0 => ?_⟩
    · rw [countS_grid hg (by omega)]
      simp at h1
      exact h1.symm
    · rw [countS_grid hg (by omega), show (i : Int) - 1 = ((i - 1 : Nat) : Int) from by omega]
      have := h2 (i - 1) (by omega)
      simp at this
      exact fun h => this h.symm
theorem fTo_spec {c : Nat → Option Nat} {n : Nat} {p : Nat × Nat} (h : fTo c n = some p) : p.1 < n ∧ c p.1 = some p.2 := by
  induction n with
  | zero => simp [fTo] at h
  | succ n ih =>
    simp only [fTo] at h
    cases h1 : fTo c n with
    | some q =>
      rw [h1] at h
      cases h
      have := ih h1
      exact ⟨by omega, this.2⟩
    | none =>
      rw [h1] at h
      cases h2 : c n with
      | none => rw [h2] at h; cases h
      | some s => rw [h2] at h; cases h; exact ⟨by simp, h2⟩
/-- what two seats side by side are. -/
theorem freeT_two {rows : List (List Int)} (hg : gridOk rows 8 10 (-1) 200 = true) {p : Nat × Nat} (h : freeT rows 2 = some p) : p.1 < rows.length ∧ p.2 + 2 ≤ (rowAt rows 0).length ∧ g2 rows p.1 p.2 = -1 ∧ g2 rows p.1 (p.2 + 1) = -1 := by
  unfold freeT at h
  rw [if_pos (by rw [hg, Bool.true_and]; decide)] at h
  obtain ⟨h1, h2⟩ := fTo_spec h
  unfold rowFree at h2
  have h3 := (List.find?_range_eq_some.1 h2).1
  simp only [freeAt, Bool.and_eq_true, List.all_eq_true, List.mem_range, decide_eq_true_eq] at h3
  have e : (2 : Int).toNat = 2 := rfl
  rw [e] at h3
  exact ⟨h1, h3.1, h3.2 0 (by omega), h3.2 1 (by omega)⟩
theorem seat_two {rows : List (List Int)} (hg : gridOk rows 8 10 (-1) 200 = true) {p : Nat × Nat} (h : freeT rows 2 = some p) :
    seatOk rows (p.1 : Int) (p.2 : Int) [120, 130] = true ∧ gridOk (seatL rows (p.1 : Int) (p.2 : Int) [120, 130]) 8 10 (-1) 200 = true ∧ (seatL rows (p.1 : Int) (p.2 : Int) [120, 130]).length = rows.length ∧
    seatOk (seatL rows (p.1 : Int) (p.2 : Int) [120, 130]) (p.1 : Int) (p.2 : Int) [120] = false := by
  obtain ⟨h1, h2, h3, h4⟩ := freeT_two hg h
  obtain ⟨hG, hh, hw⟩ := gridOk_grid hg
  have ho : seatOk rows (p.1 : Int) (p.2 : Int) [120, 130] = true := by
    unfold seatOk
    rw [hg, inR_iff.2 (show 0 ≤ (p.1 : Int) ∧ (p.1 : Int) ≤ (rows.length : Int) - 1 by omega)]
    have e : areFreeB (g2 rows (p.1 : Int).toNat) (rowAt rows 0).length (p.2 : Int) (([120, 130] : List Int).length : Nat) = true := by
      unfold areFreeB
      simp only [Bool.and_eq_true, List.all_eq_true, List.mem_range, decide_eq_true_eq, Int.toNat_natCast]
      refine ⟨⟨by omega, by simp; omega⟩, fun i hi => ?_⟩
      have : i = 0 ∨ i = 1 := by simp at hi; omega
      rcases this with rfl | rfl
      · exact h3
      · exact h4
    rw [e]
    decide
  have hl : seatL rows (p.1 : Int) (p.2 : Int) [120, 130] = gridL rows.length (rowAt rows 0).length (seatTo (g2 rows) p.1 p.2 [120, 130] 2) := by
    unfold seatL
    rw [if_pos ho]
    rfl
  have hv : ∀ y x, y < rows.length → x < (rowAt rows 0).length → -1 ≤ seatTo (g2 rows) p.1 p.2 [120, 130] 2 y x ∧ seatTo (g2 rows) p.1 p.2 [120, 130] 2 y x ≤ 200 := by
    intro y x hy hx
    unfold seatTo
    split
    · rename_i hc
      have : x - p.2 = 0 ∨ x - p.2 = 1 := by omega
      rcases this with e | e <;> rw [e] <;> decide
    · exact hG.bd y x hy hx
  have hgz : gridOk (seatL rows (p.1 : Int) (p.2 : Int) [120, 130]) 8 10 (-1) 200 = true := by
    rw [hl]
    have l0 : (rowAt (gridL rows.length (rowAt rows 0).length (seatTo (g2 rows) p.1 p.2 [120, 130] 2)) 0).length = (rowAt rows 0).length := row_gridL_length (by omega)
    refine gridOk_rows (by rw [gridL_length]; exact inR_iff.2 (by omega)) (by rw [l0]; exact inR_iff.2 (by omega)) fun y hy => ?_
    rw [gridL_length] at hy
    simp only [rowOk, Bool.and_eq_true, decide_eq_true_eq]
    refine ⟨by rw [row_gridL_length hy, l0], allW_iff.2 fun x hx => ?_⟩
    rw [row_gridL_length hy] at hx
    have e : ∀ F, gt (rowAt (gridL rows.length (rowAt rows 0).length F) y) x = F y x := fun F => g2_gridL (F := F) hy hx
    rw [e]
    exact hv y x hy hx
  refine ⟨ho, hgz, by rw [hl, gridL_length], ?_⟩
  rw [Bool.eq_false_iff]
  intro ht
  simp only [seatOk, areFreeB, Bool.and_eq_true, List.all_eq_true, List.mem_range, decide_eq_true_eq, Int.toNat_natCast] at ht
  have := ht.2.2.2.1.2 0 (by simp)
  rw [hl, g2_gridL h1 (by omega)] at this
  unfold seatTo at this
  rw [if_pos (by omega)] at this
  simp [gt] at this
theorem one_seat : countS [[100]] 0 = 1 ∧ gridOk [[100]] 8 10 (-1) 200 = true := by decide +kernel

end Go.Proofs.Ytkjclpbemdilbaa
