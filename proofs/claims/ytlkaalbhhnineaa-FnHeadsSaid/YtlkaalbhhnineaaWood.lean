/- Contracts of WoodOf. -/
import Derived.Test.YtlkaalbhhnineaaGrid
import Derived.WalkKit
import Derived.ProofKit
import Derived.Handy
import Derived.OpenShut
import Derived.ShutString
import Derived.ChangeOld
import Derived.Below
import Derived.BigQuiet
import Derived.Deep.QuietTactic
import Derived.Deep.Draws
import Derived.Deep.DeepCutAuto
import Derived.Deep.DeepFit
import Derived.Deep.LoopGhost
import Derived.Outline
import Derived.WalkSpells
import Derived.WalkLawsBesides
import Derived.WalkSmall
import Derived.Laws.OwnMore
import Derived.OneCell
import Derived.Laws.Rows
import Derived.Maps.AppendAt
import Derived.StillTailTactics
import Derived.Lib.SmallJoins
import Derived.Deep.RegionWith
import Derived.Deep.RegionHeld3
import Derived.RegionTactic
import Derived.Deep.Matrix
import Derived.Deep.Fields
import Derived.ChangeSame
namespace Go.Proofs.Ytlkaalbhhnineaa
open Go.RowKit

/-- a sum of the first k. -/
def s1 (g : Nat → Int) : Nat → Int
  | 0 => 0
  | k + 1 => s1 g k + g k
/-- a sum over whole rows. -/
def tot (f : Nat → Nat → Int) (wd : Nat) (y : Nat) : Int := s1 (fun y' => s1 (f y') wd) y
theorem tot_succ (f : Nat → Nat → Int) (wd y : Nat) : tot f wd (y + 1) = tot f wd y + s1 (f y) wd := rfl
theorem s1_bd {g : Nat → Int} {m : Int} (k : Nat) (h : ∀ j, j < k → 0 ≤ g j ∧ g j ≤ m) : 0 ≤ s1 g k ∧ s1 g k ≤ m * k := by
  induction k with
  | zero => simp [s1]
  | succ k ih =>
    have h1 := ih fun j hj => h j (by omega)
    have h2 := h k (by omega)
    simp only [s1]
    have e : m * ((k + 1 : Nat) : Int) = m * (k : Int) + m := by rw [Int.natCast_add, Int.mul_add]; simp
    rw [e]
    omega
theorem s1_le8 {g : Nat → Int} {m : Int} {k : Nat} (hk : k ≤ 8) (hm : 0 ≤ m) (h : ∀ j, j < k → 0 ≤ g j ∧ g j ≤ m) : 0 ≤ s1 g k ∧ s1 g k ≤ 8 * m := by
  have h1 := s1_bd k h
  refine ⟨h1.1, Int.le_trans h1.2 ?_⟩
  rw [Int.mul_comm 8 m]
  exact Int.mul_le_mul_of_nonneg_left (by omega) hm
theorem tot_bd {f : Nat → Nat → Int} {m : Int} {h wd y : Nat} (hy : y ≤ h) (hh : h ≤ 8) (hw : wd ≤ 8) (hm : 0 ≤ m) (hf : ∀ y x, y < h → x < wd → 0 ≤ f y x ∧ f y x ≤ m) : 0 ≤ tot f wd y ∧ tot f wd y ≤ 8 * (8 * m) :=
  s1_le8 (by omega) (by omega) fun j hj => s1_le8 hw hm fun x hx => hf j x (by omega) hx
/-- the wood. -/
def wood (rows : List (List Int)) : Int := if gridOk rows 8 8 0 20 then tot (g2 rows) (rowAt rows 0).length rows.length else -1

set_option maxHeartbeats 1000000 in
theorem spec_WoodOf (v : Value) (rows : List (List Int)) (w : World) (h : RdM w v rows) (hl : OkM rows) :
    Calls Try.prog 16 #[v] w fun e w' => e = .returned (.int .i64 (wood rows)) ∧ Nx w w' := by
  cases hg : gridOk rows 8 8 0 20 with
  | false =>
    have hf := hide (show wood rows = -1 from by simp [wood, hg])
    go_enter Try.func16, Try.ntmps16
    go_wp2_with (go_at_call 12; fail)
    refine (spec_BlockOk _ _ _ h hl).mono ?_
    rintro e w1 ⟨rfl, b1⟩
    rw [hg]
    go_wp2_with fail
    go_ret
    exact ⟨ret_int hf.out.symm, b1⟩
  | true =>
    obtain ⟨hG, hh, hw⟩ := gridOk_grid hg
    have hf := hide (show wood rows = tot (g2 rows) (rowAt rows 0).length rows.length from by simp [wood, hg])
    have hB := hide hG.bd
    have hr := h.grid hG (by omega) (by omega)
    have hbk := hide (spec_BlockOk _ _ _ h hl)
    generalize hhh : rows.length = hh' at *
    generalize hww : (rowAt rows 0).length = ww at *
    generalize hff : g2 rows = f at *
    have hh8 : hh' ≤ 8 := by omega
    have ww8 : ww ≤ 8 := by omega
    obtain ⟨b, off, c, rb, ro, rc, rfl, hrow, hcell⟩ := hr
    have Hrow := hide hrow
    have Hcell := hide hcell
    clear hrow hcell hhh hww hff hG h hl
    go_enter Try.func16, Try.ntmps16
    go_wp2_with (go_at_call 12; fail)
    refine (unhide hbk).mono ?_
    rintro e w1 ⟨rfl, b1⟩
    rw [hg]
    have c1 := fun (y : Nat) (hy : y < hh') => (b1.cells b (off + y) (block_lt_of_cell (Hrow.out y hy))).trans (Hrow.out y hy)
    have c2 := fun (y x : Nat) (hy : y < hh') (hx : x < ww) => (b1.cells (rb y) (ro y + x) (block_lt_of_cell (Hcell.out y x hy hx))).trans (Hcell.out y x hy hx)
    have C1 := hide c1
    have C2 := hide c2
    have B1 := hide b1
    clear c1 c2 hg hbk b1
    go_wp2_with fail
    go_loop [3, 4] (fun n i => ∃ y : Nat, y ≤ hh' ∧ i = .int .i64 y ∧ n = .int .i64 (tot f ww y)) (fun _ i => hh' - (intOf i).toNat)
    case atStart => exact ⟨0, by omega, rfl, rfl⟩
    case round =>
      obtain ⟨y, hy, rfl, rfl⟩ := hrel
      have t1 := tot_bd (f := f) hy hh8 ww8 (by omega) hB.out
      by_cases hlt : y < hh'
      · have hc1 := C1.out y hlt
        go_wp2_with fail
        go_loop [3, 5] (fun n i => ∃ x : Nat, x ≤ ww ∧ i = .int .i64 x ∧ n = .int .i64 (tot f ww y + s1 (f y) x)) (fun _ i => ww - (intOf i).toNat)
        case atStart => exact ⟨0, by omega, rfl, by simp [s1]⟩
        case round =>
          obtain ⟨x, hx, rfl, rfl⟩ := hrel
          have t2 := s1_le8 (g := f y) (m := 20) (k := x) (by omega) (by omega) (fun j hj => hB.out y j hlt (by omega))
          by_cases hxl : x < ww
          · have hc2 := C2.out y x hlt hxl
            have t3 := hB.out y x hlt hxl
            go_wp2_with fail
            go_round
            case rel => exact ⟨x + 1, by omega, by go_num, by simp only [s1]; go_num⟩
            case measure => simp [intOf]; omega
          · obtain rfl : x = ww := by omega
            go_wp2_with fail
            go_round
            case rel => exact ⟨y + 1, by omega, by go_num, by rw [tot_succ]⟩
            case measure => simp [intOf]; omega
      · obtain rfl : y = hh' := by omega
        go_wp2_with fail
        go_ret
        exact ⟨ret_int hf.out.symm, unhide B1⟩

set_option maxHeartbeats 1000000 in
theorem impl_WoodOf (v : Value) (rows : List (List Int)) (w : World) (h : RdM w v rows) (hl : OkM rows) :
    Calls Try.prog 17 #[v] w fun e w' => e = .returned (.int .i64 (wood rows)) ∧ Nx w w' := by
  cases hg : gridOk rows 8 8 0 20 with
  | false =>
    have hf := hide (show wood rows = -1 from by simp [wood, hg])
    go_enter Try.func17, Try.ntmps17
    go_wp2_with (go_at_call 14; fail)
    refine (impl_BlockOk _ _ _ h hl).mono ?_
    rintro e w1 ⟨rfl, b1⟩
    rw [hg]
    go_wp2_with fail
    go_ret
    exact ⟨ret_int hf.out.symm, b1⟩
  | true =>
    obtain ⟨hG, hh, hw⟩ := gridOk_grid hg
    have hf := hide (show wood rows = tot (g2 rows) (rowAt rows 0).length rows.length from by simp [wood, hg])
    have hB := hide hG.bd
    have hr := h.grid hG (by omega) (by omega)
    have hbk := hide (impl_BlockOk _ _ _ h hl)
    generalize hhh : rows.length = hh' at *
    generalize hww : (rowAt rows 0).length = ww at *
    generalize hff : g2 rows = f at *
    have hh8 : hh' ≤ 8 := by omega
    have ww8 : ww ≤ 8 := by omega
    obtain ⟨b, off, c, rb, ro, rc, rfl, hrow, hcell⟩ := hr
    have Hrow := hide hrow
    have Hcell := hide hcell
    clear hrow hcell hhh hww hff hG h hl
    go_enter Try.func17, Try.ntmps17
    go_wp2_with (go_at_call 14; fail)
    refine (unhide hbk).mono ?_
    rintro e w1 ⟨rfl, b1⟩
    rw [hg]
    have c1 := fun (y : Nat) (hy : y < hh') => (b1.cells b (off + y) (block_lt_of_cell (Hrow.out y hy))).trans (Hrow.out y hy)
    have c2 := fun (y x : Nat) (hy : y < hh') (hx : x < ww) => (b1.cells (rb y) (ro y + x) (block_lt_of_cell (Hcell.out y x hy hx))).trans (Hcell.out y x hy hx)
    have C1 := hide c1
    have C2 := hide c2
    have B1 := hide b1
    clear c1 c2 hg hbk b1
    go_wp2_with fail
    go_loop [3, 13] (fun n i => ∃ y : Nat, y ≤ hh' ∧ i = .int .i64 y ∧ n = .int .i64 (tot f ww y)) (fun _ i => hh' - (intOf i).toNat)
    case atStart => exact ⟨0, by omega, rfl, rfl⟩
    case round =>
      obtain ⟨y, hy, rfl, rfl⟩ := hrel
      have t1 := tot_bd (f := f) hy hh8 ww8 (by omega) hB.out
      by_cases hlt : y < hh'
      · have hc1 := C1.out y hlt
        go_wp2_with fail
        go_loop [3, 19] (fun n i => ∃ x : Nat, x ≤ ww ∧ i = .int .i64 x ∧ n = .int .i64 (tot f ww y + s1 (f y) x)) (fun _ i => ww - (intOf i).toNat)
        case atStart => exact ⟨0, by omega, rfl, by simp [s1]⟩
        case round =>
          obtain ⟨x, hx, rfl, rfl⟩ := hrel
          have t2 := s1_le8 (g := f y) (m := 20) (k := x) (by omega) (by omega) (fun j hj => hB.out y j hlt (by omega))
          by_cases hxl : x < ww
          · have hc2 := C2.out y x hlt hxl
            have t3 := hB.out y x hlt hxl
            go_wp2_with fail
            go_round
            case rel => exact ⟨x + 1, by omega, by go_num, by simp only [s1]; go_num⟩
            case measure => simp [intOf]; omega
          · obtain rfl : x = ww := by omega
            go_wp2_with fail
            go_round
            case rel => exact ⟨y + 1, by omega, by go_num, by rw [tot_succ]⟩
            case measure => simp [intOf]; omega
      · obtain rfl : y = hh' := by omega
        go_wp2_with fail
        go_ret
        exact ⟨ret_int hf.out.symm, unhide B1⟩

end Go.Proofs.Ytlkaalbhhnineaa
