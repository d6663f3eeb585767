/- WoodOf: it draws alone. -/
import Derived.Test.YtlkaalbhhnineaaDrH
import Derived.WalkKit
import Derived.ProofKit
import Derived.Handy
import Derived.OpenShut
import Derived.ShutString
import Derived.ChangeOld
import Derived.Below
import Derived.BigQuiet
import Derived.Deep.QuietTactic
import Derived.Deep.Draws
import Derived.Deep.DeepCutAuto
import Derived.Deep.DeepFit
import Derived.Deep.LoopGhost
import Derived.Outline
import Derived.WalkSpells
import Derived.WalkLawsBesides
import Derived.WalkSmall
import Derived.Laws.OwnMore
import Derived.OneCell
import Derived.Laws.Rows
import Derived.Maps.AppendAt
import Derived.StillTailTactics
import Derived.Lib.SmallJoins
import Derived.Deep.RegionWith
import Derived.Deep.RegionHeld3
import Derived.RegionTactic
import Derived.Deep.Matrix
import Derived.Deep.Fields
import Derived.ChangeSame
namespace Go.Proofs.Ytlkaalbhhnineaa
open Go.RowKit

set_option maxHeartbeats 1000000 in
theorem implQ_WoodOf (v : Value) (rows : List (List Int)) (w : World) (h : RdM w v rows) (hl : OkM rows) :
    Calls Try.prog 17 #[v] w fun e w' => e = .returned (.int .i64 (wood rows)) ∧ ∃ m, w' = w.drewN m := by
  cases hg : gridOk rows 8 8 0 20 with
  | false =>
    have hf := hide (show wood rows = -1 from by simp [wood, hg])
    go_enter Try.func17, Try.ntmps17
    go_wp2_with (go_at_call 14; fail)
    refine (implQ_BlockOk _ _ _ h hl).mono ?_
    rintro e w1 ⟨rfl, m, rfl⟩
    rw [hg]
    go_wp2_with fail
    go_ret
    exact ⟨ret_int hf.out.symm, m, rfl⟩
  | true =>
    obtain ⟨hG, hh, hw⟩ := gridOk_grid hg
    have hf := hide (show wood rows = tot (g2 rows) (rowAt rows 0).length rows.length from by simp [wood, hg])
    have hB := hide hG.bd
    have hr := h.grid hG (by omega) (by omega)
    have hbk := hide (implQ_BlockOk _ _ _ h hl)
    generalize hhh : rows.length = hh' at *
    generalize hww : (rowAt rows 0).length = ww at *
    generalize hff : g2 rows = f at *
    have hh8 : hh' ≤ 8 := by omega
    have ww8 : ww ≤ 8 := by omega
    obtain ⟨b, off, c, rb, ro, rc, rfl, hrow, hcell⟩ := hr
    have Hrow := hide hrow
    have Hcell := hide hcell
    clear hrow hcell hhh hww hff hG h hl
    go_enter Try.func17, Try.ntmps17
    go_wp2_with (go_at_call 14; fail)
    refine (unhide hbk).mono ?_
    rintro e w1 ⟨rfl, m, rfl⟩
    have b1 : Nx w (w.drewN m) := Nx.drewN (Below.refl _ _) m
    rw [hg]
    have c1 := fun (y : Nat) (hy : y < hh') => (b1.cells b (off + y) (block_lt_of_cell (Hrow.out y hy))).trans (Hrow.out y hy)
    have c2 := fun (y x : Nat) (hy : y < hh') (hx : x < ww) => (b1.cells (rb y) (ro y + x) (block_lt_of_cell (Hcell.out y x hy hx))).trans (Hcell.out y x hy hx)
    have C1 := hide c1
    have C2 := hide c2
    clear c1 c2 hg hbk b1
    go_wp2_with fail
    go_loop [3, 13] (fun n i => ∃ y : Nat, y ≤ hh' ∧ i = .int .i64 y ∧ n = .int .i64 (tot f ww y)) (fun _ i => hh' - (intOf i).toNat)
    case atStart => exact ⟨0, by omega, rfl, rfl⟩
    case round =>
      obtain ⟨y, hy, rfl, rfl⟩ := hrel
      have t1 := tot_bd (f := f) hy hh8 ww8 (by omega) hB.out
      by_cases hlt : y < hh'
      · have hc1 := C1.out y hlt
        go_wp2_with fail
        go_loop [3, 19] (fun n i => ∃ x : Nat, x ≤ ww ∧ i = .int .i64 x ∧ n = .int .i64 (tot f ww y + s1 (f y) x)) (fun _ i => ww - (intOf i).toNat)
        case atStart => exact ⟨0, by omega, rfl, by simp [s1]⟩
        case round =>
          obtain ⟨x, hx, rfl, rfl⟩ := hrel
          have t2 := s1_le8 (g := f y) (m := 20) (k := x) (by omega) (by omega) (fun j hj => hB.out y j hlt (by omega))
          by_cases hxl : x < ww
          · have hc2 := C2.out y x hlt hxl
            have t3 := hB.out y x hlt hxl
            go_wp2_with fail
            go_round
            case rel => exact ⟨x + 1, by omega, by go_num, by simp only [s1]; go_num⟩
            case measure => simp [intOf]; omega
          · obtain rfl : x = ww := by omega
            go_wp2_with fail
            go_round
            case rel => exact ⟨y + 1, by omega, by go_num, by rw [tot_succ]⟩
            case measure => simp [intOf]; omega
      · obtain rfl : y = hh' := by omega
        go_wp2_with fail
        go_ret
        exact ⟨ret_int hf.out.symm, m, rfl⟩

/-- the number that the law takes out of the bytes. -/
def atV (zs : List Int) (i : Int) : Int := if zs.length = 0 then 0 else gt zs ((i * 5 + 1) % (zs.length : Int)).toNat
theorem atV_bd {w : World} {v : Value} {zs : List Int} (h : RdB w v zs) (i : Int) : 0 ≤ atV zs i ∧ atV zs i ≤ 255 := by
  unfold atV
  split
  · omega
  · rename_i h0
    obtain ⟨A, c, rfl, hx⟩ := h
    obtain ⟨b0, off, rfl, hb0, hc⟩ := hx (by omega)
    have hm0 : 0 ≤ (i * 5 + 1) % (zs.length : Int) := Int.emod_nonneg _ (by omega)
    have hm1 : (i * 5 + 1) % (zs.length : Int) < (zs.length : Int) := Int.emod_lt_of_pos _ (by omega)
    exact (hc _ (show ((i * 5 + 1) % (zs.length : Int)).toNat < zs.length by omega)).2
set_option maxHeartbeats 1000000 in
theorem at_det (v : Value) (zs : List Int) (i : Int) (w : World) (h : RdB w v zs) (hl : zs.length ≤ 1048576) (i0 : 0 ≤ i ∧ i ≤ 1000) : Calls Try.prog 30 #[v, .int .i64 i] w fun e w' => e = .returned (.int .i64 (atV zs i)) ∧ w = w' := by
  have HV := hide (show atV zs i = if zs.length = 0 then 0 else gt zs ((i * 5 + 1) % (zs.length : Int)).toNat from rfl)
  rw [HV.out]
  obtain ⟨A, c, rfl, hx⟩ := h
  by_cases h0 : zs.length = 0
  · have e0 : ((zs.length : Int) == 0) = true := by simp [h0]
    rw [if_pos h0]
    clear hx h0
    go_enter Try.func30, Try.ntmps30
    go_wp2
    go_ret
    exact ⟨rfl, rfl⟩
  · have e0 : ((zs.length : Int) == 0) = false := by simp [h0]
    obtain ⟨b0, off, rfl, hb0, hc⟩ := hx (by omega)
    have hm0 : 0 ≤ (i * 5 + 1) % (zs.length : Int) := Int.emod_nonneg _ (by omega)
    have hm1 : (i * 5 + 1) % (zs.length : Int) < (zs.length : Int) := Int.emod_lt_of_pos _ (by omega)
    have hq : ((i * 5 + 1) % (zs.length : Int)).toNat < zs.length := by omega
    have hck := (hc _ hq).1
    have hbd := (hc _ hq).2
    rw [if_neg h0]
    clear hc hx h0 hq
    generalize gt zs ((i * 5 + 1) % (zs.length : Int)).toNat = y at hck hbd ⊢
    have hl1 : (zs.length : Int) ≤ 1048576 := by omega
    have hl0 : 0 < (zs.length : Int) := by omega
    go_enter Try.func30, Try.ntmps30
    go_wp2_with fail
    go_ret
    exact ⟨rfl, rfl⟩

end Go.Proofs.Ytlkaalbhhnineaa
