/- SmoothedBlock: impl once more. -/
import Derived.Test.YtlkaalbhhnineaaSmQ
import Derived.WalkKit
import Derived.ProofKit
import Derived.Handy
import Derived.OpenShut
import Derived.ShutString
import Derived.ChangeOld
import Derived.Below
import Derived.BigQuiet
import Derived.Deep.QuietTactic
import Derived.Deep.Draws
import Derived.Deep.DeepCutAuto
import Derived.Deep.DeepFit
import Derived.Deep.LoopGhost
import Derived.Outline
import Derived.WalkSpells
import Derived.WalkLawsBesides
import Derived.WalkSmall
import Derived.Laws.OwnMore
import Derived.OneCell
import Derived.Laws.Rows
import Derived.Maps.AppendAt
import Derived.StillTailTactics
import Derived.Lib.SmallJoins
import Derived.Deep.RegionWith
import Derived.Deep.RegionHeld3
import Derived.RegionTactic
import Derived.Deep.Matrix
import Derived.Deep.Fields
import Derived.ChangeSame
namespace Go.Proofs.Ytlkaalbhhnineaa
open Go.RowKit

theorem min_if (a b : Int) : (if b < a then b else a) = min a b := by split <;> omega
set_option maxRecDepth 100000 in
set_option maxHeartbeats 4000000 in
theorem impl_SmoothedBlock (v : Value) (rows : List (List Int)) (most : Int) (w : World) (h : RdM w v rows) (hl : OkM rows) (_ : I64 most) :
    Calls Try.prog 31 #[v, .int .i64 most] w fun e w' => ∃ u, e = .returned u ∧ OwM w' w.heap.size u (smoothL rows most) ∧ Nx w w' := by
  have hv := h
  cases hg : gridOk rows 8 8 0 20 with
  | false =>
    have hf := hide (show smoothL rows most = [] from by simp [smoothL, hg])
    go_enter Try.func31, Try.ntmps31
    go_wp2_with fail
    refine (impl_BlockOk _ _ _ h hl).mono ?_
    rintro e w1 ⟨rfl, b⟩
    rw [hg]
    go_wp2_with fail
    go_ret
    exact ⟨_, rfl, by rw [hf.out]; exact OwM.nil _ _, b⟩
  | true =>
  cases h1 : inR most 0 20 with
  | false =>
    have hf := hide (show smoothL rows most = [] from by simp [smoothL, h1])
    go_enter Try.func31, Try.ntmps31
    go_wp2_with fail
    refine (impl_BlockOk _ _ _ h hl).mono ?_
    rintro e w1 ⟨rfl, b⟩
    rw [hg]
    go_wp2_with (go_at_call 42; refine (within_any _ _ _ _).mono ?_; rintro e w' ⟨rfl, rfl⟩)
    go_ret
    exact ⟨_, rfl, by rw [hf.out]; exact OwM.nil _ _, b⟩
  | true =>
    obtain ⟨hG, hh, hw⟩ := gridOk_grid hg
    have hm := inR_iff.1 h1
    have hf := hide (show smoothL rows most = gridL rows.length (rowAt rows 0).length (fun y x => minAll most (g2 rows) (rowAt rows 0).length y x rows.length) from by simp [smoothL, hg, h1])
    have hB := hide hG.bd
    have hGe := hide (grid_eq hG)
    have hbk := hide (impl_BlockOk _ _ _ h hl)
    have hcp := hide (fun W (b : Nx w W) => copyRows_any v rows W (h.below b) hl)
    have hr := h.grid hG (by omega) (by omega)
    generalize hhh : rows.length = hh' at *
    generalize hww : (rowAt rows 0).length = ww at *
    generalize hff : g2 rows = f at *
    have hh8 : hh' ≤ 8 := by omega
    have ww8 : ww ≤ 8 := by omega
    have hh1 : 1 ≤ hh' := by omega
    have ww1 : 1 ≤ ww := by omega
    obtain ⟨b, off, c, rb, ro, rc, rfl, hrow, hcell⟩ := hr
    have Hrow := hide hrow
    have Hcell := hide hcell
    clear hrow hcell hhh hww hff hG h hl hv
    go_enter Try.func31, Try.ntmps31
    go_wp2_with fail
    refine (hbk.out).mono ?_
    rintro e w1 ⟨rfl, b1⟩
    rw [hg]
    go_wp2_with (go_at_call 42; refine (within_any _ _ _ _).mono ?_; rintro e w' ⟨rfl, rfl⟩)
    refine (hcp.out _ b1).mono ?_
    rintro e w2 ⟨u, rfl, ho, b2⟩
    have hb0 := b1.trans b2
    rw [hGe.out] at ho
    obtain ⟨gv, cv, rfl⟩ := ho.open_ (by rw [gridL_length]; omega)
    rw [gridL_length] at ho ⊢
    have O0 : OwMN w2 w.heap.size (.slice (some ⟨gv, 0, none⟩) hh' cv) hh' (gridL hh' ww (smTo most f hh' ww 0 0 (f 0 0))) := by
      have := ho.mono b1.size
      rw [gridL_congr (smTo_zero (most := most) (f := f) (h := hh') (wd := ww))] at this
      have e := gridL_length hh' ww (smTo most f hh' ww 0 0 (f 0 0))
      unfold OwM at this
      rwa [e] at this
    have G := hide (And.intro O0 hb0)
    clear ho O0 hb0 b1 b2 hg h1
    go_wp2_with fail
    go_loopw [22] (fun i wr => ∃ y : Nat, y ≤ hh' ∧ i = .int .i64 y ∧ OwMN wr w.heap.size (.slice (some ⟨gv, 0, none⟩) hh' cv) hh' (gridL hh' ww (smTo most f hh' ww y 0 (f y 0))) ∧ Nx w wr) (fun i _ => hh' - (intOf i).toNat)
    case atStart => exact ⟨0, Nat.zero_le _, rfl, G.out.1, G.out.2⟩
    case round =>
      clear G
      obtain ⟨y, hy, rfl, hS, hb⟩ := hrel
      by_cases hyl : y < hh'
      · obtain ⟨g, cg, k1, k2, k3, k4, k5, k6⟩ := OwM.row hS hyl (by rw [row_gridL_length hyl]; omega)
        rw [row_gridL_length hyl] at k1
        have HS := hide hS
        have Hb := hide hb
        have hyi : (y : Int) < (hh' : Int) := by omega
        clear k2 k3 k4 k5 k6 hS hb
        obtain ⟨wo1, rfl⟩ : ∃ wo1 : World, wo1 = wr := ⟨_, rfl⟩
        go_wp2_with fail
        clear k1
        go_loopw [30] (fun i wr => ∃ x : Nat, x ≤ ww ∧ i = .int .i64 x ∧ OwMN wr w.heap.size (.slice (some ⟨gv, 0, none⟩) hh' cv) hh' (gridL hh' ww (smTo most f hh' ww y x (f y x))) ∧ Nx w wr) (fun i _ => ww - (intOf i).toNat)
        case atStart => exact ⟨0, Nat.zero_le _, rfl, HS.out, Hb.out⟩
        case round =>
          clear HS Hb
          obtain ⟨x, hx, rfl, hS, hb⟩ := hrel
          by_cases hxl : x < ww
          · have HS := hide hS
            have Hb := hide hb
            have hxi : (x : Int) < (ww : Int) := by omega
            clear hS hb
            obtain ⟨wo2, rfl⟩ : ∃ wo2 : World, wo2 = wr := ⟨_, rfl⟩
            go_wp2_with fail
            go_loopw [35] (fun i wr => ∃ v : Nat, v ≤ hh' ∧ i = .int .i64 v ∧ OwMN wr w.heap.size (.slice (some ⟨gv, 0, none⟩) hh' cv) hh' (gridL hh' ww (smTo most f hh' ww y x (minAll most f ww y x v))) ∧ Nx w wr) (fun i _ => hh' - (intOf i).toNat)
            case atStart => exact ⟨0, Nat.zero_le _, rfl, HS.out, Hb.out⟩
            case round =>
              clear HS Hb
              obtain ⟨v, hv, rfl, hS, hb⟩ := hrel
              by_cases hvl : v < hh'
              · have c1 := (hb.cells b (off + v) (block_lt_of_cell (Hrow.out v hvl))).trans (Hrow.out v hvl)
                have HS := hide hS
                have Hb := hide hb
                have hvi : (v : Int) < (hh' : Int) := by omega
                clear hS hb
                obtain ⟨wo3, rfl⟩ : ∃ wo3 : World, wo3 = wr := ⟨_, rfl⟩
                go_wp2_with fail
                clear c1
                go_loopw [43] (fun i wr => ∃ u : Nat, u ≤ ww ∧ i = .int .i64 u ∧ OwMN wr w.heap.size (.slice (some ⟨gv, 0, none⟩) hh' cv) hh' (gridL hh' ww (smTo most f hh' ww y x (minRow most f y x v (minAll most f ww y x v) u))) ∧ Nx w wr) (fun i _ => ww - (intOf i).toNat)
                case atStart => exact ⟨0, Nat.zero_le _, rfl, HS.out, Hb.out⟩
                case round =>
                  clear HS Hb
                  obtain ⟨u, hu, rfl, hS, hb⟩ := hrel
                  by_cases hul : u < ww
                  · obtain ⟨g, cg, k1, k2, k3, k4, k5, k6⟩ := OwM.row hS hyl (by rw [row_gridL_length hyl]; omega)
                    rw [row_gridL_length hyl] at k1 k4
                    have kx := k4 x hxl
                    have e1 : gt (rowAt (gridL hh' ww (smTo most f hh' ww y x (minRow most f y x v (minAll most f ww y x v) u))) y) x = minRow most f y x v (minAll most f ww y x v) u := by
                      have := g2_gridL (F := smTo most f hh' ww y x (minRow most f y x v (minAll most f ww y x v) u)) hyl hxl
                      rw [smTo_at] at this
                      exact this
                    rw [e1] at kx
                    have kf := k5 x
                    have c1 := (hb.cells b (off + v) (block_lt_of_cell (Hrow.out v hvl))).trans (Hrow.out v hvl)
                    have c2 := (hb.cells (rb v) (ro v + u) (block_lt_of_cell (Hcell.out v u hvl hul))).trans (Hcell.out v u hvl hul)
                    have hcb := minRow_bd hm hB.out hh8 ww8 hyl hxl hvl (minAll_bd hm hB.out hh8 ww8 hyl hxl (Nat.le_of_lt hvl)) (Nat.le_of_lt hul)
                    have hfb := hB.out v u hvl hul
                    have ha1 := absI_bd (n := (x : Int) - (u : Int)) (by omega)
                    have ha2 := absI_bd (n := (y : Int) - (v : Int)) (by omega)
                    have hsl := slope_bd hm ha1 ha2
                    have R := hide (fun z => show OwMN (wr.setCell ⟨g, x, none⟩ (.int .i64 z)) w.heap.size (.slice (some ⟨gv, 0, none⟩) hh' cv) hh' (gridL hh' ww (smTo most f hh' ww y x z)) ∧ Nx w (wr.setCell ⟨g, x, none⟩ (.int .i64 z)) from by
                      have := k6 x z
                      rw [gridL_set hyl, smTo_upd] at this
                      exact ⟨this, hb.setCell (p := ⟨g, x, none⟩) k2 _⟩)
                    have hmin := hide (show min (minRow most f y x v (minAll most f ww y x v) u) (f v u + most * (absI ((x : Int) - (u : Int)) + absI ((y : Int) - (v : Int)))) = minRow most f y x v (minAll most f ww y x v) (u + 1) from rfl)
                    have hui : (u : Int) < (ww : Int) := by omega
                    clear k2 k3 k4 k5 k6 hS hb e1
                    generalize minRow most f y x v (minAll most f ww y x v) u = cur at *
                    go_wp2_with fail
                    have w1' : IntKind.i64.wrap ((x : Int) - (u : Int)) = (x : Int) - (u : Int) := IntWalk.i64_in _ (by omega)
                    have w2' : IntKind.i64.wrap ((y : Int) - (v : Int)) = (y : Int) - (v : Int) := IntWalk.i64_in _ (by omega)
                    have w3' : IntKind.i64.wrap (absI ((x : Int) - (u : Int)) + absI ((y : Int) - (v : Int))) = absI ((x : Int) - (u : Int)) + absI ((y : Int) - (v : Int)) := IntWalk.i64_in _ (by omega)
                    have w4' : IntKind.i64.wrap (most * (absI ((x : Int) - (u : Int)) + absI ((y : Int) - (v : Int)))) = most * (absI ((x : Int) - (u : Int)) + absI ((y : Int) - (v : Int))) := IntWalk.i64_in _ (by omega)
                    have w5' : IntKind.i64.wrap (f v u + most * (absI ((x : Int) - (u : Int)) + absI ((y : Int) - (v : Int)))) = f v u + most * (absI ((x : Int) - (u : Int)) + absI ((y : Int) - (v : Int))) := IntWalk.i64_in _ (by omega)
                    have s1 := hide (fun W => (size_any ((x : Int) - (u : Int)) W (by omega) (by omega)).mono fun _ _ ⟨he, hw⟩ => (⟨he, hw.symm⟩ : _ ∧ _))
                    have s2 := hide (fun W => (size_any ((y : Int) - (v : Int)) W (by omega) (by omega)).mono fun _ _ ⟨he, hw⟩ => (⟨he, hw.symm⟩ : _ ∧ _))
                    go_still_tail 33, (by kernel_rfl)
                    still_call (s1.out _)
                    repeat still_step
                    still_call (s2.out _)
                    repeat still_step
                    refine wpStill_nil ?_
                    clear w1' w2' w3' w4' w5'
                    go_wp2
                    go_roundw
                    case rel => exact ⟨u + 1, by omega, by go_num, by rw [← hmin.out, ← min_if]; exact (R.out _).1, Nx.drew (R.out _).2⟩
                    case measure => simp [intOf]; omega
                  · obtain rfl : u = ww := by omega
                    have HS := hide hS
                    have Hb := hide hb
                    clear hS hb
                    go_wp2_with fail
                    go_roundw
                    case rel => exact ⟨v + 1, by omega, by go_num, HS.out, Hb.out⟩
                    case measure => simp [intOf]; omega
              · obtain rfl : v = hh' := by omega
                rw [smTo_next] at hS
                have HS := hide hS
                have Hb := hide hb
                clear hS hb
                go_wp2_with fail
                go_roundw
                case rel => exact ⟨x + 1, by omega, by go_num, HS.out, Hb.out⟩
                case measure => simp [intOf]; omega
          · obtain rfl : x = ww := by omega
            rw [gridL_congr (smTo_row (most := most) (f := f) (h := hh') (wd := x) (y := y))] at hS
            have HS := hide hS
            have Hb := hide hb
            clear hS hb
            go_wp2_with fail
            go_roundw
            case rel => exact ⟨y + 1, by omega, by go_num, HS.out, Hb.out⟩
            case measure => simp [intOf]; omega
      · obtain rfl : y = hh' := by omega
        rw [gridL_congr (smTo_end (most := most) (f := f) (h := y) (wd := ww))] at hS
        have HS := hide hS.toM
        have Hb := hide hb
        clear hS hb
        go_wp2_with fail
        go_ret
        exact ⟨_, rfl, by rw [hf.out]; exact HS.out, Hb.out⟩

end Go.Proofs.Ytlkaalbhhnineaa
