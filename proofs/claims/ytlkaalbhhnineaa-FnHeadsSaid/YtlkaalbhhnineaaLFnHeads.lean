/- The law FnHeads holds: for every input the program's function answers as the reference does; nothing that was there is changed. -/
import Derived.Test.YtlkaalbhhnineaaSmJ
import Derived.Test.YtlkaalbhhnineaaHdP
import Derived.Test.YtlkaalbhhnineaaWdQ
import Derived.WalkKit
import Derived.ProofKit
import Derived.Handy
import Derived.OpenShut
import Derived.ShutString
import Derived.ChangeOld
import Derived.Below
import Derived.BigQuiet
import Derived.Deep.QuietTactic
import Derived.Deep.Draws
import Derived.Deep.DeepCutAuto
import Derived.Deep.DeepFit
import Derived.Deep.LoopGhost
import Derived.Outline
import Derived.WalkSpells
import Derived.WalkLawsBesides
import Derived.WalkSmall
import Derived.Laws.OwnMore
import Derived.OneCell
import Derived.Laws.Rows
import Derived.Maps.AppendAt
import Derived.StillTailTactics
import Derived.Lib.SmallJoins
import Derived.Deep.RegionWith
import Derived.Deep.RegionHeld3
import Derived.RegionTactic
import Derived.Deep.Matrix
import Derived.Deep.Fields
import Derived.ChangeSame
namespace Go.Proofs.Ytlkaalbhhnineaa
open Go.RowKit

theorem sumLen_le8 {rows : List (List Int)} {c : Nat} {n : Nat} (h : ∀ i, i < n → (rowAt rows i).length ≤ c) : sumLen rows n ≤ c * n := by
  induction n with
  | zero => exact Nat.zero_le _
  | succ n ih =>
    have := ih fun i hi => h i (by omega)
    have := h n (by omega)
    simp only [sumLen]
    rw [Nat.mul_succ]
    omega
theorem okM_grid {rows : List (List Int)} {h wd : Nat} {lo hi : Int} (hg : Grid rows h wd lo hi) (h8 : h ≤ 8) (w10 : wd ≤ 10) : OkM rows := by
  have h1 := sumLen_le8 (rows := rows) (c := wd) (n := rows.length) (fun i hi => by rw [hg.row i (by have := hg.len; omega)]; exact Nat.le_refl _)
  have h2 := hg.len
  have h3 : wd * rows.length ≤ 10 * 8 := Nat.mul_le_mul w10 (by omega)
  exact ⟨by omega, by omega⟩
theorem rdI_row {w : World} {B O C wd : Nat} {S : List (List Int)} {y : Nat} (hl : (rowAt S y).length = wd) (h : ∀ x, x < wd → w.cell? ⟨B, O + x, none⟩ = some (.int .i64 (g2 S y x))) (h0 : 0 < wd) : RdI w (.slice (some ⟨B, O, none⟩) wd C) (rowAt S y) :=
  ⟨some ⟨B, O, none⟩, C, by rw [hl], fun _ => ⟨B, O, rfl, block_lt_of_cell (h 0 h0), fun j hj => h j (by omega)⟩⟩
theorem wood_bd (rows : List (List Int)) : -1 ≤ wood rows ∧ wood rows ≤ 1280 := by
  unfold wood
  split
  · rename_i hg
    obtain ⟨hG, hh, hw⟩ := gridOk_grid hg
    have := tot_bd (f := g2 rows) (m := 20) (h := rows.length) (Nat.le_refl _) (by omega) (by omega) (by omega) hG.bd
    omega
  · omega
theorem quiet_more {P : Program} {f : FuncId} {args : Array Value} {w : World} {n : Nat} {v : Value}
    (h : Calls P f args (w.drewN n) fun e w' => e = .returned v ∧ ∃ m, w' = (w.drewN n).drewN m) : Calls P f args (w.drewN n) fun e w'' => e = .returned v ∧ ∃ m, w'' = w.drewN m :=
  h.mono fun _ _ ⟨he, m, hm⟩ => ⟨he, n + m, by rw [hm, World.drewN_drewN]⟩
theorem okM_set {S : List (List Int)} {y x : Nat} {z : Int} (h : OkM S) : OkM (S.set y ((rowAt S y).set x z)) := by
  refine ⟨by rw [List.length_set]; exact h.1, ?_⟩
  rw [sumLen_set (by simp), List.length_set]
  exact h.2
set_option maxRecDepth 100000 in
set_option linter.unusedVariables false in
set_option maxHeartbeats 1000000 in
theorem walk'_FnHeads (w0 : World) (v : Value) (zs : List Int) (hr : RdB w0 v zs) (hml : zs.length ≤ maxLen) :
    Calls Try.prog 9 #[v] w0 fun e w' => e = .returned (.bool true) ∧ Nx w0 w' := by
  by_cases hl : 1048576 < zs.length
  · have hbig : decide (1048576 < (zs.length : Int)) = true := by simp; omega
    have HR := hide hr
    go_enter Try.func9, Try.ntmps9
    go_wp2_with (go_at_call 28; refine (big_any v zs _ HR.out).mono ?_; rintro e w' ⟨rfl, rfl⟩)
    go_ret
    exact ⟨rfl, Below.refl _ _⟩
  have hl : zs.length ≤ 1048576 := by omega
  have hbig : decide (1048576 < (zs.length : Int)) = false := by simp; omega
  have hat0 := atV_bd hr 0
  have hat1 := atV_bd hr 1
  have hat2 := atV_bd hr 2
  have HR := hide hr
  clear hr
  go_enter Try.func9, Try.ntmps9
  go_wp2_with (go_at_call 28; refine (big_any v zs _ HR.out).mono ?_; rintro e w' ⟨rfl, rfl⟩)
  clear hbig
  go_wp2_with fail
  refine (DrawBlock_any v zs _ HR.out hl).mono ?_
  rintro e w1 ⟨ub, rfl, rows, ho, hg, hb⟩
  obtain ⟨hG, hh0, hw0⟩ := gridOk_grid hg
  have hOk := okM_grid hG (by omega) (by omega)
  obtain ⟨hh, hhe⟩ : ∃ n, rows.length = n := ⟨_, rfl⟩
  obtain ⟨ww, hwe⟩ : ∃ n, (rowAt rows 0).length = n := ⟨_, rfl⟩
  rw [hhe, hwe] at hG
  rw [hhe] at hh0
  rw [hwe] at hw0
  have hh8 : 1 ≤ hh ∧ hh ≤ 8 := by omega
  have ww8 : 1 ≤ ww ∧ ww ≤ 8 := by omega
  obtain ⟨a0, ha0⟩ : ∃ n, atV zs 0 = n := ⟨_, rfl⟩
  obtain ⟨a1, ha1⟩ : ∃ n, atV zs 1 = n := ⟨_, rfl⟩
  obtain ⟨a2, ha2⟩ : ∃ n, atV zs 2 = n := ⟨_, rfl⟩
  rw [ha0] at hat0
  rw [ha1] at hat1
  rw [ha2] at hat2
  obtain ⟨m, hm⟩ : ∃ n, a0 % 6 = n := ⟨_, rfl⟩
  have hm6 : 0 ≤ m ∧ m ≤ 5 := by omega
  have hmI : I64 m := by unfold I64; omega
  obtain ⟨Y, hY⟩ : ∃ n : Nat, a1 % (hh : Int) = (n : Int) := ⟨_, Int.eq_ofNat_of_zero_le (Int.emod_nonneg _ (by omega)) |>.choose_spec⟩
  obtain ⟨X, hX⟩ : ∃ n : Nat, a2 % (ww : Int) = (n : Int) := ⟨_, Int.eq_ofNat_of_zero_le (Int.emod_nonneg _ (by omega)) |>.choose_spec⟩
  have hYl : Y < hh := by have := Int.emod_lt_of_pos a1 (show (0 : Int) < (hh : Int) by omega); omega
  have hXl : X < ww := by have := Int.emod_lt_of_pos a2 (show (0 : Int) < (ww : Int) by omega); omega
  have HL := heads_law hg (most := m) (by omega) (y := Y) (x := X) (by omega) (by omega)
  obtain ⟨S, hS⟩ : ∃ S, smoothL rows m = S := ⟨_, rfl⟩
  have hSO : OkM S := by rw [← hS]; exact SmoothedBlock_len rows m hOk
  obtain ⟨L1, L2, L3, L4, L5, L6, L7, L8, L9, L10, L11, L12, L13⟩ := HL
  rw [hS] at L1 L2 L3 L4 L5 L6 L7 L8 L9 L11 L12 L13
  rw [hhe] at L4 L5 L6
  rw [hwe] at L5 L6
  have hGS : Grid S hh ww 0 20 := ⟨L4, L5, fun y x hy hx => by have := L6 y x hy hx; omega⟩
  have hAt1 := hide (fun W (b : Nx w0 W) => show Calls Try.prog 30 #[v, .int .i64 1] W fun e w' => e = .returned (.int .i64 a1) ∧ W = w' from by rw [← ha1]; exact at_det v zs 1 W (HR.out.below b) hl (by omega))
  have hAt2 := hide (fun W (b : Nx w0 W) => show Calls Try.prog 30 #[v, .int .i64 2] W fun e w' => e = .returned (.int .i64 a2) ∧ W = w' from by rw [← ha2]; exact at_det v zs 2 W (HR.out.below b) hl (by omega))
  have hAt0 := hide (show Calls Try.prog 30 #[v, .int .i64 0] w1 fun e w' => e = .returned (.int .i64 a0) ∧ w1 = w' from by rw [← ha0]; exact at_det v zs 0 w1 (HR.out.below hb) hl (by omega))
  have hm' := hide hm
  have HU := hide ho.reads
  have HB := hide hb
  have HgG := hide hG
  have HgS := hide hGS
  have HOk := hide hOk
  have HSO := hide hSO
  have H1 := hide L1
  have H2 := hide L2
  have H3 := hide L3
  have H7 := hide L7
  have H8 := hide L8
  have H9 := hide L9
  have H10 := hide L10
  have H11 := hide L11
  have H12 := hide L12
  have H13 := hide L13
  have H6 := hide L6
  have HL4 := hide L4
  have hHe := hide hhe
  have hWe := hide hwe
  have HS := hide hS
  have HgB := hide hg
  have HY := hide hY
  have HX := hide hX
  clear ho hb hG hGS hOk hSO L1 L2 L3 L4 L5 L6 L7 L8 L9 L10 L11 L12 L13 hhe hwe hS hg hm hh0 hw0 ha0 ha1 ha2 HR hY hX
  have hRb := HU.out.grid HgG.out (by omega) (by omega)
  obtain ⟨bb, ob, cb, rb, qb, kb, rfl, hrb, hcb⟩ := hRb
  go_wp2_with (go_at_call 30; refine hAt0.out.mono ?_; rintro e w' ⟨rfl, rfl⟩)
  rw [hm'.out]
  refine (impl_SmoothedBlock _ rows m w1 HU.out HOk.out hmI).mono ?_
  rintro e w2 ⟨us, rfl, hos, b2⟩
  rw [HS.out] at hos
  have HSr := hide hos.reads
  have hRs := HSr.out.grid HgS.out (by omega) (by omega)
  obtain ⟨bs, os, cs, rs, qs, ks, rfl, hrs, hcs⟩ := hRs
  have HQ := hide (fun (W : World) (b : Nx w2 W) => And.intro (show Nx w0 W from HB.out.trans (b2.trans b)) (And.intro (show RdM W (.slice (some ⟨bb, ob, none⟩) hh cb) rows from (HU.out.below (b2.trans b))) (show RdM W (.slice (some ⟨bs, os, none⟩) hh cs) S from HSr.out.below b)))
  have Hrb := hide (fun (W : World) (b : Nx w2 W) y (hy : y < hh) => ((b2.trans b).cells bb (ob + y) (block_lt_of_cell (hrb y hy))).trans (hrb y hy))
  have Hcb := hide (fun (W : World) (b : Nx w2 W) y x (hy : y < hh) (hx : x < ww) => ((b2.trans b).cells (rb y) (qb y + x) (block_lt_of_cell (hcb y x hy hx))).trans (hcb y x hy hx))
  have Hrs := hide (fun (W : World) (b : Nx w2 W) y (hy : y < hh) => (b.cells bs (os + y) (block_lt_of_cell (hrs y hy))).trans (hrs y hy))
  have Hcs := hide (fun (W : World) (b : Nx w2 W) y x (hy : y < hh) (hx : x < ww) => (b.cells (rs y) (qs y + x) (block_lt_of_cell (hcs y x hy hx))).trans (hcs y x hy hx))
  have Hrow := hide (fun (W : World) (b : Nx w2 W) y (hy : y < hh) => rdI_row (w := W) (C := ks y) (S := S) (y := y) (HgS.out.row y hy) (fun x hx => Hcs.out W b y x hy hx) (by omega))
  have N0 := hide (Below.refl w2.heap.size w2 : Nx w2 w2)
  clear hos hrb hcb hrs hcs b2 HU HB HSr
  have hne : ((hh : Int) != (hh : Int)) = false := by simp
  go_wp2_with (go_at_call 19; fail)
  refine (impl_CanCarve _ _ rows S w2 (HQ.out _ N0.out).2.1 HOk.out (HQ.out _ N0.out).2.2 HSO.out).mono ?_
  rintro e w3 ⟨rfl, b⟩
  have N1 := hide (show Nx w2 w3 from Nx.trans N0.out b)
  clear b N0
  rw [H1.out]
  go_wp2_with (go_at_call 21; fail)
  refine (impl_SteepPlaces _ S m w3 (HQ.out _ N1.out).2.2 HSO.out hmI).mono ?_
  rintro e w4 ⟨rfl, b⟩
  have N2 := hide (show Nx w2 w4 from Nx.trans N1.out b)
  clear b N1
  rw [H2.out]
  go_wp2_with (go_at_call 23; fail)
  refine (impl_CutsFor _ _ rows S w4 (HQ.out _ N2.out).2.1 HOk.out (HQ.out _ N2.out).2.2 HSO.out).mono ?_
  rintro e w5 ⟨rfl, b⟩
  have N3 := hide (show Nx w2 w5 from Nx.trans N2.out b)
  clear b N2
  have hcz := H7.out
  generalize cuts rows S = CU at hcz ⊢
  go_wp2_with (go_at_call 31; fail)
  refine (impl_SmoothedBlock _ S m w5 (HQ.out _ N3.out).2.2 HSO.out hmI).mono ?_
  rintro e w6 ⟨ua, rfl, hoa, b⟩
  have N4 := hide (show Nx w2 w6 from Nx.trans N3.out b)
  rw [H3.out] at hoa
  have HAr := hide hoa.reads
  have hRa := HAr.out.grid HgS.out (by omega) (by omega)
  obtain ⟨ba, oa, ca, ra, qa, ka, rfl, hra, hca⟩ := hRa
  have Hra := hide (fun (W : World) (b : Nx w6 W) y (hy : y < hh) => (b.cells ba (oa + y) (block_lt_of_cell (hra y hy))).trans (hra y hy))
  have Hrowa := hide (fun (W : World) (b : Nx w6 W) y (hy : y < hh) => rdI_row (w := W) (C := ka y) (S := S) (y := y) (HgS.out.row y hy) (fun x hx => (b.cells (ra y) (qa y + x) (block_lt_of_cell (hca y x hy hx))).trans (hca y x hy hx)) (by omega))
  clear b N3 hoa hra hca HAr
  go_wp2_with fail
  go_loopw [8] (fun i wr => ∃ k : Nat, k ≤ hh ∧ i = .int .i64 k ∧ Nx w6 wr) (fun i _ => hh - (intOf i).toNat)
  case atStart => exact ⟨0, Nat.zero_le _, rfl, Below.refl _ _⟩
  case round =>
    obtain ⟨k, hk, rfl, hb⟩ := hrel
    by_cases hlt : k < hh
    ·
      have hki : (k : Int) < (hh : Int) := by omega
      have q1 := Hra.out wr hb k hlt
      have q2 := Hrs.out wr (Nx.trans N4.out hb) k hlt
      have I1 := hide ((Hrowa.out wr hb k hlt).below (Nx.drew (Below.refl _ _)))
      have I2 := hide ((Hrow.out wr (Nx.trans N4.out hb) k hlt).below (Nx.drew (Below.refl _ _)))
      have Hb := hide hb
      have hrl : (rowAt S k).length ≤ 1048576 := by rw [HgS.out.row k hlt]; omega
      clear hb
      go_wp2_with fail
      go_still_tail 8, (by kernel_rfl)
      go_wp2_with (go_at_call 32; fail)
      refine (same_yes _ _ (rowAt S k) _ I1.out I2.out hrl).mono ?_
      rintro e w7 ⟨rfl, h1⟩
      go_wp2_with fail
      go_roundw
      case rel => exact ⟨k + 1, by omega, by go_num, Hb.out.trans_drew h1⟩
      case measure => simp [intOf]; omega
    · obtain rfl : hh = k := by omega
      have N5 := hide (show Nx w2 wr from Nx.trans N4.out hb)
      clear hb N4 Hra Hrowa hlt hk
      have hwd : decide (wood rows < wood S) = false := decide_eq_false (by have := H8.out; omega)
      have HWd := hide (show wood rows - wood (cutL rows (X : Int) (Y : Int) (g2 S Y X)) = g2 rows Y X - g2 S Y X from H11.out)
      have hwb := hide (wood_bd rows)
      have hwc := hide (wood_bd (cutL rows (X : Int) (Y : Int) (g2 S Y X)))
      have hst := hide (show steep rows m = steep rows m from rfl)
      obtain ⟨TS, hTS⟩ : ∃ n, steep rows m = n := ⟨_, rfl⟩
      obtain ⟨WB, hWB⟩ : ∃ n, wood rows = n := ⟨_, rfl⟩
      obtain ⟨WS, hWS⟩ : ∃ n, wood S = n := ⟨_, rfl⟩
      rw [hTS] at hcz
      obtain ⟨bq, hbq1, hbq2⟩ : ∃ bq, (CU == 0) = bq ∧ (TS == 0) = bq := ⟨_, rfl, by rw [Bool.eq_iff_iff, beq_iff_eq, beq_iff_eq]; exact hcz.symm⟩
      have hbb : (bq != bq) = false := by simp
      rw [hWB, hWS] at hwd
      have HTS := hide hTS
      have HWB := hide hWB
      have HWS := hide hWS
      clear hTS hWB hWS hcz
      go_wp2_with (go_at_call 21; fail)
      refine (impl_SteepPlaces _ rows m wr (HQ.out _ N5.out).2.1 HOk.out hmI).mono ?_
      rintro e w7 ⟨rfl, b⟩
      have N6 := hide (show Nx w2 w7 from Nx.trans N5.out b)
      clear b N5
      rw [HTS.out]
      go_wp2_with (go_at_call 17; fail)
      refine (impl_WoodOf _ S w7 (HQ.out _ N6.out).2.2 HSO.out).mono ?_
      rintro e w8 ⟨rfl, b⟩
      have N7 := hide (show Nx w2 w8 from Nx.trans N6.out b)
      clear b N6
      rw [HWS.out]
      go_wp2_with (go_at_call 17; fail)
      refine (impl_WoodOf _ rows w8 (HQ.out _ N7.out).2.1 HOk.out).mono ?_
      rintro e w9 ⟨rfl, b⟩
      have N8 := hide (show Nx w2 w9 from Nx.trans N7.out b)
      clear b N7
      rw [HWB.out]
      have hhp : 0 < (hh : Int) := by omega
      have hwp : 0 < (ww : Int) := by omega
      have hy0 : 0 ≤ a1 % (hh : Int) := Int.emod_nonneg _ (by omega)
      have hy1 : a1 % (hh : Int) < (hh : Int) := Int.emod_lt_of_pos _ hhp
      have hx0 : 0 ≤ a2 % (ww : Int) := Int.emod_nonneg _ (by omega)
      have hx1 : a2 % (ww : Int) < (ww : Int) := Int.emod_lt_of_pos _ hwp
      have qb0 := Hrb.out w9 N8.out 0 (by omega)
      rw [Nat.add_zero] at qb0
      have hAtW := hide (hAt1.out w9 (HQ.out _ N8.out).1)
      have hAtV := hide (fun n => hAt2.out (w9.drewN n) ((HQ.out _ N8.out).1.trans (Nx.drewN (Below.refl _ _) n)))
      go_wp2_with (go_at_call 30; refine hAtW.out.mono ?_; rintro e w' ⟨rfl, rfl⟩)
      rw [HY.out]
      go_quiet ((go_at_call 30; exact quiet_left (hAtV.out _)))
      rw [HX.out]
      have N9 := hide (show Nx w2 (w9.drewN nq) from Nx.drewN N8.out nq)
      clear hAtW hAtV hAt0 hAt1 hAt2 N8 qb0 hy0 hy1 hx0 hx1 hat0 hat1 hat2 hm' HY HX hbb hbq1 hbq2 hwd
      generalize World.drewN w9 nq = w10 at N9 ⊢
      obtain ⟨sv, hsv⟩ : ∃ n, g2 S Y X = n := ⟨_, rfl⟩
      obtain ⟨bv, hbv⟩ : ∃ n, g2 rows Y X = n := ⟨_, rfl⟩
      have hsb := H6.out Y X hYl hXl
      have K9 := H9.out
      have K10 := H10.out
      have Kw := HWd.out
      have K12 := H12.out
      have K13 := H13.out
      rw [hsv, hbv] at hsb Kw K12
      rw [hsv] at K9 K13
      rw [hbv] at K10
      obtain ⟨C, hC⟩ : ∃ n, cutL rows (X : Int) (Y : Int) sv = n := ⟨_, rfl⟩
      have hCO : OkM C := by rw [← hC]; exact CutTo_len rows _ _ _ HOk.out
      rw [hC] at Kw K13
      obtain ⟨WC, hWC⟩ : ∃ n, wood C = n := ⟨_, rfl⟩
      have hWC' := wood_bd C
      have hWB' := wood_bd rows
      rw [hWC] at Kw hWC'
      rw [HWB.out] at Kw hWB'
      have HCO := hide hCO
      have HC := hide hC
      have HWC := hide hWC
      have K9 := hide K9
      have K10 := hide K10
      have Kw := hide Kw
      have K12 := hide K12
      have K13 := hide K13
      have LS := hide (fun (W : World) (b : Nx w2 W) => show W.cell? ⟨rs Y, qs Y + X, none⟩ = some (.int .i64 sv) from by rw [← hsv]; exact Hcs.out W b Y X hYl hXl)
      have LB := hide (fun (W : World) (b : Nx w2 W) => show W.cell? ⟨rb Y, qb Y + X, none⟩ = some (.int .i64 bv) from by rw [← hbv]; exact Hcb.out W b Y X hYl hXl)
      have hYi : (Y : Int) < (hh : Int) := by omega
      have hXi : (X : Int) < (ww : Int) := by omega
      have hsvI : I64 sv := by unfold I64; omega
      have hbvI : I64 (bv + 1) := by unfold I64; omega
      have hXI : I64 (X : Int) := by unfold I64; omega
      have hYI : I64 (Y : Int) := by unfold I64; omega
      clear hsv hbv hC hWC hCO HWd H6 H9 H10 H12 H13 Hcs Hcb hwb hwc hst HTS H11
      have q1 := Hrs.out w10 N9.out Y hYl
      have q2 := LS.out w10 N9.out
      go_wp2_with (go_at_call 25; fail)
      clear q1 q2
      refine (impl_CutTo _ rows (X : Int) (Y : Int) sv w10 (HQ.out _ N9.out).2.1 HOk.out hXI hYI hsvI).mono ?_
      rintro e w11 ⟨uc, rfl, oc, b⟩
      rw [K9.out]
      rw [HC.out] at oc
      have HCr := hide oc.reads
      have N10 := hide (show Nx w2 w11 from Nx.trans N9.out b)
      clear b N9 oc
      have q1 := Hrb.out w11 N10.out Y hYl
      have q2 := LB.out w11 N10.out
      go_wp2_with (go_at_call 25; fail)
      clear q1 q2
      refine (impl_CutTo _ rows (X : Int) (Y : Int) (bv + 1) w11 (HQ.out _ N10.out).2.1 HOk.out hXI hYI hbvI).mono ?_
      rintro e w12 ⟨uc2, rfl, _, b⟩
      rw [K10.out]
      have HCr2 := hide (HCr.out.below b)
      have N11 := hide (show Nx w2 w12 from Nx.trans N10.out b)
      clear b N10 HCr
      have q1 := Hrb.out w12 N11.out Y hYl
      have q2 := LB.out w12 N11.out
      have q3 := Hrs.out w12 N11.out Y hYl
      have q4 := LS.out w12 N11.out
      have Q1 := hide (fun n => show Calls Try.prog 17 #[.slice (some ⟨bb, ob, none⟩) hh cb] (w12.drewN n) fun e w' => e = .returned (.int .i64 WB) ∧ ∃ m, w' = (w12.drewN n).drewN m from by rw [← HWB.out]; exact implQ_WoodOf _ rows (w12.drewN n) (HQ.out _ (Nx.drewN N11.out n)).2.1 HOk.out)
      have Q2 := hide (fun n => show Calls Try.prog 17 #[uc] (w12.drewN n) fun e w' => e = .returned (.int .i64 WC) ∧ ∃ m, w' = (w12.drewN n).drewN m from by rw [← HWC.out]; exact implQ_WoodOf _ C (w12.drewN n) (HCr2.out.below (Nx.drewN (Below.refl _ _) n)) HCO.out)
      have w1' : IntKind.i64.wrap (WB - WC) = WB - WC := IntWalk.i64_in _ (by omega)
      have w2' : IntKind.i64.wrap (bv - sv) = bv - sv := IntWalk.i64_in _ (by omega)
      have hnn : ((WB - WC) != (bv - sv)) = false := by rw [Kw.out]; simp
      go_wp2_with fail
      go_quiet ((go_at_call 17; first | (with_reducible exact quiet_more (Q1.out _)) | (with_reducible exact quiet_more (Q2.out _))))
      clear q1 q2 q3 q4 Q1 Q2 w1' w2' 
      have HQ3 := hide (fun (W : World) (b : Nx w12 W) => And.intro (HQ.out W (Nx.trans N11.out b)) (HCr2.out.below b))
      have N12 := hide (show Nx w12 (w12.drewN nq) from Nx.drewN (Below.refl _ _) nq)
      generalize World.drewN w12 nq = w13 at N12 ⊢
      have HG := hide (fun (W : World) (b : Nx w13 W) => show Nx w2 W from Nx.trans N11.out (Nx.trans N12.out b))
      have HF := hide (fun (W : World) (b : Nx w13 W) => HQ3.out W (Nx.trans N12.out b))
      clear HQ HQ3 HCr2 N11 N12 HWC HWS HWB Kw K9 K10 hnn HC
      have G0 := hide (And.intro (OwM.made0 w13) (Nx.made w13 (.cells #[] 39)))
      go_wp2_with fail
      go_loopw [15, 16] (fun q i wr => ∃ k : Nat, k ≤ hh ∧ i = .int .i64 k ∧ OwM wr w13.heap.size q (S.take k) ∧ Nx w13 wr) (fun _ i _ => hh - (intOf i).toNat)
      case atStart => exact ⟨0, Nat.zero_le _, rfl, G0.out.1, G0.out.2⟩
      case round =>
        clear G0
        obtain ⟨k, hk, rfl, hown, hb⟩ := hrel
        by_cases hlt : k < hh
        ·
          have hck := Hrs.out wr (HG.out wr hb) k hlt
          have hbz : bs < wr.heap.size := block_lt_of_cell hck
          have hck2 : ∀ x : Obj, (wr.alloc x).cell? ⟨bs, os + k, none⟩ = some (.slice (some ⟨rs k, qs k, none⟩) ww (ks k)) := fun x => (World.cell?_alloc_lt wr x ⟨bs, os + k, none⟩ hbz).trans hck
          have hki : (k : Int) < (hh : Int) := by omega
          have hrl : (rowAt S k).length ≤ 1048576 := by rw [HgS.out.row k hlt]; omega
          have ho0 := OwI.made0 wr
          have hb1 := Nx.made wr (.cells #[] 3)
          have hrr := (Hrow.out wr (HG.out wr hb) k hlt).below hb1
          have Hown := hide hown
          have Hb := hide hb
          have htl : (S.take k).length ≤ 16777216 := by rw [List.length_take]; omega
          have hstep := hide (take_row (rows := S) (k := k) (by rw [HL4.out]; exact hlt))
          have hz1 := hb.size
          clear hown hb
          go_wp2_with (first
            | (at_builtin; refine wpList_joinI rfl (.tmp 162) (.tmp 166) rfl _ wr.heap.size _ [] _ (rowAt S k) rfl rfl ho0 hrr (by simp; omega) (by simp) ?_; intro v1 wq hown1 hg1 hat1; have Hr := hide hown1; have Hb1 := hide (hb1.only ho0 hg1 (Nat.le_refl _)); obtain ⟨Ar, cr, rfl, _⟩ := hown1.open_; clear hown1 hg1 hat1)
            | (at_builtin; refine wpList_pushM rfl (.tmp 161) (.tmp 168) rfl wr wq w13.heap.size _ (S.take k) _ (rowAt S k) rfl rfl Hown.out Hb1.out Hr.out htl hz1 ?_; intro v2 wp hown2 hg2))
          have Hb2 : Nx w13 wp := Below.grown (Hb.out.trans Hb1.out) hg2 (Hb.out.trans Hb1.out).size (fun k hk => Hown.out.base k hk)
          have G := hide (And.intro hown2 Hb2)
          clear hown2 Hb2 hg2
          go_roundw
          case rel => exact ⟨k + 1, by omega, by go_num, by rw [hstep.out]; exact G.out.1, G.out.2⟩
          case measure => simp [intOf]; omega
        · obtain rfl : hh = k := by omega
          rw [show S.take hh = S from by rw [← HL4.out]; exact List.take_length] at hown
          obtain ⟨gv, cv, rfl⟩ := hown.open_ (by rw [HL4.out]; omega)
          rw [HL4.out] at hown ⊢
          have hownN : OwMN wr w13.heap.size (.slice (some ⟨gv, 0, none⟩) hh cv) hh S := by
            have := hown
            unfold OwM at this
            rwa [HL4.out] at this
          have HON := hide hownN
          have HB := hide hb
          clear hown hownN hlt hk
          have q1 := Hrb.out wr (HG.out wr hb) Y hYl
          have q2 := LB.out wr (HG.out wr hb)
          have q3 := Hrs.out wr (HG.out wr hb) Y hYl
          have q4 := LS.out wr (HG.out wr hb)
          clear hb
          by_cases hsl : sv < bv
          ·
            have hsd : decide (sv < bv) = true := decide_eq_true hsl
            have w1' : IntKind.i64.wrap (sv + 1) = sv + 1 := IntWalk.i64_in _ (by omega)
            have K12' := K12.out hsl
            go_wp2_with fail
            go_quiet (fail)
            clear hsd q1 q2 q3 q4
            have HB1 := hide (show Nx w13 (wr.drewN nq) from Nx.drewN HB.out nq)
            have HO1 := hide (HON.out.below (Nx.drewN (Below.refl _ _) nq))
            generalize World.drewN wr nq = wx at HB1 HO1 ⊢
            clear HON HB
            obtain ⟨gr, cr, k1, k2, k3, k4, k5, k6⟩ := OwM.row HO1.out hYl (by rw [HgS.out.row Y hYl]; omega)
            rw [HgS.out.row Y hYl] at k1 k4
            have q3 := Hrs.out wx (HG.out wx HB1.out) Y hYl
            have q4 := LS.out wx (HG.out wx HB1.out)
            have R := hide (fun z => And.intro (k6 X z) (HB1.out.setCell (p := ⟨gr, X, none⟩) k2 (.int .i64 z)))
            have F := hide (And.intro (show wx.drew.cell? ⟨gr, X, none⟩ = _ from k4 X hXl) (And.intro (show wx.drew.frozen? ⟨gr, X, none⟩ = false from k5 X) (fun z => show OwMN (wx.drew.setCell ⟨gr, X, none⟩ (.int .i64 z)) w13.heap.size (.slice (some ⟨gv, 0, none⟩) hh cv) hh (S.set Y ((rowAt S Y).set X z)) ∧ Nx w13 (wx.drew.setCell ⟨gr, X, none⟩ (.int .i64 z)) from ⟨OwMN.below (k6 X z) (Nx.drew (Below.refl _ _)), (Nx.drew HB1.out).setCell (p := ⟨gr, X, none⟩) k2 (.int .i64 z)⟩)))
            clear k2 k3 k4 k5 k6 R
            go_wp2_with fail
            go_still_tail 13, (by kernel_rfl)
            change wpList _ _ _ _ _ wx.drew
            obtain ⟨f1, f2, f3⟩ := F.out
            have F3 := hide (f3 (sv + 1))
            clear F f3 q3 q4 k1
            generalize wx.drew = wd at f1 f2 F3 ⊢
            go_wp2_with (go_at_call 21; fail)
            have HH := hide (F3.out.1.toM.reads)
            have HHN := hide F3.out.2
            clear f1 f2 F3
            generalize World.setCell _ _ _ = we at HH HHN ⊢
            refine (impl_SteepPlaces _ (S.set Y ((rowAt S Y).set X (sv + 1))) m we HH.out (okM_set HSO.out) hmI).mono ?_
            rintro e wf ⟨rfl, b⟩
            have HHF := hide (show Nx w13 wf from Nx.trans HHN.out b)
            have hTz : (steep (S.set Y ((rowAt S Y).set X (sv + 1))) m == 0) = false := by rw [beq_eq_false_iff_ne]; exact K12'
            clear b HH HHN K12'
            generalize steep (S.set Y ((rowAt S Y).set X (sv + 1))) m = TH at hTz ⊢
            go_wp2_with (go_at_call 14; fail)
            refine (impl_BlockOk _ rows wf (HF.out _ HHF.out).1.2.1 HOk.out).mono ?_
            rintro e wy ⟨rfl, b⟩
            rw [HgB.out]
            have HH2 := hide (show Nx w13 wy from Nx.trans HHF.out b)
            clear b
            go_wp2_with (go_at_call 19; fail)
            refine (impl_CanCarve _ _ rows C wy (HF.out _ HH2.out).1.2.1 HOk.out (HF.out _ HH2.out).2 HCO.out).mono ?_
            rintro e wz ⟨rfl, b⟩
            rw [K13.out]
            have HH3 := hide (show Nx w13 wz from Nx.trans HH2.out b)
            clear b
            go_wp2_with fail
            go_ret
            exact ⟨rfl, (HF.out _ HH3.out).1.1⟩
          ·
            have hsd : decide (sv < bv) = false := decide_eq_false hsl
            go_wp2_with fail
            go_quiet (fail)
            clear hsd q1 q2 q3 q4
            have HB1 := hide (show Nx w13 (wr.drewN nq) from Nx.drewN HB.out nq)
            generalize World.drewN wr nq = wx at HB1 ⊢
            go_wp2_with (go_at_call 14; fail)
            refine (impl_BlockOk _ rows wx (HF.out _ HB1.out).1.2.1 HOk.out).mono ?_
            rintro e wy ⟨rfl, b⟩
            rw [HgB.out]
            have HH2 := hide (show Nx w13 wy from Nx.trans HB1.out b)
            clear b
            go_wp2_with (go_at_call 19; fail)
            refine (impl_CanCarve _ _ rows C wy (HF.out _ HH2.out).1.2.1 HOk.out (HF.out _ HH2.out).2 HCO.out).mono ?_
            rintro e wz ⟨rfl, b⟩
            rw [K13.out]
            have HH3 := hide (show Nx w13 wz from Nx.trans HH2.out b)
            clear b
            go_wp2_with fail
            go_ret
            exact ⟨rfl, (HF.out _ HH3.out).1.1⟩

open Go.ChangeShapes Go.WideShapes Go.ChangeAt Go.RowKit
open Go.ChangeMaps (open_string shut_string)

set_option linter.unusedVariables false
set_option maxRecDepth 100000 in
theorem lifted_FnHeads (os : Os) (started : os.Started) (H : Type) (enc : TypeId × Value → H) :
    ReturnsInHanded {} Try.checked os 9 .any (Rows.fnHeadsSpec.pre6 enc Try.prog Try.f9 Rows.fnHeadsRow.domain false) (Rows.fnHeadsSpec.post enc Try.prog Try.f9 false true false false) := by
  refine returnsInHanded_of_change (C := Try.checked) own started (by kernel_rfl) Try.func9
    (ChangeSpec.witness6 (enc := enc) (C := Try.checked) false ⟨#[], #[.slice none 0 0], []⟩ 8 (by kernel_rfl) (by kernel_rfl) (by kernel_rfl) (by kernel_rfl)) ?_
  intro W base args ds gs before hval0 hW hcnd _
  have hval : ∀ (j : Nat) t v, Try.f9.params[j]? = some t → args[j]? = some v → Value.okWide Try.prog W .any base t v := hval0
  have hW' := hW
  obtain ⟨p, q, hA0, hV, rfl, hfz, hnd⟩ := hW
  have hA : DataW.TrodAll enc Try.prog W 0 (fun _ => true) true Try.f9.params.toList args.toList ds p := hA0
  rw [Try.params9] at hA hval
  obtain ⟨v0, vs0, d0, ds0, p0, q0, hargs, rfl, rfl, h0, r0⟩ := trodAll_cons hA
  obtain ⟨rfl, rfl, rfl⟩ := trodAll_nil r0
  obtain rfl : args = #[v0] := by cases args; simp_all
  obtain ⟨rfl, rfl⟩ := trodVars_none hV
  obtain ⟨a0, len0, cap0, rfl⟩ := okWide_slice Try.underlying33 (hval 0 33 v0 rfl rfl)
  have k0 := h0
  have lt0 : ∀ x ∈ p0, x.block < W.heap.size := by obtain ⟨m, hm⟩ := k0; exact DataW.trod_lt m _ _ _ hm
  obtain ⟨z0, w0⟩ : ∃ zs, IsRow .u8 W a0 len0 cap0 zs := by
    obtain ⟨fuel, hf⟩ := h0
    rcases open_ints Try.underlying33 Try.underlying5 (by kernel_rfl) hf with ⟨hcs, _⟩ | ⟨x, l, c, zs, hcs, _, hl, hm, hz, _, hcell, hwz⟩
    · simp [Value.cells] at hcs
      obtain ⟨rfl, rfl, rfl⟩ := hcs
      exact ⟨[], .inl ⟨rfl, rfl, rfl, rfl⟩⟩
    · simp [Value.cells] at hcs
      obtain ⟨rfl, rfl, rfl⟩ := hcs
      exact ⟨zs, .inr ⟨_, rfl, hl, hm, by simpa using hz, hcell, hwz⟩⟩
  obtain ⟨y0, rd0, ln0⟩ := isRow_readsB w0
  clear hA0 hval0
  refine (walk'_FnHeads W _ y0 rd0 ln0).mono fun e W' ⟨he, bel⟩ => ?_
  subst he
  exact ⟨_, rfl, _, _, _, [], _, [], hW', trodAll_mk1 (shut_bool Try.underlying4 _), (trodAll_cons_mk (Below.trod laidOut (by kernel_rfl) (of_decide_eq_true (by kernel_rfl)) k0 bel lt0) trodAll_mk0), rfl, bel.frame _, fun h => by cases h⟩

theorem holds_FnHeads : Rows.FnHeadsSaid :=
  OpenClaim.holds_of_wide 9 Try.f9 rfl rfl rfl rfl rfl rfl rfl ⟨rfl, rfl, rfl, rfl, rfl⟩ rfl rfl rfl rfl rfl (by kernel_rfl) Try.func9 (by kernel_rfl)
    (of_decide_eq_true (by kernel_rfl)) (by unfold Func.isWrapper; first | (rw [if_pos (by decide +kernel)]; kernel_rfl) | (rw [if_neg (by decide +kernel)]; exact ⟨rfl, rfl⟩))
    (fun os started H enc _ => lifted_FnHeads os started H enc)
#print axioms holds_FnHeads

end Go.Proofs.Ytlkaalbhhnineaa
