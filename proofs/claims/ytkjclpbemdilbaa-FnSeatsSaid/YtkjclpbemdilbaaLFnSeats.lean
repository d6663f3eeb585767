/- The law FnSeats holds: for every input the program's function answers as the reference does; nothing that was there is changed. -/
import Derived.Test.YtkjclpbemdilbaaStL
import Derived.Test.YtkjclpbemdilbaaAtD
import Derived.WalkKit
import Derived.ProofKit
import Derived.Handy
import Derived.OpenShut
import Derived.ShutString
import Derived.ChangeOld
import Derived.Below
import Derived.BigQuiet
import Derived.Deep.QuietTactic
import Derived.Deep.Draws
import Derived.Deep.DeepCutAuto
import Derived.Deep.DeepFit
import Derived.Deep.LoopGhost
import Derived.Outline
import Derived.WalkSpells
import Derived.WalkLawsBesides
import Derived.WalkSmall
import Derived.Laws.OwnMore
import Derived.OneCell
import Derived.Laws.Rows
import Derived.Maps.AppendAt
import Derived.StillTailTactics
import Derived.Lib.SmallJoins
import Derived.Deep.RegionWith
import Derived.Deep.RegionHeld3
import Derived.RegionTactic
import Derived.Deep.Matrix
import Derived.Deep.Fields
import Derived.ChangeSame
namespace Go.Proofs.Ytkjclpbemdilbaa
open Go.RowKit

theorem sumLen_le8 {rows : List (List Int)} {c : Nat} {n : Nat} (h : ∀ i, i < n → (rowAt rows i).length ≤ c) : sumLen rows n ≤ c * n := by
  induction n with
  | zero => exact Nat.zero_le _
  | succ n ih =>
    have := ih fun i hi => h i (by omega)
    have := h n (by omega)
    simp only [sumLen]
    rw [Nat.mul_succ]
    omega
theorem okM_grid {rows : List (List Int)} {h wd : Nat} {lo hi : Int} (hg : Grid rows h wd lo hi) (h8 : h ≤ 8) (w10 : wd ≤ 10) : OkM rows := by
  have h1 := sumLen_le8 (rows := rows) (c := wd) (n := rows.length) (fun i hi => by rw [hg.row i (by have := hg.len; omega)]; exact Nat.le_refl _)
  have h2 := hg.len
  have h3 : wd * rows.length ≤ 10 * 8 := Nat.mul_le_mul w10 (by omega)
  exact ⟨by omega, by omega⟩
theorem rdI_row {w : World} {B O C wd : Nat} {S : List (List Int)} {y : Nat} (hl : (rowAt S y).length = wd) (h : ∀ x, x < wd → w.cell? ⟨B, O + x, none⟩ = some (.int .i64 (g2 S y x))) (h0 : 0 < wd) : RdI w (.slice (some ⟨B, O, none⟩) wd C) (rowAt S y) :=
  ⟨some ⟨B, O, none⟩, C, by rw [hl], fun _ => ⟨B, O, rfl, block_lt_of_cell (h 0 h0), fun j hj => h j (by omega)⟩⟩
set_option maxHeartbeats 400000 in
theorem btoi_any (b : Bool) (w : World) : Calls Try.prog 25 #[.bool b] w fun e w' => e = .returned (.int .i64 (if b then 1 else 0)) ∧ w = w' := by
  cases b with
  | true =>
    go_enter Try.func25, Try.ntmps25
    go_wp2
    go_ret
    exact ⟨rfl, rfl⟩
  | false =>
    go_enter Try.func25, Try.ntmps25
    go_wp2
    go_ret
    exact ⟨rfl, rfl⟩
theorem btoi_true (w : World) : Calls Try.prog 25 #[.bool true] w fun e w' => e = .returned (.int .i64 1) ∧ w = w' := btoi_any true w
theorem btoi_false (w : World) : Calls Try.prog 25 #[.bool false] w fun e w' => e = .returned (.int .i64 0) ∧ w = w' := btoi_any false w
theorem triV_no {rows : List (List Int)} (h : freeT rows 2 = none) : triV (freeT rows 2) = .tuple #[.int .i64 0, .int .i64 0, .bool false] := by rw [h]; rfl
theorem triV_yes {rows : List (List Int)} {p : Nat × Nat} (h : freeT rows 2 = some p) : triV (freeT rows 2) = .tuple #[.int .i64 (p.1 : Int), .int .i64 (p.2 : Int), .bool true] := by rw [h]; rfl
theorem rdM_one (w : World) (z : Int) : RdM ((w.alloc (.cells #[.int .i64 z] 3)).alloc (.cells #[.slice (some ⟨w.heap.size, 0, none⟩) 1 1] 36)) (.slice (some ⟨w.heap.size + 1, 0, none⟩) 1 1) [[z]] := by
  have h1 : RdI (w.alloc (.cells #[.int .i64 z] 3)) (.slice (some ⟨w.heap.size, 0, none⟩) 1 1) [z] := OwI.reads (B := w.heap.size) (World.ownsRow_lit w #[.int .i64 z] 1 (Nat.le_refl _) (by unfold maxLen; omega) rfl)
  have e : (w.alloc (.cells #[.int .i64 z] 3)).heap.size = w.heap.size + 1 := by simp
  have h2 := cell_one_new (w.alloc (.cells #[.int .i64 z] 3)) (.slice (some ⟨w.heap.size, 0, none⟩) 1 1) 36
  have h3 := h1.below (Nx.made (w.alloc (.cells #[.int .i64 z] 3)) (.cells #[.slice (some ⟨w.heap.size, 0, none⟩) 1 1] 36))
  refine ⟨some ⟨w.heap.size + 1, 0, none⟩, 1, rfl, fun _ => ⟨w.heap.size + 1, 0, rfl, by simp, fun i hi => ?_⟩⟩
  obtain rfl : i = 0 := by simpa using hi
  refine ⟨some ⟨w.heap.size, 0, none⟩, 1, ?_, h3⟩
  have h4 := Blk.new (w.alloc (.cells #[.int .i64 z] 3)) 36 #[.slice (some ⟨w.heap.size, 0, none⟩) 1 1]
  rw [e] at h4
  exact h4.cell 0
theorem okM_of_ok {rows : List (List Int)} (hg : gridOk rows 8 10 (-1) 200 = true) : OkM rows := by
  obtain ⟨hG, hh, hw⟩ := gridOk_grid hg
  exact okM_grid hG (by omega) (by omega)
/-- what one seat adds, in the five ways. -/
def STEP (rows : List (List Int)) (r : Int) (y x : Nat) : Prop :=
  (decide (0 ≤ g2 rows y x) = false ∧ decide (g2 rows y x < 0) = true ∧ seesB rows (y : Int) (x : Int) r = false ∧ ((y : Int) == 0) = true ∧ s1 (manN rows y) (x + 1) = s1 (manN rows y) x + 0 ∧ s1 (seesN rows r y) (x + 1) = s1 (seesN rows r y) x + 0) ∨
  (decide (0 ≤ g2 rows y x) = false ∧ decide (g2 rows y x < 0) = true ∧ seesB rows (y : Int) (x : Int) r = false ∧ ((y : Int) == 0) = false ∧ s1 (manN rows y) (x + 1) = s1 (manN rows y) x + 0 ∧ s1 (seesN rows r y) (x + 1) = s1 (seesN rows r y) x + 0) ∨
  (decide (0 ≤ g2 rows y x) = true ∧ decide (g2 rows y x < 0) = false ∧ seesB rows (y : Int) (x : Int) r = false ∧ ((y : Int) == 0) = false ∧ s1 (manN rows y) (x + 1) = s1 (manN rows y) x + 1 ∧ s1 (seesN rows r y) (x + 1) = s1 (seesN rows r y) x + 0) ∨
  (decide (0 ≤ g2 rows y x) = true ∧ decide (g2 rows y x < 0) = false ∧ seesB rows (y : Int) (x : Int) r = true ∧ ((y : Int) == 0) = true ∧ s1 (manN rows y) (x + 1) = s1 (manN rows y) x + 1 ∧ s1 (seesN rows r y) (x + 1) = s1 (seesN rows r y) x + 1) ∨
  (decide (0 ≤ g2 rows y x) = true ∧ decide (g2 rows y x < 0) = false ∧ seesB rows (y : Int) (x : Int) r = true ∧ ((y : Int) == 0) = false ∧ s1 (manN rows y) (x + 1) = s1 (manN rows y) x + 1 ∧ s1 (seesN rows r y) (x + 1) = s1 (seesN rows r y) x + 1)
theorem step_all {rows : List (List Int)} {r : Int} {y x : Nat} (hg : gridOk rows 8 10 (-1) 200 = true) (hr : 0 ≤ r ∧ r ≤ 50) (hy : y < rows.length) (hx : x < (rowAt rows 0).length) : STEP rows r y x := by
  have e1 : ∀ b, decide (0 ≤ g2 rows y x) = b → s1 (manN rows y) (x + 1) = s1 (manN rows y) x + oneB b := fun b h => by simp only [s1, manN]; rw [h]
  have e2 : ∀ b, seesB rows (y : Int) (x : Int) r = b → s1 (seesN rows r y) (x + 1) = s1 (seesN rows r y) x + oneB b := fun b h => by simp only [s1, seesN]; rw [h]
  have hy0 : ((y : Int) == 0) = true ∨ ((y : Int) == 0) = false := by cases ((y : Int) == 0) <;> simp
  unfold STEP
  by_cases hv : 0 ≤ g2 rows y x
  · have h1 : decide (0 ≤ g2 rows y x) = true := decide_eq_true hv
    have h2 : decide (g2 rows y x < 0) = false := decide_eq_false (by omega)
    cases hs : seesB rows (y : Int) (x : Int) r with
    | false =>
      refine .inr (.inr (.inl ⟨h1, h2, rfl, ?_, e1 true h1, e2 false hs⟩))
      rw [beq_eq_false_iff_ne]
      intro h0
      obtain rfl : y = 0 := by omega
      have := sees_front hg hr hx hv
      rw [hs] at this
      cases this
    | true =>
      rcases hy0 with h0 | h0
      · exact .inr (.inr (.inr (.inl ⟨h1, h2, rfl, h0, e1 true h1, e2 true hs⟩)))
      · exact .inr (.inr (.inr (.inr ⟨h1, h2, rfl, h0, e1 true h1, e2 true hs⟩)))
  · have h1 : decide (0 ≤ g2 rows y x) = false := decide_eq_false hv
    have h2 : decide (g2 rows y x < 0) = true := decide_eq_true (by omega)
    have hs : seesB rows (y : Int) (x : Int) r = false := by
      rw [Bool.eq_false_iff]
      exact fun h => hv (sees_man hg hy hx h)
    rcases hy0 with h0 | h0
    · exact .inl ⟨h1, h2, hs, h0, e1 false h1, e2 false hs⟩
    · exact .inr (.inl ⟨h1, h2, hs, h0, e1 false h1, e2 false hs⟩)
set_option maxRecDepth 100000 in
set_option linter.unusedVariables false in
set_option maxHeartbeats 1000000 in
theorem walk'_FnSeats (w0 : World) (v : Value) (zs : List Int) (hr : RdB w0 v zs) (hml : zs.length ≤ maxLen) :
    Calls Try.prog 7 #[v] w0 fun e w' => e = .returned (.bool true) ∧ Nx w0 w' := by
  by_cases hl : 1048576 < zs.length
  · have hbig : decide (1048576 < (zs.length : Int)) = true := by simp; omega
    have HR := hide hr
    go_enter Try.func7, Try.ntmps7
    go_wp2_with (go_at_call 21; refine (big_any v zs _ HR.out).mono ?_; rintro e w' ⟨rfl, rfl⟩)
    go_ret
    exact ⟨rfl, Below.refl _ _⟩
  have hl : zs.length ≤ 1048576 := by omega
  have hbig : decide (1048576 < (zs.length : Int)) = false := by simp; omega
  have hat0 := atV_bd hr 0
  have HR := hide hr
  clear hr
  go_enter Try.func7, Try.ntmps7
  go_wp2_with (go_at_call 21; refine (big_any v zs _ HR.out).mono ?_; rintro e w' ⟨rfl, rfl⟩)
  clear hbig
  go_wp2_with fail
  refine (DrawHall_any v zs _ HR.out hl).mono ?_
  rintro e w1 ⟨ub, rfl, rows, ho, hg, hb⟩
  obtain ⟨hG, hh0, hw0⟩ := gridOk_grid hg
  have hOk := okM_of_ok hg
  have hone := one_seat
  obtain ⟨hh, hhe⟩ : ∃ n, rows.length = n := ⟨_, rfl⟩
  obtain ⟨ww, hwe⟩ : ∃ n, (rowAt rows 0).length = n := ⟨_, rfl⟩
  obtain ⟨a0, ha0⟩ : ∃ n, atV zs 0 = n := ⟨_, rfl⟩
  rw [ha0] at hat0
  obtain ⟨r, hm⟩ : ∃ n, a0 % 50 = n := ⟨_, rfl⟩
  have hr5 : 0 ≤ r ∧ r ≤ 49 := by omega
  have hAt0 := hide (show Calls Try.prog 23 #[v, .int .i64 0] w1 fun e w' => e = .returned (.int .i64 a0) ∧ w1 = w' from by rw [← ha0]; exact at_det v zs 0 w1 (HR.out.below hb) hl (by omega))
  have hm' := hide hm
  obtain ⟨SR, hSR⟩ : ∃ n, seeing rows r = n := ⟨_, rfl⟩
  obtain ⟨SQ, hSQ⟩ : ∃ n, seeing rows (r + 1) = n := ⟨_, rfl⟩
  obtain ⟨MN, hMN⟩ : ∃ n, manned rows = n := ⟨_, rfl⟩
  have hc1 : countS rows r = SR := by rw [countS_grid hg (by omega), hSR]
  have hc2 : countS rows (r + 1) = SQ := by rw [countS_grid hg (by omega), hSQ]
  have hb1 : SR ≤ SQ := by rw [← hSR, ← hSQ]; exact seeing_mono hg (by omega) (by omega)
  have hb2 : SQ ≤ MN := by rw [← hSQ, ← hMN]; exact seeing_le hg
  have hleast := least_law hg
  rw [hMN] at hleast
  obtain ⟨L, hL⟩ : ∃ n, leastR rows = n := ⟨_, rfl⟩
  rw [hL] at hleast
  have hfree : freeT rows 2 = none ∨ ∃ P Q : Nat, freeT rows 2 = some (P, Q) ∧ (P < rows.length ∧ Q + 2 ≤ (rowAt rows 0).length ∧ g2 rows P Q = -1 ∧ g2 rows P (Q + 1) = -1) ∧ seatOk rows (P : Int) (Q : Int) [120, 130] = true ∧ gridOk (seatL rows (P : Int) (Q : Int) [120, 130]) 8 10 (-1) 200 = true ∧ (seatL rows (P : Int) (Q : Int) [120, 130]).length = rows.length ∧
    seatOk (seatL rows (P : Int) (Q : Int) [120, 130]) (P : Int) (Q : Int) [120] = false := by
    cases hf : freeT rows 2 with
    | none => exact .inl rfl
    | some p => obtain ⟨P, Q⟩ := p; exact .inr ⟨P, Q, rfl, freeT_two hg hf, seat_two hg hf⟩
  rw [hhe, hwe] at hfree
  have hman : tot (manN rows) ww hh = MN := by rw [← hMN, ← hhe, ← hwe]; rfl
  have hsee : tot (seesN rows r) ww hh = SR := by rw [← hSR, ← hhe, ← hwe]; rfl
  have hstep : ∀ y x, y < hh → x < ww → STEP rows r y x := by
    intro y x hy hx
    rw [← hhe] at hy
    rw [← hwe] at hx
    exact step_all hg (by omega) hy hx
  rw [hhe, hwe] at hG
  rw [hhe] at hh0
  rw [hwe] at hw0
  have hh8 : 1 ≤ hh ∧ hh ≤ 8 := by omega
  have ww8 : 1 ≤ ww ∧ ww ≤ 10 := by omega
  have hhp : 0 < (hh : Int) := by omega
  have hrI : I64 r := by unfold I64; omega
  have HM := hide hman
  have HE := hide hsee
  have HSt := hide hstep
  have HLs := hide hleast
  have HFr := hide hfree
  have HO := hide ho
  have HB := hide hb
  have HgG := hide hG
  have HOk := hide hOk
  have HgB := hide hg
  have HL := hide hL
  have H1 := hide hc1
  have H2 := hide hc2
  have Hone := hide hone
  clear ho hb hG hOk hhe hwe hg hm hh0 hw0 ha0 HR hSR hSQ hMN hman hsee hstep hleast hfree hL hc1 hc2 hone
  have hRb := HO.out.reads.grid HgG.out (by omega) (by omega)
  obtain ⟨bb, ob, cb, rb, qb, kb, rfl, hrb, hcb⟩ := hRb
  go_wp2_with (go_at_call 23; refine hAt0.out.mono ?_; rintro e w' ⟨rfl, rfl⟩)
  rw [hm'.out]
  have HQ := hide (fun (W : World) (b : Nx w1 W) => And.intro (show Nx w0 W from HB.out.trans b) (show OwM W w0.heap.size (.slice (some ⟨bb, ob, none⟩) hh cb) rows from HO.out.below b))
  have Hrb := hide (fun (W : World) (b : Nx w1 W) y (hy : y < hh) => (b.cells bb (ob + y) (block_lt_of_cell (hrb y hy))).trans (hrb y hy))
  have Hcb := hide (fun (W : World) (b : Nx w1 W) y x (hy : y < hh) (hx : x < ww) => (b.cells (rb y) (qb y + x) (block_lt_of_cell (hcb y x hy hx))).trans (hcb y x hy hx))
  have HCt := hide (fun (W : World) (k : Int) (b : Nx w1 W) => calls_nx (implQ_CountSeeing _ rows k W (HQ.out W b).2.reads HOk.out))
  have HSs := hide (fun (W : World) (y x : Int) (b : Nx w1 W) => calls_nx (implQ_Sees _ rows y x r W (HQ.out W b).2.reads HOk.out))
  clear hrb hcb hAt0 hm' hat0
  refine (HCt.out w1 r (Below.refl _ _)).mono ?_
  rintro e w2 ⟨rfl, b⟩
  rw [H1.out]
  have N1 := hide (show Nx w1 w2 from b)
  clear b
  go_wp2_with (go_at_call 20; fail)
  refine (HCt.out w2 (r + 1) N1.out).mono ?_
  rintro e w3 ⟨rfl, b⟩
  rw [H2.out]
  have N2 := hide (show Nx w1 w3 from Nx.trans N1.out b)
  clear b N1
  go_wp2_with (go_at_call 24; fail)
  refine (calls_nx (implQ_LeastRise _ rows w3 (HQ.out w3 N2.out).2.reads HOk.out)).mono ?_
  rintro e w4 ⟨rfl, b⟩
  rw [HL.out]
  have N3 := hide (show Nx w1 w4 from Nx.trans N2.out b)
  clear b N2
  have hM0 := hide (show tot (manN rows) ww 0 = 0 from rfl)
  have hE0 := hide (show tot (seesN rows r) ww 0 = 0 from rfl)
  have hMs := hide (fun y => show tot (manN rows) ww (y + 1) = tot (manN rows) ww y + s1 (manN rows y) ww from rfl)
  have hEs := hide (fun y => show tot (seesN rows r) ww (y + 1) = tot (seesN rows r) ww y + s1 (seesN rows r y) ww from rfl)
  have hMb := hide (fun y (hy : y ≤ hh) => tot_bd (f := manN rows) (wd := ww) (h := hh) hy (by omega) (by omega) (fun y x => oneB_bd _))
  have hEb := hide (fun y (hy : y ≤ hh) => tot_bd (f := seesN rows r) (wd := ww) (h := hh) hy (by omega) (by omega) (fun y x => oneB_bd _))
  have hMb1 := hide (fun y x (hx : x ≤ ww) => s1_le10 (g := manN rows y) (m := 1) (k := x) (by omega) (by omega) (fun j _ => oneB_bd _))
  have hEb1 := hide (fun y x (hx : x ≤ ww) => s1_le10 (g := seesN rows r y) (m := 1) (k := x) (by omega) (by omega) (fun j _ => oneB_bd _))
  have hMz := hide (fun y => show s1 (manN rows y) 0 = 0 from rfl)
  have hEz := hide (fun y => show s1 (seesN rows r y) 0 = 0 from rfl)
  go_wp2_with fail
  go_loopw [8, 9, 10] (fun p s i wr => ∃ y : Nat, y ≤ hh ∧ i = .int .i64 y ∧ p = .int .i64 (tot (manN rows) ww y) ∧ s = .int .i64 (tot (seesN rows r) ww y) ∧ Nx w4 wr) (fun _ _ i _ => hh - (intOf i).toNat)
  case atStart => exact ⟨0, Nat.zero_le _, rfl, by rw [hM0.out], by rw [hE0.out], Below.refl _ _⟩
  case round =>
    clear hM0 hE0
    obtain ⟨y, hy, rfl, rfl, rfl, hb⟩ := hrel
    by_cases hyl : y < hh
    ·
      have Hb := hide hb
      have hyi : (y : Int) < (hh : Int) := by omega
      have hbM := hMb.out y hy
      have hbE := hEb.out y hy
      clear hb
      obtain ⟨wo, rfl⟩ : ∃ wo : World, wo = wr := ⟨_, rfl⟩
      go_wp2_with fail
      go_loopw [8, 9, 11] (fun p s i wr => ∃ x : Nat, x ≤ ww ∧ i = .int .i64 x ∧ p = .int .i64 (tot (manN rows) ww y + s1 (manN rows y) x) ∧ s = .int .i64 (tot (seesN rows r) ww y + s1 (seesN rows r y) x) ∧ Nx w4 wr) (fun _ _ i _ => ww - (intOf i).toNat)
      case atStart => exact ⟨0, Nat.zero_le _, rfl, by rw [hMz.out, Int.add_zero], by rw [hEz.out, Int.add_zero], Hb.out⟩
      case round =>
        obtain ⟨x, hx, rfl, rfl, rfl, hb⟩ := hrel
        have q1 := Hrb.out wr (Nx.trans N3.out hb) y hyl
        by_cases hxl : x < ww
        ·
          have q2 := Hcb.out wr (Nx.trans N3.out hb) y x hyl hxl
          have hxi : (x : Int) < (ww : Int) := by omega
          have hbM1 := hMb1.out y x hx
          have hbE1 := hEb1.out y x hx
          have HbN := hide (show Nx w1 wr from Nx.trans N3.out hb)
          have Hb4 := hide hb
          have hst := HSt.out y x hyl hxl
          have q1' := hide (Hrb.out)
          clear hb
          unfold STEP at hst
          rcases hst with ⟨d1, d2, d3, d4, d5, d6⟩ | ⟨d1, d2, d3, d4, d5, d6⟩ | ⟨d1, d2, d3, d4, d5, d6⟩ | ⟨d1, d2, d3, d4, d5, d6⟩ | ⟨d1, d2, d3, d4, d5, d6⟩
          all_goals
            have D5 := hide d5
            have D6 := hide d6
            have D3 := hide d3
            clear d3 d5 d6
            go_wp2_with (go_at_call 25; fail)
            first
              | refine (btoi_true _).mono ?_
              | refine (btoi_false _).mono ?_
            rintro e w' ⟨rfl, rfl⟩
            go_wp2_with (go_at_call 16; fail)
            refine (HSs.out _ (y : Int) (x : Int) HbN.out).mono ?_
            rintro e w5 ⟨rfl, b⟩
            rw [D3.out]
            have Hb5 := hide (show Nx w4 w5 from Nx.trans Hb4.out b)
            have HbN5 := hide (show Nx w1 w5 from Nx.trans HbN.out b)
            clear b q1 q2
            have q1 := Hrb.out w5 HbN5.out y hyl
            have q2 := Hcb.out w5 HbN5.out y x hyl hxl
            go_wp2_with (go_at_call 25; fail)
            first
              | refine (btoi_true _).mono ?_
              | refine (btoi_false _).mono ?_
            rintro e w' ⟨rfl, rfl⟩
            go_wp2_with fail
            go_roundw
            case rel => exact ⟨x + 1, by omega, by go_num, by rw [D5.out]; congr 1; omega, by rw [D6.out]; congr 1; omega, Hb5.out⟩
            case measure => simp [intOf]; omega
        · obtain rfl : ww = x := by omega
          have Hb4 := hide hb
          clear hb
          go_wp2_with fail
          go_roundw
          case rel => exact ⟨y + 1, by omega, by go_num, by rw [hMs.out], by rw [hEs.out], Hb4.out⟩
          case measure => simp [intOf]; omega
    · obtain rfl : hh = y := by omega
      rw [HM.out, HE.out]
      have NN := hide (show Nx w1 wr from Nx.trans N3.out hb)
      have hbE := hEb.out hh (Nat.le_refl _)
      have hbM := hMb.out hh (Nat.le_refl _)
      rw [HM.out] at hbM
      rw [HE.out] at hbE
      clear hb hy hyl N3 hMs hEs hMb hEb hMb1 hEb1 hMz hEz HM HE HSt HSs H1 H2 HL
      have g1 : (SR != SR) = false := by simp
      have g2' : decide (SQ < SR) = false := decide_eq_false (by omega)
      have g3 : decide (MN < SQ) = false := decide_eq_false (by omega)
      rcases HLs.out with ⟨rfl, hL2⟩ | ⟨i, hi, rfl, hL1, hL2⟩
      ·
        have e1 : (countS rows 50 == MN) = false := by rw [beq_eq_false_iff_ne]; exact hL2
        clear hL2 HLs
        go_wp2_with (go_at_call 20; fail)
        refine (HCt.out wr 50 NN.out).mono ?_
        rintro e wt ⟨rfl, b⟩
        have NT := hide (show Nx w1 wt from Nx.trans NN.out b)
        clear b NN
        generalize countS rows 50 = C5 at e1 ⊢
        go_wp2_with (go_at_call 18; fail)
        refine (impl_FreeTogether _ rows 2 w0.heap.size wt (HQ.out _ NT.out).2 HOk.out (by unfold I64; omega)).mono ?_
        rintro e wf ⟨rfl, b⟩
        have NF := hide (show Nx w1 wf from Nx.trans NT.out b)
        clear b
        rcases HFr.out with hf | ⟨P, Q, hf, ⟨hP, hQ, hv1, hv2⟩, hs1, hs2, hs3, hs4⟩
        · rw [triV_no hf]
          clear hf HFr
          go_wp2_with (go_at_call 13; fail)
          refine (impl_HallOk _ rows wf (HQ.out _ NF.out).2.reads HOk.out).mono ?_
          rintro e wA ⟨rfl, b⟩
          rw [HgB.out]
          have NA := hide (show Nx w1 wA from Nx.trans NF.out b)
          clear b
          go_wp2_with (go_at_call 20; fail)
          have LT := hide (rdM_one wA 100)
          have NB := hide (((HQ.out _ NA.out).1.trans (Nx.made wA (.cells #[.int .i64 100] 3))).trans (Nx.made (wA.alloc (.cells #[.int .i64 100] 3)) (.cells #[.slice (some ⟨wA.heap.size, 0, none⟩) 1 1] 36)))
          refine (calls_nx (implQ_CountSeeing _ [[100]] 0 _ LT.out (okM_of_ok Hone.out.2))).mono ?_
          rintro e wB ⟨rfl, b⟩
          rw [Hone.out.1]
          have NC := hide (show Nx w0 wB from Nx.trans NB.out b)
          clear b LT NB
          go_wp2_with fail
          go_ret
          exact ⟨rfl, NC.out⟩
        · rw [triV_yes hf]
          clear hf HFr
          have hPi : (P : Int) < (hh : Int) := by omega
          have hQi : (Q : Int) + 1 < (ww : Int) := by omega
          have hPI : I64 (P : Int) := by unfold I64; omega
          have hQI : I64 (Q : Int) := by unfold I64; omega
          have hq1 : ((Q : Int) + 1).toNat = Q + 1 := by omega
          have m1 : decide ((P : Int) < 0) = false := decide_eq_false (by omega)
          have m2 : decide ((Q : Int) < 0) = false := decide_eq_false (by omega)
          have m3 : decide ((hh : Int) ≤ (P : Int)) = false := decide_eq_false (by omega)
          have m4 : decide ((ww : Int) ≤ (Q : Int) + 1) = false := decide_eq_false (by omega)
          have hnh : ((hh : Int) != (hh : Int)) = false := by simp
          have S1 := hide hs1
          have S2 := hide hs2
          have S3 := hide hs3
          have S4 := hide hs4
          have V1 := hide hv1
          have V2 := hide hv2
          have hQl := hide hQ
          have q0 := Hrb.out wf NF.out 0 (by omega)
          rw [Nat.add_zero] at q0
          clear hs1 hs2 hs3 hs4 hv1 hv2
          go_wp2_with (go_at_call 26; fail)
          have NL := Nx.made wf (.cells #[.int .i64 120, .int .i64 130] 3)
          have LI := hide (show RdI (wf.alloc (.cells #[.int .i64 120, .int .i64 130] 3)) (.slice (some ⟨wf.heap.size, 0, none⟩) 2 2) [120, 130] from OwI.reads (B := wf.heap.size) (World.ownsRow_lit wf #[.int .i64 120, .int .i64 130] 2 (Nat.le_refl _) (by unfold maxLen; omega) rfl))
          have NG := hide (show Nx w1 (wf.alloc (.cells #[.int .i64 120, .int .i64 130] 3)) from Nx.trans NF.out NL)
          clear NL NF q0
          generalize World.alloc _ _ = wg at LI NG ⊢
          refine (impl_SeatPeople _ rows (P : Int) (Q : Int) _ [120, 130] w0.heap.size wg (HQ.out _ NG.out).2 HOk.out LI.out (by simp) hPI hQI).mono ?_
          rintro e wh ⟨uz, rfl, oz, b⟩
          rw [S1.out]
          have NH := hide (show Nx w1 wh from Nx.trans NG.out b)
          clear b NG LI S1
          generalize seatL rows (P : Int) (Q : Int) [120, 130] = Z at *
          have HZ := hide oz
          obtain ⟨Az, cz, rfl, _⟩ := oz.reads
          rw [S3.out] at *
          clear oz
          have HZO := hide (okM_of_ok S2.out)
          go_wp2_with (go_at_call 26; fail)
          have NL := Nx.made wh (.cells #[.int .i64 120] 3)
          have LI := hide (show RdI (wh.alloc (.cells #[.int .i64 120] 3)) (.slice (some ⟨wh.heap.size, 0, none⟩) 1 1) [120] from OwI.reads (B := wh.heap.size) (World.ownsRow_lit wh #[.int .i64 120] 1 (Nat.le_refl _) (by unfold maxLen; omega) rfl))
          have NI := hide (show Nx w1 (wh.alloc (.cells #[.int .i64 120] 3)) from Nx.trans NH.out NL)
          have HZ2 := hide (HZ.out.below NL)
          clear NL NH HZ
          generalize World.alloc _ _ = wi at LI NI HZ2 ⊢
          refine (impl_SeatPeople _ Z (P : Int) (Q : Int) _ [120] _ wi HZ2.out HZO.out LI.out (by simp) hPI hQI).mono ?_
          rintro e wj ⟨uy, rfl, _, b⟩
          rw [S4.out]
          have NJ := hide (show Nx w1 wj from Nx.trans NI.out b)
          have HZ3 := hide (HZ2.out.below b).reads
          clear b NI LI S4 HZ2
          go_wp2_with (go_at_call 20; fail)
          refine (calls_nx (implQ_CountSeeing _ Z 50 wj HZ3.out HZO.out)).mono ?_
          rintro e wk ⟨rfl, b⟩
          have hcz : decide (countS Z 50 < 0) = false := decide_eq_false (by rw [countS_grid S2.out (by omega)]; have := seeing_bd S2.out 50; omega)
          have NK := hide (show Nx w1 wk from Nx.trans NJ.out b)
          clear b NJ HZ3
          generalize countS Z 50 = CZ at hcz ⊢
          have q1 := Hrb.out wk NK.out P hP
          have q2 := Hcb.out wk NK.out P Q hP (by omega)
          have q3 := Hcb.out wk NK.out P (Q + 1) hP (by omega)
          rw [V1.out] at q2
          rw [V2.out] at q3
          have hQi2 : (Q : Int) < (ww : Int) := by omega
          go_wp2_with (go_at_call 13; fail)
          refine (impl_HallOk _ rows wk (HQ.out _ NK.out).2.reads HOk.out).mono ?_
          rintro e wA ⟨rfl, b⟩
          rw [HgB.out]
          have NA := hide (show Nx w1 wA from Nx.trans NK.out b)
          clear b
          go_wp2_with (go_at_call 20; fail)
          have LT := hide (rdM_one wA 100)
          have NB := hide (((HQ.out _ NA.out).1.trans (Nx.made wA (.cells #[.int .i64 100] 3))).trans (Nx.made (wA.alloc (.cells #[.int .i64 100] 3)) (.cells #[.slice (some ⟨wA.heap.size, 0, none⟩) 1 1] 36)))
          refine (calls_nx (implQ_CountSeeing _ [[100]] 0 _ LT.out (okM_of_ok Hone.out.2))).mono ?_
          rintro e wB ⟨rfl, b⟩
          rw [Hone.out.1]
          have NC := hide (show Nx w0 wB from Nx.trans NB.out b)
          clear b LT NB
          go_wp2_with fail
          go_ret
          exact ⟨rfl, NC.out⟩
      · have hi51 : (i : Int) ≤ 50 := by omega
        have m0 : decide (0 ≤ (i : Int)) = true := decide_eq_true (by omega)
        have m9 : decide ((i : Int) < 0) = false := decide_eq_false (by omega)
        have e0 : (MN != MN) = false := by simp
        by_cases hi0 : 0 < i
        ·
          have m8 : decide (0 < (i : Int)) = true := decide_eq_true (by omega)
          have e1 : (countS rows ((i : Int) - 1) == MN) = false := by rw [beq_eq_false_iff_ne]; exact hL2 hi0
          have HL1 := hide hL1
          clear hL1 hL2 HLs
          go_wp2_with (go_at_call 20; fail)
          refine (HCt.out wr (i : Int) NN.out).mono ?_
          rintro e ws ⟨rfl, b⟩
          rw [HL1.out]
          have NS := hide (show Nx w1 ws from Nx.trans NN.out b)
          clear b NN
          go_wp2_with (go_at_call 20; fail)
          refine (HCt.out ws ((i : Int) - 1) NS.out).mono ?_
          rintro e wt ⟨rfl, b⟩
          have NT := hide (show Nx w1 wt from Nx.trans NS.out b)
          clear b NS
          generalize countS rows ((i : Int) - 1) = C5 at e1 ⊢
          go_wp2_with (go_at_call 18; fail)
          refine (impl_FreeTogether _ rows 2 w0.heap.size wt (HQ.out _ NT.out).2 HOk.out (by unfold I64; omega)).mono ?_
          rintro e wf ⟨rfl, b⟩
          have NF := hide (show Nx w1 wf from Nx.trans NT.out b)
          clear b
          rcases HFr.out with hf | ⟨P, Q, hf, ⟨hP, hQ, hv1, hv2⟩, hs1, hs2, hs3, hs4⟩
          · rw [triV_no hf]
            clear hf HFr
            go_wp2_with (go_at_call 13; fail)
            refine (impl_HallOk _ rows wf (HQ.out _ NF.out).2.reads HOk.out).mono ?_
            rintro e wA ⟨rfl, b⟩
            rw [HgB.out]
            have NA := hide (show Nx w1 wA from Nx.trans NF.out b)
            clear b
            go_wp2_with (go_at_call 20; fail)
            have LT := hide (rdM_one wA 100)
            have NB := hide (((HQ.out _ NA.out).1.trans (Nx.made wA (.cells #[.int .i64 100] 3))).trans (Nx.made (wA.alloc (.cells #[.int .i64 100] 3)) (.cells #[.slice (some ⟨wA.heap.size, 0, none⟩) 1 1] 36)))
            refine (calls_nx (implQ_CountSeeing _ [[100]] 0 _ LT.out (okM_of_ok Hone.out.2))).mono ?_
            rintro e wB ⟨rfl, b⟩
            rw [Hone.out.1]
            have NC := hide (show Nx w0 wB from Nx.trans NB.out b)
            clear b LT NB
            go_wp2_with fail
            go_ret
            exact ⟨rfl, NC.out⟩
          · rw [triV_yes hf]
            clear hf HFr
            have hPi : (P : Int) < (hh : Int) := by omega
            have hQi : (Q : Int) + 1 < (ww : Int) := by omega
            have hPI : I64 (P : Int) := by unfold I64; omega
            have hQI : I64 (Q : Int) := by unfold I64; omega
            have hq1 : ((Q : Int) + 1).toNat = Q + 1 := by omega
            have m1 : decide ((P : Int) < 0) = false := decide_eq_false (by omega)
            have m2 : decide ((Q : Int) < 0) = false := decide_eq_false (by omega)
            have m3 : decide ((hh : Int) ≤ (P : Int)) = false := decide_eq_false (by omega)
            have m4 : decide ((ww : Int) ≤ (Q : Int) + 1) = false := decide_eq_false (by omega)
            have hnh : ((hh : Int) != (hh : Int)) = false := by simp
            have S1 := hide hs1
            have S2 := hide hs2
            have S3 := hide hs3
            have S4 := hide hs4
            have V1 := hide hv1
            have V2 := hide hv2
            have hQl := hide hQ
            have q0 := Hrb.out wf NF.out 0 (by omega)
            rw [Nat.add_zero] at q0
            clear hs1 hs2 hs3 hs4 hv1 hv2
            go_wp2_with (go_at_call 26; fail)
            have NL := Nx.made wf (.cells #[.int .i64 120, .int .i64 130] 3)
            have LI := hide (show RdI (wf.alloc (.cells #[.int .i64 120, .int .i64 130] 3)) (.slice (some ⟨wf.heap.size, 0, none⟩) 2 2) [120, 130] from OwI.reads (B := wf.heap.size) (World.ownsRow_lit wf #[.int .i64 120, .int .i64 130] 2 (Nat.le_refl _) (by unfold maxLen; omega) rfl))
            have NG := hide (show Nx w1 (wf.alloc (.cells #[.int .i64 120, .int .i64 130] 3)) from Nx.trans NF.out NL)
            clear NL NF q0
            generalize World.alloc _ _ = wg at LI NG ⊢
            refine (impl_SeatPeople _ rows (P : Int) (Q : Int) _ [120, 130] w0.heap.size wg (HQ.out _ NG.out).2 HOk.out LI.out (by simp) hPI hQI).mono ?_
            rintro e wh ⟨uz, rfl, oz, b⟩
            rw [S1.out]
            have NH := hide (show Nx w1 wh from Nx.trans NG.out b)
            clear b NG LI S1
            generalize seatL rows (P : Int) (Q : Int) [120, 130] = Z at *
            have HZ := hide oz
            obtain ⟨Az, cz, rfl, _⟩ := oz.reads
            rw [S3.out] at *
            clear oz
            have HZO := hide (okM_of_ok S2.out)
            go_wp2_with (go_at_call 26; fail)
            have NL := Nx.made wh (.cells #[.int .i64 120] 3)
            have LI := hide (show RdI (wh.alloc (.cells #[.int .i64 120] 3)) (.slice (some ⟨wh.heap.size, 0, none⟩) 1 1) [120] from OwI.reads (B := wh.heap.size) (World.ownsRow_lit wh #[.int .i64 120] 1 (Nat.le_refl _) (by unfold maxLen; omega) rfl))
            have NI := hide (show Nx w1 (wh.alloc (.cells #[.int .i64 120] 3)) from Nx.trans NH.out NL)
            have HZ2 := hide (HZ.out.below NL)
            clear NL NH HZ
            generalize World.alloc _ _ = wi at LI NI HZ2 ⊢
            refine (impl_SeatPeople _ Z (P : Int) (Q : Int) _ [120] _ wi HZ2.out HZO.out LI.out (by simp) hPI hQI).mono ?_
            rintro e wj ⟨uy, rfl, _, b⟩
            rw [S4.out]
            have NJ := hide (show Nx w1 wj from Nx.trans NI.out b)
            have HZ3 := hide (HZ2.out.below b).reads
            clear b NI LI S4 HZ2
            go_wp2_with (go_at_call 20; fail)
            refine (calls_nx (implQ_CountSeeing _ Z 50 wj HZ3.out HZO.out)).mono ?_
            rintro e wk ⟨rfl, b⟩
            have hcz : decide (countS Z 50 < 0) = false := decide_eq_false (by rw [countS_grid S2.out (by omega)]; have := seeing_bd S2.out 50; omega)
            have NK := hide (show Nx w1 wk from Nx.trans NJ.out b)
            clear b NJ HZ3
            generalize countS Z 50 = CZ at hcz ⊢
            have q1 := Hrb.out wk NK.out P hP
            have q2 := Hcb.out wk NK.out P Q hP (by omega)
            have q3 := Hcb.out wk NK.out P (Q + 1) hP (by omega)
            rw [V1.out] at q2
            rw [V2.out] at q3
            have hQi2 : (Q : Int) < (ww : Int) := by omega
            go_wp2_with (go_at_call 13; fail)
            refine (impl_HallOk _ rows wk (HQ.out _ NK.out).2.reads HOk.out).mono ?_
            rintro e wA ⟨rfl, b⟩
            rw [HgB.out]
            have NA := hide (show Nx w1 wA from Nx.trans NK.out b)
            clear b
            go_wp2_with (go_at_call 20; fail)
            have LT := hide (rdM_one wA 100)
            have NB := hide (((HQ.out _ NA.out).1.trans (Nx.made wA (.cells #[.int .i64 100] 3))).trans (Nx.made (wA.alloc (.cells #[.int .i64 100] 3)) (.cells #[.slice (some ⟨wA.heap.size, 0, none⟩) 1 1] 36)))
            refine (calls_nx (implQ_CountSeeing _ [[100]] 0 _ LT.out (okM_of_ok Hone.out.2))).mono ?_
            rintro e wB ⟨rfl, b⟩
            rw [Hone.out.1]
            have NC := hide (show Nx w0 wB from Nx.trans NB.out b)
            clear b LT NB
            go_wp2_with fail
            go_ret
            exact ⟨rfl, NC.out⟩
        ·
          have m8 : decide (0 < (i : Int)) = false := decide_eq_false (by omega)
          have HL1 := hide hL1
          clear hL1 hL2 HLs
          go_wp2_with (go_at_call 20; fail)
          refine (HCt.out wr (i : Int) NN.out).mono ?_
          rintro e wt ⟨rfl, b⟩
          rw [HL1.out]
          have NT := hide (show Nx w1 wt from Nx.trans NN.out b)
          clear b NN
          go_wp2_with (go_at_call 18; fail)
          refine (impl_FreeTogether _ rows 2 w0.heap.size wt (HQ.out _ NT.out).2 HOk.out (by unfold I64; omega)).mono ?_
          rintro e wf ⟨rfl, b⟩
          have NF := hide (show Nx w1 wf from Nx.trans NT.out b)
          clear b
          rcases HFr.out with hf | ⟨P, Q, hf, ⟨hP, hQ, hv1, hv2⟩, hs1, hs2, hs3, hs4⟩
          · rw [triV_no hf]
            clear hf HFr
            go_wp2_with (go_at_call 13; fail)
            refine (impl_HallOk _ rows wf (HQ.out _ NF.out).2.reads HOk.out).mono ?_
            rintro e wA ⟨rfl, b⟩
            rw [HgB.out]
            have NA := hide (show Nx w1 wA from Nx.trans NF.out b)
            clear b
            go_wp2_with (go_at_call 20; fail)
            have LT := hide (rdM_one wA 100)
            have NB := hide (((HQ.out _ NA.out).1.trans (Nx.made wA (.cells #[.int .i64 100] 3))).trans (Nx.made (wA.alloc (.cells #[.int .i64 100] 3)) (.cells #[.slice (some ⟨wA.heap.size, 0, none⟩) 1 1] 36)))
            refine (calls_nx (implQ_CountSeeing _ [[100]] 0 _ LT.out (okM_of_ok Hone.out.2))).mono ?_
            rintro e wB ⟨rfl, b⟩
            rw [Hone.out.1]
            have NC := hide (show Nx w0 wB from Nx.trans NB.out b)
            clear b LT NB
            go_wp2_with fail
            go_ret
            exact ⟨rfl, NC.out⟩
          · rw [triV_yes hf]
            clear hf HFr
            have hPi : (P : Int) < (hh : Int) := by omega
            have hQi : (Q : Int) + 1 < (ww : Int) := by omega
            have hPI : I64 (P : Int) := by unfold I64; omega
            have hQI : I64 (Q : Int) := by unfold I64; omega
            have hq1 : ((Q : Int) + 1).toNat = Q + 1 := by omega
            have m1 : decide ((P : Int) < 0) = false := decide_eq_false (by omega)
            have m2 : decide ((Q : Int) < 0) = false := decide_eq_false (by omega)
            have m3 : decide ((hh : Int) ≤ (P : Int)) = false := decide_eq_false (by omega)
            have m4 : decide ((ww : Int) ≤ (Q : Int) + 1) = false := decide_eq_false (by omega)
            have hnh : ((hh : Int) != (hh : Int)) = false := by simp
            have S1 := hide hs1
            have S2 := hide hs2
            have S3 := hide hs3
            have S4 := hide hs4
            have V1 := hide hv1
            have V2 := hide hv2
            have hQl := hide hQ
            have q0 := Hrb.out wf NF.out 0 (by omega)
            rw [Nat.add_zero] at q0
            clear hs1 hs2 hs3 hs4 hv1 hv2
            go_wp2_with (go_at_call 26; fail)
            have NL := Nx.made wf (.cells #[.int .i64 120, .int .i64 130] 3)
            have LI := hide (show RdI (wf.alloc (.cells #[.int .i64 120, .int .i64 130] 3)) (.slice (some ⟨wf.heap.size, 0, none⟩) 2 2) [120, 130] from OwI.reads (B := wf.heap.size) (World.ownsRow_lit wf #[.int .i64 120, .int .i64 130] 2 (Nat.le_refl _) (by unfold maxLen; omega) rfl))
            have NG := hide (show Nx w1 (wf.alloc (.cells #[.int .i64 120, .int .i64 130] 3)) from Nx.trans NF.out NL)
            clear NL NF q0
            generalize World.alloc _ _ = wg at LI NG ⊢
            refine (impl_SeatPeople _ rows (P : Int) (Q : Int) _ [120, 130] w0.heap.size wg (HQ.out _ NG.out).2 HOk.out LI.out (by simp) hPI hQI).mono ?_
            rintro e wh ⟨uz, rfl, oz, b⟩
            rw [S1.out]
            have NH := hide (show Nx w1 wh from Nx.trans NG.out b)
            clear b NG LI S1
            generalize seatL rows (P : Int) (Q : Int) [120, 130] = Z at *
            have HZ := hide oz
            obtain ⟨Az, cz, rfl, _⟩ := oz.reads
            rw [S3.out] at *
            clear oz
            have HZO := hide (okM_of_ok S2.out)
            go_wp2_with (go_at_call 26; fail)
            have NL := Nx.made wh (.cells #[.int .i64 120] 3)
            have LI := hide (show RdI (wh.alloc (.cells #[.int .i64 120] 3)) (.slice (some ⟨wh.heap.size, 0, none⟩) 1 1) [120] from OwI.reads (B := wh.heap.size) (World.ownsRow_lit wh #[.int .i64 120] 1 (Nat.le_refl _) (by unfold maxLen; omega) rfl))
            have NI := hide (show Nx w1 (wh.alloc (.cells #[.int .i64 120] 3)) from Nx.trans NH.out NL)
            have HZ2 := hide (HZ.out.below NL)
            clear NL NH HZ
            generalize World.alloc _ _ = wi at LI NI HZ2 ⊢
            refine (impl_SeatPeople _ Z (P : Int) (Q : Int) _ [120] _ wi HZ2.out HZO.out LI.out (by simp) hPI hQI).mono ?_
            rintro e wj ⟨uy, rfl, _, b⟩
            rw [S4.out]
            have NJ := hide (show Nx w1 wj from Nx.trans NI.out b)
            have HZ3 := hide (HZ2.out.below b).reads
            clear b NI LI S4 HZ2
            go_wp2_with (go_at_call 20; fail)
            refine (calls_nx (implQ_CountSeeing _ Z 50 wj HZ3.out HZO.out)).mono ?_
            rintro e wk ⟨rfl, b⟩
            have hcz : decide (countS Z 50 < 0) = false := decide_eq_false (by rw [countS_grid S2.out (by omega)]; have := seeing_bd S2.out 50; omega)
            have NK := hide (show Nx w1 wk from Nx.trans NJ.out b)
            clear b NJ HZ3
            generalize countS Z 50 = CZ at hcz ⊢
            have q1 := Hrb.out wk NK.out P hP
            have q2 := Hcb.out wk NK.out P Q hP (by omega)
            have q3 := Hcb.out wk NK.out P (Q + 1) hP (by omega)
            rw [V1.out] at q2
            rw [V2.out] at q3
            have hQi2 : (Q : Int) < (ww : Int) := by omega
            go_wp2_with (go_at_call 13; fail)
            refine (impl_HallOk _ rows wk (HQ.out _ NK.out).2.reads HOk.out).mono ?_
            rintro e wA ⟨rfl, b⟩
            rw [HgB.out]
            have NA := hide (show Nx w1 wA from Nx.trans NK.out b)
            clear b
            go_wp2_with (go_at_call 20; fail)
            have LT := hide (rdM_one wA 100)
            have NB := hide (((HQ.out _ NA.out).1.trans (Nx.made wA (.cells #[.int .i64 100] 3))).trans (Nx.made (wA.alloc (.cells #[.int .i64 100] 3)) (.cells #[.slice (some ⟨wA.heap.size, 0, none⟩) 1 1] 36)))
            refine (calls_nx (implQ_CountSeeing _ [[100]] 0 _ LT.out (okM_of_ok Hone.out.2))).mono ?_
            rintro e wB ⟨rfl, b⟩
            rw [Hone.out.1]
            have NC := hide (show Nx w0 wB from Nx.trans NB.out b)
            clear b LT NB
            go_wp2_with fail
            go_ret
            exact ⟨rfl, NC.out⟩

open Go.ChangeShapes Go.WideShapes Go.ChangeAt Go.RowKit
open Go.ChangeMaps (open_string shut_string)

set_option linter.unusedVariables false
set_option maxRecDepth 100000 in
theorem lifted_FnSeats (os : Os) (started : os.Started) (H : Type) (enc : TypeId × Value → H) :
    ReturnsInHanded {} Try.checked os 7 .any (Rows.fnSeatsSpec.pre6 enc Try.prog Try.f7 Rows.fnSeatsRow.domain false) (Rows.fnSeatsSpec.post enc Try.prog Try.f7 false true false false) := by
  refine returnsInHanded_of_change (C := Try.checked) own started (by kernel_rfl) Try.func7
    (ChangeSpec.witness6 (enc := enc) (C := Try.checked) false ⟨#[], #[.slice none 0 0], []⟩ 8 (by kernel_rfl) (by kernel_rfl) (by kernel_rfl) (by kernel_rfl)) ?_
  intro W base args ds gs before hval0 hW hcnd _
  have hval : ∀ (j : Nat) t v, Try.f7.params[j]? = some t → args[j]? = some v → Value.okWide Try.prog W .any base t v := hval0
  have hW' := hW
  obtain ⟨p, q, hA0, hV, rfl, hfz, hnd⟩ := hW
  have hA : DataW.TrodAll enc Try.prog W 0 (fun _ => true) true Try.f7.params.toList args.toList ds p := hA0
  rw [Try.params7] at hA hval
  obtain ⟨v0, vs0, d0, ds0, p0, q0, hargs, rfl, rfl, h0, r0⟩ := trodAll_cons hA
  obtain ⟨rfl, rfl, rfl⟩ := trodAll_nil r0
  obtain rfl : args = #[v0] := by cases args; simp_all
  obtain ⟨rfl, rfl⟩ := trodVars_none hV
  obtain ⟨a0, len0, cap0, rfl⟩ := okWide_slice Try.underlying31 (hval 0 31 v0 rfl rfl)
  have k0 := h0
  have lt0 : ∀ x ∈ p0, x.block < W.heap.size := by obtain ⟨m, hm⟩ := k0; exact DataW.trod_lt m _ _ _ hm
  obtain ⟨z0, w0⟩ : ∃ zs, IsRow .u8 W a0 len0 cap0 zs := by
    obtain ⟨fuel, hf⟩ := h0
    rcases open_ints Try.underlying31 Try.underlying5 (by kernel_rfl) hf with ⟨hcs, _⟩ | ⟨x, l, c, zs, hcs, _, hl, hm, hz, _, hcell, hwz⟩
    · simp [Value.cells] at hcs
      obtain ⟨rfl, rfl, rfl⟩ := hcs
      exact ⟨[], .inl ⟨rfl, rfl, rfl, rfl⟩⟩
    · simp [Value.cells] at hcs
      obtain ⟨rfl, rfl, rfl⟩ := hcs
      exact ⟨zs, .inr ⟨_, rfl, hl, hm, by simpa using hz, hcell, hwz⟩⟩
  obtain ⟨y0, rd0, ln0⟩ := isRow_readsB w0
  clear hA0 hval0
  refine (walk'_FnSeats W _ y0 rd0 ln0).mono fun e W' ⟨he, bel⟩ => ?_
  subst he
  exact ⟨_, rfl, _, _, _, [], _, [], hW', trodAll_mk1 (shut_bool Try.underlying4 _), (trodAll_cons_mk (Below.trod laidOut (by kernel_rfl) (of_decide_eq_true (by kernel_rfl)) k0 bel lt0) trodAll_mk0), rfl, bel.frame _, fun h => by cases h⟩

theorem holds_FnSeats : Rows.FnSeatsSaid :=
  OpenClaim.holds_of_wide 7 Try.f7 rfl rfl rfl rfl rfl rfl rfl ⟨rfl, rfl, rfl, rfl, rfl⟩ rfl rfl rfl rfl rfl (by kernel_rfl) Try.func7 (by kernel_rfl)
    (of_decide_eq_true (by kernel_rfl)) (by unfold Func.isWrapper; first | (rw [if_pos (by decide +kernel)]; kernel_rfl) | (rw [if_neg (by decide +kernel)]; exact ⟨rfl, rfl⟩))
    (fun os started H enc _ => lifted_FnSeats os started H enc)
#print axioms holds_FnSeats

end Go.Proofs.Ytkjclpbemdilbaa
