/- FewestBoxes: spec. -/
import Derived.Test.YthjiggihljiikaaTwoP
import Derived.WalkKit
import Derived.ProofKit
import Derived.Handy
import Derived.OpenShut
import Derived.ShutString
import Derived.ChangeOld
import Derived.Below
import Derived.BigQuiet
import Derived.Deep.QuietTactic
import Derived.Deep.Draws
import Derived.Deep.DeepCutAuto
import Derived.Deep.DeepFit
import Derived.Deep.LoopGhost
import Derived.Outline
import Derived.WalkSpells
import Derived.WalkLawsBesides
import Derived.WalkSmall
import Derived.Laws.OwnMore
import Derived.OneCell
import Derived.Laws.Rows
import Derived.Maps.AppendAt
import Derived.StillTailTactics
import Derived.Lib.SmallJoins
import Derived.Deep.RegionWith
import Derived.Deep.RegionHeld3
import Derived.RegionTactic
import Derived.Deep.Matrix
import Derived.Deep.Fields
import Derived.ChangeSame
namespace Go.Proofs.Ythjiggihljiikaa
open Go.RowKit

set_option maxRecDepth 100000 in
set_option maxHeartbeats 4000000 in
theorem spec_FewestBoxes (v : Value) (zs : List Int) (room : Int) (w : World) (h : RdI w v zs) (hl : zs.length ≤ 1048576) (hi64 : I64 room) :
    Calls Try.prog 22 #[v, .int .i64 room] w fun e w' => e = .returned (.int .i64 (fewestBoxes zs room)) ∧ Nx w w' := by
  have hv := h
  obtain ⟨A, c, rfl, hx⟩ := h
  have Hx := hide hx
  clear hx
  cases h1 : boxesOk zs room with
  | false =>
    have hf := hide (show fewestBoxes zs room = -1 from by simp [fewestBoxes, h1])
    go_enter Try.func22, Try.ntmps22
    go_wp2_with fail
    refine (spec_BoxesOk _ _ _ _ hv hl hi64).mono ?_
    rintro e w1 ⟨rfl, b⟩
    go_wp2_with fail
    go_ret
    exact ⟨ret_int hf.out.symm, b⟩
  | true =>
    have hf := hide (show fewestBoxes zs room = if zs.length = 0 then 0 else (tbl (tabB room zs (2 ^ zs.length - 1)) (2 ^ zs.length - 1)).1 + 1 from by simp [fewestBoxes, h1])
    obtain ⟨hn12, hroom, hz⟩ := boxesOk_iff.1 h1
    have Hz := hide hz
    obtain ⟨N, hN⟩ : ∃ N : Nat, N = 2 ^ zs.length := ⟨_, rfl⟩
    have hN1 : 1 ≤ N := by rw [hN]; exact Nat.one_le_two_pow
    have hN2 : N ≤ 4096 := by rw [hN]; exact (Nat.pow_le_pow_right (by omega) hn12 : 2 ^ zs.length ≤ 2 ^ 12)
    have hpow : (2 : Int) ^ zs.length = (N : Int) := by rw [hN]; simp
    have HN := hide hN
    have Htab := hide (fun k (hk : k < 2 ^ zs.length) => tab_in (room := room) (zs := zs) (by omega) hz hk)
    obtain ⟨i0, hi, hz0, hz1, hz2⟩ := info_parts intInfo
    have hmk : ∀ W : World, (Instr.makeSlice 22 (.int .i64 (N : Int)) (.int .i64 (N : Int))).run Try.prog W = .ok (.slice (some ⟨W.heap.size, 0, none⟩) N N) (W.alloc (.cells (madeCells #[.int .i64 0] N) 3)) := fun W => by
      have := run_make_rowN (P := Try.prog) 22 3 i0 (.int .i64 0) Try.underlying22 hi hz0 .i64 .i64 N N (Nat.le_refl _) (by rw [hz2]; omega) (by omega) W
      rw [hz1, Nat.mul_one] at this
      exact this
    clear hz hN hi hz0 hz1 hz2
    go_enter Try.func22, Try.ntmps22
    go_wp2_with fail
    refine (spec_BoxesOk _ _ _ _ hv hl hi64).mono ?_
    rintro e w1 ⟨rfl, b⟩
    have M := hide ((Two.made b N hN2).congr (fun j _ => fSet_one room zs j) (fun j _ => lSet_one room zs j))
    have hw1 := b.size
    clear b hv
    go_wp2_with fail
    clear h1 hmk
    go_loopw [8] (fun i wr => ∃ s : Nat, 1 ≤ s ∧ s ≤ N ∧ i = .int .i64 s ∧ Two w wr w1.heap.size (w1.heap.size + 1) N (fSet room zs s) (lSet room zs s)) (fun i _ => N - (intOf i).toNat)
    case atStart => exact ⟨1, Nat.le_refl _, hN1, rfl, M.out⟩
    case round =>
      clear M
      obtain ⟨s, hs1, hsN, rfl, hT⟩ := hrel
      by_cases hlt : s < N
      · have hcs := hT.cellF hlt
        have hfs := hT.frF s
        have R := hide ((hT.setF s ((zs.length : Int) + 1)).congr (fun j _ => fAt_zero room zs s j) (fun j _ => lAt_zero room zs s j))
        have hsi : (s : Int) < (N : Int) := by omega
        have hs12 : s < 4096 := by omega
        clear hT
        go_wp2_with fail
        clear hcs hfs
        go_loopw [9] (fun q wq => ∃ k : Nat, k ≤ zs.length ∧ q = .int .i64 k ∧ Two w wq w1.heap.size (w1.heap.size + 1) N (fAt room zs s k) (lAt room zs s k)) (fun q _ => zs.length - (intOf q).toNat)
        case atStart => exact ⟨0, Nat.zero_le _, rfl, R.out⟩
        case round =>
          clear R
          obtain ⟨k, hk, rfl, hT⟩ := hrel
          by_cases hkn : k < zs.length
          · obtain ⟨P, hP⟩ : ∃ P : Nat, P = 2 ^ k := ⟨_, rfl⟩
            have hpk : (2 : Int) ^ k = (P : Int) := by rw [hP]; simp
            have hP0 : 1 ≤ P ∧ P ≤ 4096 := by rw [hP]; exact ⟨Nat.one_le_two_pow, (Nat.pow_le_pow_right (by omega) (by omega) : 2 ^ k ≤ 2 ^ 12)⟩
            have hbit := bit_and hs12 (k := k) (by omega)
            rw [← hP] at hbit
            cases hb : s.testBit k with
            | false =>
              rw [hb, if_neg (by simp)] at hbit
              have R := hide (hT.congr (fun j _ => (at_same (bstTo_skip hb) j).1) (fun j _ => (at_same (bstTo_skip hb) j).2))
              clear hT hP hb
              go_wp2_with fail
              go_roundw
              case rel => exact ⟨k + 1, by omega, by go_num, R.out⟩
              case measure => simp [intOf]; omega
            | true =>
              rw [hb, if_pos rfl] at hbit
              have hPs : P ≤ s := by rw [hP]; exact Nat.ge_two_pow_of_testBit hb
              have hPsi : (0 : Int) ≤ (s : Int) - (P : Int) := by omega
              have hPsj : (s : Int) - (P : Int) < (N : Int) := by omega
              have hj : ((s : Int) - (P : Int)).toNat = s - P := by omega
              have cF := hT.cellF (j := s - P) (by omega)
              rw [fAt_low (by omega)] at cF
              have cL := hT.cellL (j := s - P) (by omega)
              rw [lAt_low (by omega)] at cL
              have cFs := hT.cellF (j := s) hlt
              rw [fAt_at] at cFs
              have cLs := hT.cellL (j := s) hlt
              rw [lAt_at] at cLs
              have frF := hT.frF s
              have frL := hT.frL s
              have hN0 := HN.out
              have hin := Htab.out (s - 1) (by omega) (s - P) (by omega)
              have hcnt : cnt zs.length (s - P) + 1 = cnt zs.length s := by rw [hP]; exact cnt_sub hb hkn
              have hcle := cnt_le zs.length s
              have hzk := Hz.out k hkn
              have hci := candB_in hin (s := gt zs k) (by omega)
              rw [hcnt] at hci
              unfold inB at hin hci
              have hobd : 0 ≤ fO zs.length (bstTo room zs (tabB room zs (s - 1)) s k) ∧ fO zs.length (bstTo room zs (tabB room zs (s - 1)) s k) ≤ 13 ∧ 0 ≤ lO (bstTo room zs (tabB room zs (s - 1)) s k) ∧ lO (bstTo room zs (tabB room zs (s - 1)) s k) ≤ room := by
                cases hq : bstTo room zs (tabB room zs (s - 1)) s k with
                | none => simp only [fO, lO]; omega
                | some q =>
                  have := bstTo_in (room := room) (T := tabB room zs (s - 1)) Hz.out (fun j hj => Htab.out (s - 1) (by omega) j (by omega)) (by omega) hq
                  unfold inB at this
                  simp only [fO, lO]
                  omega
              have hstep := fO_step (room := room) (zs := zs) (T := tabB room zs (s - 1)) hb (by rw [← hP]; omega)
              rw [← hP] at hstep
              obtain ⟨b0, off, rfl, hb0, hc⟩ := Hx.out (by omega)
              have hck : wr.cell? ⟨b0, off + k, none⟩ = some (.int .i64 (gt zs k)) := (hT.2.2.2.cell (p := ⟨b0, off + k, none⟩) hb0).trans (hc k hkn)
              have hki : (k : Int) < (zs.length : Int) := by omega
              have Hsame := hide (fun h (n : Nat) => (hT.drewN n).congr (fun j _ => (at_same (room := room) (zs := zs) (s := s) (k := k) h j).1) (fun j _ => (at_same (room := room) (zs := zs) (s := s) (k := k) h j).2))
              have Hset := hide (fun (c : Int × Int) h (n : Nat) => (((hT.drewN n).setF s c.1).setL s c.2).congr (fun j _ => (at_set (room := room) (zs := zs) (s := s) (k := k) (c := c) h j).1) (fun j _ => (at_set (room := room) (zs := zs) (s := s) (k := k) (c := c) h j).2))
              have Hstep := hide hstep
              have Hci := hide hci
              clear hstep hT hN0 hcnt hb hc Hx hci hP
              have Hfull := hide (fun h => candB_full (room := room) (s := gt zs k) (p := tbl (tabB room zs (s - 1)) (s - P)) h)
              have Hpart := hide (fun h => candB_part (room := room) (s := gt zs k) (p := tbl (tabB room zs (s - 1)) (s - P)) h)
              generalize hcc : candB room (gt zs k) (tbl (tabB room zs (s - 1)) (s - P)) = cc at *
              have HCC := hide hcc
              clear hcc
              generalize (tbl (tabB room zs (s - 1)) (s - P)).1 = pf at *
              generalize (tbl (tabB room zs (s - 1)) (s - P)).2 = pl at *
              generalize fO zs.length (bstTo room zs (tabB room zs (s - 1)) s k) = f0 at *
              generalize lO (bstTo room zs (tabB room zs (s - 1)) s k) = l0 at *
              by_cases hfull : room < pl + gt zs k
              · have hcE := hide (Hfull.out hfull)
                have e1 : cc.1 = pf + 1 := by rw [hcE.out]
                have e2 : cc.2 = gt zs k := by rw [hcE.out]
                have hc1 := Hci.out
                rw [e1, e2] at hc1
                have Hs1 := Hstep.out
                rw [e1, e2] at Hs1
                have Hst := hide (fun h n => Hset.out cc h n)
                have HS1 := hide Hs1
                have E1 := hide e1
                have E2 := hide e2
                clear Hs1 e1 e2
                by_cases q1 : pf + 1 < f0
                · have hq := hide (HS1.out.1 (.inl q1))
                  have R := hide (fun n => show Two w (((wr.drewN n).setCell ⟨w1.heap.size, s, none⟩ (.int .i64 (pf + 1))).setCell ⟨w1.heap.size + 1, s, none⟩ (.int .i64 (gt zs k))) w1.heap.size (w1.heap.size + 1) N (fAt room zs s (k + 1)) (lAt room zs s (k + 1)) from by
                    have := Hst.out hq.out n
                    rw [E1.out, E2.out] at this
                    exact this)
                  have q2 : (pf + 1 == f0) = false := by simp; omega
                  go_wp2_with fail
                  have hw1 : IntKind.i64.wrap (P : Int) = (P : Int) := IntWalk.i64_in _ (by omega)
                  have hw2 : IntKind.i64.wrap ((s : Int) - (P : Int)) = (s : Int) - (P : Int) := IntWalk.i64_in _ (by omega)
                  have hw3 : IntKind.i64.wrap (pl + gt zs k) = pl + gt zs k := IntWalk.i64_in _ (by omega)
                  go_quiet (fail)
                  clear hw1 hw2 hw3 hpk hpow hbit hj cF cL hPsi hPsj
                  go_wp2_with fail
                  go_roundw
                  case rel => exact ⟨k + 1, by omega, by go_num, R.out _⟩
                  case measure => simp [intOf]; omega
                · by_cases q2 : pf + 1 = f0
                  · subst q2
                    by_cases q4 : gt zs k < l0
                    · have hq := hide (HS1.out.1 (.inr ⟨rfl, q4⟩))
                      have R := hide (fun n => show Two w (((wr.drewN n).setCell ⟨w1.heap.size, s, none⟩ (.int .i64 (pf + 1))).setCell ⟨w1.heap.size + 1, s, none⟩ (.int .i64 (gt zs k))) w1.heap.size (w1.heap.size + 1) N (fAt room zs s (k + 1)) (lAt room zs s (k + 1)) from by
                        have := Hst.out hq.out n
                        rw [E1.out, E2.out] at this
                        exact this)
                      go_wp2_with fail
                      have hw1 : IntKind.i64.wrap (P : Int) = (P : Int) := IntWalk.i64_in _ (by omega)
                      have hw2 : IntKind.i64.wrap ((s : Int) - (P : Int)) = (s : Int) - (P : Int) := IntWalk.i64_in _ (by omega)
                      have hw3 : IntKind.i64.wrap (pl + gt zs k) = pl + gt zs k := IntWalk.i64_in _ (by omega)
                      go_quiet (fail)
                      clear hw1 hw2 hw3 hpk hpow hbit hj cF cL hPsi hPsj
                      go_wp2_with fail
                      go_roundw
                      case rel => exact ⟨k + 1, by omega, by go_num, R.out _⟩
                      case measure => simp [intOf]; omega
                    · have hq := hide (HS1.out.2 (fun h => h.elim q1 (fun h => q4 h.2)))
                      go_wp2_with fail
                      have hw1 : IntKind.i64.wrap (P : Int) = (P : Int) := IntWalk.i64_in _ (by omega)
                      have hw2 : IntKind.i64.wrap ((s : Int) - (P : Int)) = (s : Int) - (P : Int) := IntWalk.i64_in _ (by omega)
                      have hw3 : IntKind.i64.wrap (pl + gt zs k) = pl + gt zs k := IntWalk.i64_in _ (by omega)
                      go_quiet (fail)
                      clear hw1 hw2 hw3 hpk hpow hbit hj cF cL hPsi hPsj
                      go_wp2_with fail
                      go_roundw
                      case rel => exact ⟨k + 1, by omega, by go_num, Hsame.out hq.out _⟩
                      case measure => simp [intOf]; omega
                  · have q3 : (pf + 1 == f0) = false := by simpa using q2
                    have hq := hide (HS1.out.2 (fun h => h.elim q1 (fun h => q2 h.1)))
                    go_wp2_with fail
                    have hw1 : IntKind.i64.wrap (P : Int) = (P : Int) := IntWalk.i64_in _ (by omega)
                    have hw2 : IntKind.i64.wrap ((s : Int) - (P : Int)) = (s : Int) - (P : Int) := IntWalk.i64_in _ (by omega)
                    have hw3 : IntKind.i64.wrap (pl + gt zs k) = pl + gt zs k := IntWalk.i64_in _ (by omega)
                    go_quiet (fail)
                    clear hw1 hw2 hw3 hpk hpow hbit hj cF cL hPsi hPsj
                    go_wp2_with fail
                    go_roundw
                    case rel => exact ⟨k + 1, by omega, by go_num, Hsame.out hq.out _⟩
                    case measure => simp [intOf]; omega
              · have hcE := hide (Hpart.out hfull)
                have e1 : cc.1 = pf := by rw [hcE.out]
                have e2 : cc.2 = pl + gt zs k := by rw [hcE.out]
                have hc1 := Hci.out
                rw [e1, e2] at hc1
                have Hs1 := Hstep.out
                rw [e1, e2] at Hs1
                have Hst := hide (fun h n => Hset.out cc h n)
                have HS1 := hide Hs1
                have E1 := hide e1
                have E2 := hide e2
                clear Hs1 e1 e2
                by_cases q1 : pf < f0
                · have hq := hide (HS1.out.1 (.inl q1))
                  have R := hide (fun n => show Two w (((wr.drewN n).setCell ⟨w1.heap.size, s, none⟩ (.int .i64 (pf))).setCell ⟨w1.heap.size + 1, s, none⟩ (.int .i64 (pl + gt zs k))) w1.heap.size (w1.heap.size + 1) N (fAt room zs s (k + 1)) (lAt room zs s (k + 1)) from by
                    have := Hst.out hq.out n
                    rw [E1.out, E2.out] at this
                    exact this)
                  have q2 : (pf == f0) = false := by simp; omega
                  go_wp2_with fail
                  have hw1 : IntKind.i64.wrap (P : Int) = (P : Int) := IntWalk.i64_in _ (by omega)
                  have hw2 : IntKind.i64.wrap ((s : Int) - (P : Int)) = (s : Int) - (P : Int) := IntWalk.i64_in _ (by omega)
                  have hw3 : IntKind.i64.wrap (pl + gt zs k) = pl + gt zs k := IntWalk.i64_in _ (by omega)
                  go_quiet (fail)
                  clear hw1 hw2 hw3 hpk hpow hbit hj cF cL hPsi hPsj
                  go_wp2_with fail
                  go_roundw
                  case rel => exact ⟨k + 1, by omega, by go_num, R.out _⟩
                  case measure => simp [intOf]; omega
                · by_cases q2 : pf = f0
                  · subst q2
                    by_cases q4 : pl + gt zs k < l0
                    · have hq := hide (HS1.out.1 (.inr ⟨rfl, q4⟩))
                      have R := hide (fun n => show Two w (((wr.drewN n).setCell ⟨w1.heap.size, s, none⟩ (.int .i64 (pf))).setCell ⟨w1.heap.size + 1, s, none⟩ (.int .i64 (pl + gt zs k))) w1.heap.size (w1.heap.size + 1) N (fAt room zs s (k + 1)) (lAt room zs s (k + 1)) from by
                        have := Hst.out hq.out n
                        rw [E1.out, E2.out] at this
                        exact this)
                      go_wp2_with fail
                      have hw1 : IntKind.i64.wrap (P : Int) = (P : Int) := IntWalk.i64_in _ (by omega)
                      have hw2 : IntKind.i64.wrap ((s : Int) - (P : Int)) = (s : Int) - (P : Int) := IntWalk.i64_in _ (by omega)
                      have hw3 : IntKind.i64.wrap (pl + gt zs k) = pl + gt zs k := IntWalk.i64_in _ (by omega)
                      go_quiet (fail)
                      clear hw1 hw2 hw3 hpk hpow hbit hj cF cL hPsi hPsj
                      go_wp2_with fail
                      go_roundw
                      case rel => exact ⟨k + 1, by omega, by go_num, R.out _⟩
                      case measure => simp [intOf]; omega
                    · have hq := hide (HS1.out.2 (fun h => h.elim q1 (fun h => q4 h.2)))
                      go_wp2_with fail
                      have hw1 : IntKind.i64.wrap (P : Int) = (P : Int) := IntWalk.i64_in _ (by omega)
                      have hw2 : IntKind.i64.wrap ((s : Int) - (P : Int)) = (s : Int) - (P : Int) := IntWalk.i64_in _ (by omega)
                      have hw3 : IntKind.i64.wrap (pl + gt zs k) = pl + gt zs k := IntWalk.i64_in _ (by omega)
                      go_quiet (fail)
                      clear hw1 hw2 hw3 hpk hpow hbit hj cF cL hPsi hPsj
                      go_wp2_with fail
                      go_roundw
                      case rel => exact ⟨k + 1, by omega, by go_num, Hsame.out hq.out _⟩
                      case measure => simp [intOf]; omega
                  · have q3 : (pf == f0) = false := by simpa using q2
                    have hq := hide (HS1.out.2 (fun h => h.elim q1 (fun h => q2 h.1)))
                    go_wp2_with fail
                    have hw1 : IntKind.i64.wrap (P : Int) = (P : Int) := IntWalk.i64_in _ (by omega)
                    have hw2 : IntKind.i64.wrap ((s : Int) - (P : Int)) = (s : Int) - (P : Int) := IntWalk.i64_in _ (by omega)
                    have hw3 : IntKind.i64.wrap (pl + gt zs k) = pl + gt zs k := IntWalk.i64_in _ (by omega)
                    go_quiet (fail)
                    clear hw1 hw2 hw3 hpk hpow hbit hj cF cL hPsi hPsj
                    go_wp2_with fail
                    go_roundw
                    case rel => exact ⟨k + 1, by omega, by go_num, Hsame.out hq.out _⟩
                    case measure => simp [intOf]; omega
          · obtain rfl : k = zs.length := by omega
            obtain ⟨i, hi, hbi⟩ := some_bit (n := zs.length) (j := s) (by omega) (by rw [← HN.out]; exact hlt)
            have R := hide (hT.congr (fun j _ => (at_next hs1 hbi hi j).1) (fun j _ => (at_next hs1 hbi hi j).2))
            clear hT
            go_wp2_with fail
            go_roundw
            case rel => exact ⟨s + 1, by omega, by omega, by go_num, R.out⟩
            case measure => simp [intOf]; omega
      · obtain rfl : s = N := by omega
        by_cases h0 : zs.length = 0
        · have h0' : ((zs.length : Int) == 0) = true := by simp [h0]
          have hf2 := hide (hf.out.trans (by rw [if_pos h0]))
          have Hb := hide hT.2.2.2
          clear h0 hT
          go_wp2_with fail
          go_ret
          exact ⟨ret_int hf2.out.symm, Hb.out⟩
        · have h0' : ((zs.length : Int) == 0) = false := beq_eq_false_iff_ne.2 (by omega)
          have hf2 := hide (hf.out.trans (by rw [if_neg h0, ← HN.out]))
          have cl := hT.cellF (j := s - 1) (by omega)
          unfold fSet at cl
          rw [if_pos (by omega)] at cl
          have hin := Htab.out (s - 1) (by rw [← HN.out]; omega) (s - 1) (Nat.le_refl _)
          have hcle := cnt_le zs.length (s - 1)
          unfold inB at hin
          have i1 : (0 : Int) ≤ (s : Int) - 1 := by omega
          have i2 : (s : Int) - 1 < (s : Int) := by omega
          have hj : ((s : Int) - 1).toNat = s - 1 := by omega
          have Hb := hide hT.2.2.2
          clear h0 hT
          generalize (tbl (tabB room zs (s - 1)) (s - 1)).1 = r at *
          go_wp2_with fail
          go_ret
          exact ⟨ret_int hf2.out.symm, Hb.out⟩

end Go.Proofs.Ythjiggihljiikaa
