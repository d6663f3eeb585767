/- CanPay: spec. -/
import Derived.Test.YtjifdheaeopdfaaPayP
import Derived.WalkKit
import Derived.ProofKit
import Derived.Handy
import Derived.OpenShut
import Derived.ShutString
import Derived.ChangeOld
import Derived.Below
import Derived.BigQuiet
import Derived.Deep.QuietTactic
import Derived.Deep.Draws
import Derived.Deep.DeepCutAuto
import Derived.Deep.DeepFit
import Derived.Deep.LoopGhost
import Derived.Outline
import Derived.WalkSpells
import Derived.WalkLawsBesides
import Derived.WalkSmall
import Derived.Laws.OwnMore
import Derived.OneCell
import Derived.Laws.Rows
import Derived.Maps.AppendAt
import Derived.StillTailTactics
import Derived.Lib.SmallJoins
import Derived.Deep.RegionWith
import Derived.Deep.RegionHeld3
import Derived.RegionTactic
import Derived.Deep.Matrix
import Derived.Deep.Fields
import Derived.ChangeSame
namespace Go.Proofs.Ytjifdheaeopdfaa
open Go.RowKit

theorem pieceN_gt {k : Nat} (hk : k < 6) : gt pcs k = (pieceN k : Int) := by
  match k, hk with
  | 0, _ | 1, _ | 2, _ | 3, _ | 4, _ | 5, _ => rfl
theorem boolInfo : (Try.prog.info? 4).map (fun i => (i.zero, i.size, i.bytes)) = some (some (.bool false), 1, 1) := by kernel_rfl
set_option maxHeartbeats 4000000 in
theorem spec_CanPay (v : Value) (ts : List Int) (sum : Int) (w : World) (h : RdI w v ts) (hl : ts.length ≤ 1048576) (_ : I64 sum) :
    Calls Try.prog 37 #[v, .int .i64 sum] w fun e w' => e = .returned (.bool (canPay ts sum)) ∧ Nx w w' := by
  obtain ⟨A, c, rfl, hx⟩ := h
  have Hx := hide hx
  clear hx
  by_cases h6 : ts.length = 6
  · have h6' : ((ts.length : Int) != 6) = false := by simp; omega
    have H6 := hide h6
    have h66 : ts.length ≤ 6 ∧ 6 ≤ ts.length := by omega
    clear h6
    cases h1 : inR sum 0 500 with
    | false =>
      have hf := hide (show canPay ts sum = false from by simp [canPay, h1])
      go_enter Try.func37, Try.ntmps37
      go_wp2_with (go_at_call 41; refine (l01In_any _ _ _ _).mono ?_; rintro e w' ⟨rfl, rfl⟩)
      go_ret
      exact ⟨ret_bool hf.out.symm, Below.refl _ _⟩
    | true =>
      have H1 := hide h1
      have b1 := inR_iff.1 h1
      obtain ⟨S, rfl⟩ := Int.eq_ofNat_of_zero_le b1.1
      have hS : S ≤ 500 := by omega
      clear b1
      obtain ⟨i0, hi, hz0, hz1, hz2⟩ := info_parts boolInfo
      have hmk := fun W => run_make_rowN (P := Try.prog) 44 4 i0 (.bool false) Try.underlying44 hi hz0 .i64 .i64 (S + 1) (S + 1) (Nat.le_refl _) (by rw [hz2]; omega) (by omega) W
      rw [hz1, show ((S + 1 : Nat) : Int) = (S : Int) + 1 from by omega] at hmk
      have hmk' := fun W => (hmk W).trans (show _ = _ from rfl)
      have M := OwFn.made w 4 (.bool false) (S + 1) (by omega)
      have hn0 : Nx w (w.alloc (.cells (madeCells #[.bool false] (S + 1)) 4)) := Nx.made w _
      have hc0 := M.cellAt (j := 0) (by omega)
      have hf0 := M.frozenAt 0
      have st := (M.stored 0 (.bool true)).1
      have R0 := st.congr (g := fun s => .bool (payTo ts 0 s)) (fun i _ => by by_cases e : i = 0 <;> simp [payTo, e])
      have Rn : Nx w ((w.alloc (.cells (madeCells #[.bool false] (S + 1)) 4)).setCell ⟨w.heap.size, 0, none⟩ (.bool true)) := hn0.setCell (p := ⟨w.heap.size, 0, none⟩) (Nat.le_refl _) _
      have e1 : (w.alloc (.cells (madeCells #[.bool false] (S + 1)) 4)).setCell ⟨w.heap.size, 0, none⟩ (.bool true) = w.alloc (.cells ((madeCells #[.bool false] (S + 1)).setIfInBounds 0 (.bool true)) 4) := by go_simp
      rw [e1] at R0 Rn
      clear e1
      have G := hide (And.intro R0 Rn)
      clear hmk' M hn0 st R0 Rn hi hz0 hz1 hz2
      have hS0 : (0 : Int) < (S : Int) + 1 := by omega
      go_enter Try.func37, Try.ntmps37
      go_wp2_with (go_at_call 41; refine (l01In_any _ _ _ _).mono ?_; rintro e w' ⟨rfl, rfl⟩)
      clear h1 hmk hc0 hf0
      go_loopw [6] (fun i wr => ∃ k : Nat, k ≤ 6 ∧ i = .int .i64 k ∧ OwFn wr w.heap.size 4 (.slice (some ⟨w.heap.size, 0, none⟩) (S + 1) (S + 1)) (S + 1) (fun s => .bool (payTo ts k s)) ∧ Nx w wr ∧ Hid (∀ j, j < k → inR (gt ts j) 0 100 = true)) (fun i _ => 6 - (intOf i).toNat)
      case atStart => exact ⟨0, by omega, rfl, G.out.1, G.out.2, fun j hj => absurd hj (by omega)⟩
      case round =>
        clear G
        obtain ⟨k, hk, rfl, hown, hb, hall⟩ := hrel
        by_cases hlt : k < 6
        · obtain ⟨b0, off, rfl, hb0, hc⟩ := Hx.out (by omega)
          have Hcw := hide (hc k (by omega))
          have hck : wr.cell? ⟨b0, off + k, none⟩ = some (.int .i64 (gt ts k)) := (hb.cell (p := ⟨b0, off + k, none⟩) hb0).trans Hcw.out
          have hk1 : (k : Int) < (ts.length : Int) := by omega
          clear hc Hx
          cases hin : inR (gt ts k) 0 100 with
          | false =>
            have hf := hide (show canPay ts (S : Int) = false from by simp [canPay, allW_false (by omega : k < ts.length) hin])
            have Hb := hide hb
            clear hown hb
            go_wp2_with (go_at_call 41; refine (l01In_any _ _ _ _).mono ?_; rintro e w' ⟨rfl, rfl⟩)
            go_ret
            exact ⟨ret_bool hf.out.symm, Hb.out⟩
          | true =>
            have Hin := hide hin
            have bT := inR_iff.1 hin
            have hT : ∃ T : Nat, T = (gt ts k).toNat := ⟨_, rfl⟩
            obtain ⟨T, hTe⟩ := hT
            have HT := hide hTe
            have hT1 : (T : Int) ≤ gt ts k ∧ gt ts k ≤ (T : Int) := by omega
            clear hTe
            have hV := pcs_bd hlt
            have hVn := hide (pieceN_gt hlt)
            have hpc := fun W => l25Piece_any k hlt W
            have Hpc := hide hpc
            clear hpc
            have R := hide (hown.congr (g := fun s => .bool (orTo (payTo ts k) (pieceN k) s (0 + 1))) (fun i _ => by simp [orTo_one]))
            have Hb := hide hb
            clear hown hb
            obtain ⟨wo, rfl⟩ : ∃ wo : World, wo = wr := ⟨_, rfl⟩
            go_wp2_with (go_at_call 41; refine (l01In_any _ _ _ _).mono ?_; rintro e w' ⟨rfl, rfl⟩)
            clear hin
            go_loopw [7] (fun i wr => ∃ m : Nat, m ≤ T ∧ i = .int .i64 m ∧ OwFn wr w.heap.size 4 (.slice (some ⟨w.heap.size, 0, none⟩) (S + 1) (S + 1)) (S + 1) (fun s => .bool (orTo (payTo ts k) (pieceN k) s (m + 1))) ∧ Nx w wr) (fun i _ => T - (intOf i).toNat)
            case atStart => exact ⟨0, by omega, rfl, R.out, Hb.out⟩
            case round =>
              clear R Hb hck
              obtain ⟨m, hm, rfl, hown, hb⟩ := hrel
              have hck : wr.cell? ⟨b0, off + k, none⟩ = some (.int .i64 (gt ts k)) := (hb.cell (p := ⟨b0, off + k, none⟩) hb0).trans Hcw.out
              obtain ⟨wo2, rfl⟩ : ∃ wo2 : World, wo2 = wr := ⟨_, rfl⟩
              by_cases hmT : m < T
              · have hmi : (m : Int) < gt ts k := by omega
                have R := hide (hown.congr (g := fun i => .bool (if S < i then orTo (payTo ts k) (pieceN k) i (m + 1 + 1) else orTo (payTo ts k) (pieceN k) i (m + 1))) (fun i hi => by rw [if_neg (by omega)]))
                have Hb := hide hb
                clear hown hb
                go_wp2_with fail
                go_loopw [8] (fun i wr => ∃ s : Nat, s ≤ S ∧ i = .int .i64 s ∧ OwFn wr w.heap.size 4 (.slice (some ⟨w.heap.size, 0, none⟩) (S + 1) (S + 1)) (S + 1) (fun i => .bool (if s < i then orTo (payTo ts k) (pieceN k) i (m + 1 + 1) else orTo (payTo ts k) (pieceN k) i (m + 1))) ∧ Nx w wr) (fun i _ => (intOf i).toNat)
                case atStart => exact ⟨S, Nat.le_refl _, rfl, R.out, Hb.out⟩
                case round =>
                  clear R Hb hck
                  obtain ⟨s, hs, rfl, hown, hb⟩ := hrel
                  by_cases hsv : gt pcs k ≤ (s : Int)
                  · have hj : ((s : Int) - gt pcs k).toNat = s - pieceN k := by have := hVn.out; omega
                    have hvs : pieceN k ≤ s := by have := hVn.out; omega
                    have hcs := hown.cellAt (j := s) (by omega)
                    rw [if_neg (by omega)] at hcs
                    have hcv := hown.cellAt (j := ((s : Int) - gt pcs k).toNat) (by omega)
                    rw [if_neg (by omega), hj] at hcv
                    rw [show (⟨w.heap.size, s - pieceN k, none⟩ : Addr) = ⟨w.heap.size, ((s : Int) - gt pcs k).toNat, none⟩ from by rw [hj]] at hcv
                    have hfs := hown.frozenAt s
                    have hmore := hide (orTo_more (can := payTo ts k) hvs m)
                    have i1 : (s : Int) < (S : Int) + 1 := by omega
                    have i2 : (0 : Int) ≤ (s : Int) - gt pcs k := by omega
                    have i3 : (s : Int) - gt pcs k < (S : Int) + 1 := by omega
                    have hst := fun x => (hown.stored s (.bool x)).1
                    have Hst := hide hst
                    have Hb := hide hb
                    have Hj := hide hj
                    clear hst hown hb hj
                    generalize ho : orTo (payTo ts k) (pieceN k) (s - pieceN k) (m + 1) = o at *
                    cases ha : orTo (payTo ts k) (pieceN k) s (m + 1) with
                    | true =>
                      have R := hide ((Hst.out true).congr (g := fun i => .bool (if s - 1 < i then orTo (payTo ts k) (pieceN k) i (m + 1 + 1) else orTo (payTo ts k) (pieceN k) i (m + 1))) (fun i _ => by
                        by_cases e : i = s
                        · subst e
                          rw [if_pos rfl, if_pos (by omega)]
                          show _ = Value.bool (orTo (payTo ts k) (pieceN k) i (m + 2))
                          rw [hmore.out, ha, Bool.true_or]
                        · rw [if_neg e]
                          by_cases h : s < i
                          · rw [if_pos h, if_pos (by omega)]
                          · rw [if_neg h, if_neg (by omega)]))
                      rw [ha] at hcs
                      clear ho ha
                      go_wp2_with (go_at_call 50; refine (Hpc.out _).mono ?_; rintro e w' ⟨rfl, rfl⟩)
                      go_roundw
                      case rel => exact ⟨s - 1, by omega, by rw [show ((s - 1 : Nat) : Int) = (s : Int) - 1 from by omega], R.out, Hb.out.setCell (p := ⟨w.heap.size, s, none⟩) (Nat.le_refl _) _⟩
                      case measure => simp [intOf]; omega
                    | false =>
                      have R := hide ((Hst.out o).congr (g := fun i => .bool (if s - 1 < i then orTo (payTo ts k) (pieceN k) i (m + 1 + 1) else orTo (payTo ts k) (pieceN k) i (m + 1))) (fun i _ => by
                        by_cases e : i = s
                        · subst e
                          rw [if_pos rfl, if_pos (by omega)]
                          show _ = Value.bool (orTo (payTo ts k) (pieceN k) i (m + 2))
                          rw [hmore.out, ha, Bool.false_or]
                        · rw [if_neg e]
                          by_cases h : s < i
                          · rw [if_pos h, if_pos (by omega)]
                          · rw [if_neg h, if_neg (by omega)]))
                      rw [ha] at hcs
                      clear ho ha
                      go_wp2_with (go_at_call 50; refine (Hpc.out _).mono ?_; rintro e w' ⟨rfl, rfl⟩)
                      go_roundw
                      case rel => exact ⟨s - 1, by omega, by rw [show ((s - 1 : Nat) : Int) = (s : Int) - 1 from by omega], R.out, Hb.out.setCell (p := ⟨w.heap.size, s, none⟩) (Nat.le_refl _) _⟩
                      case measure => simp [intOf]; omega
                  · have R := hide (hown.congr (g := fun i => .bool (orTo (payTo ts k) (pieceN k) i (m + 1 + 1))) (fun i _ => by
                      by_cases h : s < i
                      · rw [if_pos h]
                      · rw [if_neg h, orTo_low (by have := hVn.out; omega), orTo_low (by have := hVn.out; omega)]))
                    have Hb := hide hb
                    clear hown hb
                    go_wp2_with (go_at_call 50; refine (Hpc.out _).mono ?_; rintro e w' ⟨rfl, rfl⟩)
                    go_roundw
                    case rel => exact ⟨m + 1, by omega, by go_num, R.out, Hb.out⟩
                    case measure => simp [intOf]; omega
              · obtain rfl : m = T := by omega
                have R := hide (hown.congr (g := fun s => .bool (payTo ts (k + 1) s)) (fun i hi => by simp only [payTo]; rw [HT.out]))
                have Hb := hide hb
                clear hown hb
                go_wp2_with fail
                go_roundw
                case rel => exact ⟨k + 1, by omega, by go_num, R.out, Hb.out, fun j hj => by
                  rcases Nat.lt_or_ge j k with h | h
                  · exact hall.out j h
                  · obtain rfl : j = k := by omega
                    exact Hin.out⟩
                case measure => simp [intOf]; omega
        · obtain rfl : k = 6 := by omega
          have hcS := hown.cellAt (j := S) (by omega)
          have hw := allW_of (fun j (hj : j < ts.length) => hall.out j (by omega))
          have hf := hide (show canPay ts (S : Int) = payTo ts 6 S from by simp [canPay, H6.out, hw, H1.out])
          have hS1 : (S : Int) < (S : Int) + 1 := by omega
          have Hb := hide hb
          clear hown hb hw
          go_wp2_with fail
          go_ret
          exact ⟨ret_bool hf.out.symm, Hb.out⟩
  · have h6' : ((ts.length : Int) != 6) = true := by simp; omega
    have hf := hide (show canPay ts sum = false from by simp [canPay, h6])
    go_enter Try.func37, Try.ntmps37
    go_wp2_with fail
    go_ret
    exact ⟨ret_bool hf.out.symm, Below.refl _ _⟩

end Go.Proofs.Ytjifdheaeopdfaa
