/- CanPay: impl. -/
import Derived.Test.YtjifdheaeopdfaaPayS
import Derived.WalkKit
import Derived.ProofKit
import Derived.Handy
import Derived.OpenShut
import Derived.ShutString
import Derived.ChangeOld
import Derived.Below
import Derived.BigQuiet
import Derived.Deep.QuietTactic
import Derived.Deep.Draws
import Derived.Deep.DeepCutAuto
import Derived.Deep.DeepFit
import Derived.Deep.LoopGhost
import Derived.Outline
import Derived.WalkSpells
import Derived.WalkLawsBesides
import Derived.WalkSmall
import Derived.Laws.OwnMore
import Derived.OneCell
import Derived.Laws.Rows
import Derived.Maps.AppendAt
import Derived.StillTailTactics
import Derived.Lib.SmallJoins
import Derived.Deep.RegionWith
import Derived.Deep.RegionHeld3
import Derived.RegionTactic
import Derived.Deep.Matrix
import Derived.Deep.Fields
import Derived.ChangeSame
namespace Go.Proofs.Ytjifdheaeopdfaa
open Go.RowKit

set_option maxHeartbeats 4000000 in
theorem impl_CanPay (v : Value) (ts : List Int) (sum : Int) (w : World) (h : RdI w v ts) (hl : ts.length ≤ 1048576) (_ : I64 sum) :
    Calls Try.prog 38 #[v, .int .i64 sum] w fun e w' => e = .returned (.bool (canPay ts sum)) ∧ Nx w w' := by
  have hv := h
  obtain ⟨A, c, rfl, hx⟩ := h
  have Hx := hide hx
  clear hx
  by_cases h6 : ts.length = 6
  · have h6' : ((ts.length : Int) != 6) = false := by simp; omega
    have H6 := hide h6
    have h66 : ts.length ≤ 6 ∧ 6 ≤ ts.length := by omega
    clear h6
    cases h3 : allW 0 100 ts with
    | false =>
      have hf := hide (show canPay ts sum = false from by simp [canPay, h3])
      go_enter Try.func38, Try.ntmps38
      go_wp2_with (go_at_call 44; refine (allWithin_any _ _ _ _ _ hv hl).mono ?_; rintro e w' ⟨rfl, rfl⟩)
      go_ret
      exact ⟨ret_bool hf.out.symm, Below.refl _ _⟩
    | true =>
    cases h1 : inR sum 0 500 with
    | false =>
      have hf := hide (show canPay ts sum = false from by simp [canPay, h1])
      go_enter Try.func38, Try.ntmps38
      go_wp2_with (first | (go_at_call 44; refine (allWithin_any _ _ _ _ _ hv hl).mono ?_; rintro e w' ⟨rfl, rfl⟩) | (go_at_call 42; refine (within_any _ _ _ _).mono ?_; rintro e w' ⟨rfl, rfl⟩))
      go_ret
      exact ⟨ret_bool hf.out.symm, Below.refl _ _⟩
    | true =>
      have Hw := hide (allW_iff.1 h3)
      have hfin := hide (show canPay ts sum = payTo ts 6 sum.toNat from by simp [canPay, H6.out, h3, h1])
      have b1 := inR_iff.1 h1
      obtain ⟨S, rfl⟩ := Int.eq_ofNat_of_zero_le b1.1
      have hS : S ≤ 500 := by omega
      clear b1
      obtain ⟨i0, hi, hz0, hz1, hz2⟩ := info_parts boolInfo
      have hmk := fun W => run_make_rowN (P := Try.prog) 44 4 i0 (.bool false) Try.underlying44 hi hz0 .i64 .i64 (S + 1) (S + 1) (Nat.le_refl _) (by rw [hz2]; omega) (by omega) W
      rw [hz1, show ((S + 1 : Nat) : Int) = (S : Int) + 1 from by omega] at hmk
      have M := OwFn.made w 4 (.bool false) (S + 1) (by omega)
      have hn0 : Nx w (w.alloc (.cells (madeCells #[.bool false] (S + 1)) 4)) := Nx.made w _
      have hc0 := M.cellAt (j := 0) (by omega)
      have hf0 := M.frozenAt 0
      have st := (M.stored 0 (.bool true)).1
      have R0 := st.congr (g := fun s => .bool (payTo ts 0 s)) (fun i _ => by by_cases e : i = 0 <;> simp [payTo, e])
      have Rn : Nx w ((w.alloc (.cells (madeCells #[.bool false] (S + 1)) 4)).setCell ⟨w.heap.size, 0, none⟩ (.bool true)) := hn0.setCell (p := ⟨w.heap.size, 0, none⟩) (Nat.le_refl _) _
      have e1 : (w.alloc (.cells (madeCells #[.bool false] (S + 1)) 4)).setCell ⟨w.heap.size, 0, none⟩ (.bool true) = w.alloc (.cells ((madeCells #[.bool false] (S + 1)).setIfInBounds 0 (.bool true)) 4) := by go_simp
      rw [e1] at R0 Rn
      clear e1
      have G := hide (And.intro R0 Rn)
      have Hmk := hide hmk
      clear M hn0 st R0 Rn hi hz0 hz1 hz2
      have hS0 : (0 : Int) < (S : Int) + 1 := by omega
      go_enter Try.func38, Try.ntmps38
      go_wp2_with (first | (go_at_call 44; refine (allWithin_any _ _ _ _ _ hv hl).mono ?_; rintro e w' ⟨rfl, rfl⟩) | (go_at_call 42; refine (within_any _ _ _ _).mono ?_; rintro e w' ⟨rfl, rfl⟩) | (go_at_call 52; fail))
      refine (pieces_any _).mono ?_
      rintro e w1 ⟨up, rfl, hp, bp⟩
      have Gc := hide (G.out.1.below bp)
      have Gn := hide (G.out.2.trans bp)
      have hpl : pcs.length = 6 := rfl
      obtain ⟨gp, cp, rfl⟩ : ∃ g c, up = .slice (some ⟨g, 0, none⟩) 6 c := OwN.open_ (n := 6) (zs := pcs) hp (by omega)
      have Hpc := hide (fun j (hj : j < 6) => OwN.cellAt (n := 6) (zs := pcs) hp hj)
      have hgp : gp < w1.heap.size := (own_lt hp (g := gp) rfl).2
      have hw1 : w.heap.size < w1.heap.size := Gc.out.lt.2
      clear hp bp h1 h3 hmk hc0 hf0 G hpl hv
      go_wp2_with fail
      go_loopw [5, 31] (fun cn i wr => ∃ (k g : Nat), k ≤ 6 ∧ i = .int .i64 k ∧ cn = .slice (some ⟨g, 0, none⟩) (S + 1) (S + 1) ∧ OwFn wr w.heap.size 4 (.slice (some ⟨g, 0, none⟩) (S + 1) (S + 1)) (S + 1) (fun s => .bool (payTo ts k s)) ∧ Nx w1 wr) (fun _ i _ => 6 - (intOf i).toNat)
      case atStart => exact ⟨0, w.heap.size, by omega, rfl, rfl, Gc.out, Below.refl _ _⟩
      case round =>
        clear Gc
        obtain ⟨k, g, hk, rfl, rfl, hown, hb⟩ := hrel
        by_cases hlt : k < 6
        · have hpk : wr.cell? ⟨gp, k, none⟩ = some (.int .i64 (gt pcs k)) := (hb.cell (p := ⟨gp, k, none⟩) hgp).trans (Hpc.out k hlt)
          have hk1 : (k : Int) < 6 := by omega
          have hmk := Hmk.out
          have hV := pcs_bd hlt
          have hVn := hide (pieceN_gt hlt)
          have bT := Hw.out k (by omega)
          obtain ⟨T, hTe⟩ : ∃ T : Nat, T = (gt ts k).toNat := ⟨_, rfl⟩
          have HT := hide hTe
          have hT1 : (T : Int) ≤ gt ts k ∧ gt ts k ≤ (T : Int) := by omega
          clear hTe
          have M := OwFn.made wr 4 (.bool false) (S + 1) (by omega)
          have R := hide (M.congr (g := fun i => .bool (if i < 0 then payTo ts (k + 1) i else if i = 0 then orTo (payTo ts k) (pieceN k) i 0 else false)) (fun i _ => by by_cases e : i = 0 <;> simp [orTo, e]))
          have Rn := hide (Nx.made wr (.cells (madeCells #[.bool false] (S + 1)) 4))
          have hwsz := hb.size
          have hglt := hown.lt.2
          have Hown := hide hown
          have Hb := hide hb
          clear M hown hb
          obtain ⟨wo, rfl⟩ : ∃ wo : World, wo = wr := ⟨_, rfl⟩
          go_wp2_with fail
          clear hmk
          go_loopw [41] (fun i wr => ∃ s : Nat, s ≤ S + 1 ∧ i = .int .i64 s ∧ OwFn wr wo.heap.size 4 (.slice (some ⟨wo.heap.size, 0, none⟩) (S + 1) (S + 1)) (S + 1) (fun i => .bool (if i < s then payTo ts (k + 1) i else false)) ∧ Nx wo wr) (fun i _ => S + 1 - (intOf i).toNat)
          case atStart => exact ⟨0, by omega, rfl, R.out.congr (fun i _ => by by_cases e : i = 0 <;> simp [orTo, e]), Rn.out⟩
          case round =>
            clear R Rn hpk
            obtain ⟨s, hs, rfl, hown, hb⟩ := hrel
            obtain ⟨wo2, rfl⟩ : ∃ wo2 : World, wo2 = wr := ⟨_, rfl⟩
            by_cases hsS : s < S + 1
            · have R := hide (hown.congr (g := fun i => .bool (if i < s then payTo ts (k + 1) i else if i = s then orTo (payTo ts k) (pieceN k) i 0 else false)) (fun i _ => by
                by_cases e : i = s
                · subst e; simp [orTo]
                · simp [e]))
              have Hb2 := hide hb
              have hs1 : (s : Int) < (S : Int) + 1 := by omega
              clear hown hb
              go_wp2_with fail
              go_loopw [10] (fun i wr => ∃ n : Nat, n ≤ T + 1 ∧ i = .int .i64 n ∧ OwFn wr wo.heap.size 4 (.slice (some ⟨wo.heap.size, 0, none⟩) (S + 1) (S + 1)) (S + 1) (fun i => .bool (if i < s then payTo ts (k + 1) i else if i = s then orTo (payTo ts k) (pieceN k) i n else false)) ∧ Nx wo wr) (fun i _ => T + 1 - (intOf i).toNat)
              case atStart => exact ⟨0, by omega, rfl, R.out, Hb2.out⟩
              case round =>
                clear R Hb2
                obtain ⟨n, hn, rfl, hown, hb⟩ := hrel
                have hts : ∃ b0 off, A = some ⟨b0, off, none⟩ ∧ wr.cell? ⟨b0, off + k, none⟩ = some (.int .i64 (gt ts k)) := by
                  obtain ⟨b0, off, rfl, hb0, hc⟩ := Hx.out (by omega)
                  exact ⟨b0, off, rfl, ((Gn.out.trans (Hb.out.trans hb)).cell (p := ⟨b0, off + k, none⟩) hb0).trans (hc k (by omega))⟩
                obtain ⟨b0, off, rfl, hck⟩ := hts
                have hk2 : (k : Int) < (ts.length : Int) := by omega
                have hnv : 0 ≤ (n : Int) * gt pcs k ∧ (n : Int) * gt pcs k ≤ 101 * 50 := by
                  refine ⟨Int.mul_nonneg (by omega) (by omega), ?_⟩
                  have e1 : (n : Int) * gt pcs k ≤ 101 * gt pcs k := Int.mul_le_mul_of_nonneg_right (by omega) (by omega)
                  omega
                have hnn : (n : Int) * gt pcs k = ((n * pieceN k : Nat) : Int) := by rw [hVn.out]; simp
                have Hnn := hide hnn
                clear hnn
                have Hb2 := hide hb
                by_cases hnT : n ≤ T
                · have hnT1 : (n : Int) ≤ gt ts k := by omega
                  have hnT2 : decide ((n : Int) ≤ gt ts k) = true := by simpa using hnT1
                  by_cases hns : (n : Int) * gt pcs k ≤ (s : Int)
                  · have hns' : n * pieceN k ≤ s := by have := Hnn.out; omega
                    have hj : ((s : Int) - (n : Int) * gt pcs k).toNat = s - n * pieceN k := by have := Hnn.out; omega
                    have hcan := Hown.out.below hb
                    have hcn := hown.cellAt (j := s) hsS
                    rw [if_neg (by omega), if_pos rfl] at hcn
                    have hcc := hcan.cellAt (j := ((s : Int) - (n : Int) * gt pcs k).toNat) (by omega)
                    rw [hj] at hcc
                    rw [show (⟨g, s - n * pieceN k, none⟩ : Addr) = ⟨g, ((s : Int) - (n : Int) * gt pcs k).toNat, none⟩ from by rw [hj]] at hcc
                    have hfs := hown.frozenAt s
                    have hyes := hide (orTo_yes (can := payTo ts k) hns')
                    have i2 : (0 : Int) ≤ (s : Int) - (n : Int) * gt pcs k := by omega
                    have i3 : (s : Int) - (n : Int) * gt pcs k < (S : Int) + 1 := by omega
                    have Hst := hide (fun x => (hown.stored s (.bool x)).1)
                    have Hj := hide hj
                    clear hj hcan hown hb
                    generalize ho : payTo ts k (s - n * pieceN k) = o at *
                    cases ha : orTo (payTo ts k) (pieceN k) s n with
                    | true =>
                      have R := hide ((Hst.out true).congr (g := fun i => .bool (if i < s then payTo ts (k + 1) i else if i = s then orTo (payTo ts k) (pieceN k) i (n + 1) else false)) (fun i _ => by
                        by_cases e : i = s
                        · subst e
                          rw [if_pos rfl, if_neg (by omega), if_pos rfl, hyes.out, ha, Bool.true_or]
                        · rw [if_neg e, if_neg e, if_neg e]))
                      rw [ha] at hcn
                      clear ho ha
                      go_wp2_with fail
                      go_roundw
                      case rel => exact ⟨n + 1, by omega, by go_num, R.out, Hb2.out.setCell (p := ⟨wo.heap.size, s, none⟩) (Nat.le_refl _) _⟩
                      case measure => simp [intOf]; omega
                    | false =>
                      have R := hide ((Hst.out o).congr (g := fun i => .bool (if i < s then payTo ts (k + 1) i else if i = s then orTo (payTo ts k) (pieceN k) i (n + 1) else false)) (fun i _ => by
                        by_cases e : i = s
                        · subst e
                          rw [if_pos rfl, if_neg (by omega), if_pos rfl, hyes.out, ha, Bool.false_or]
                        · rw [if_neg e, if_neg e, if_neg e]))
                      rw [ha] at hcn
                      clear ho ha
                      go_wp2_with fail
                      go_roundw
                      case rel => exact ⟨n + 1, by omega, by go_num, R.out, Hb2.out.setCell (p := ⟨wo.heap.size, s, none⟩) (Nat.le_refl _) _⟩
                      case measure => simp [intOf]; omega
                  · have hstop := hide (orTo_stop (can := payTo ts k) (v := pieceN k) (s := s) (m := n) (by have := Hnn.out; omega) (T + 1) (by omega))
                    have R := hide (hown.congr (g := fun i => .bool (if i < s + 1 then payTo ts (k + 1) i else false)) (fun i _ => by
                      by_cases e : i = s
                      · subst e
                        rw [if_neg (by omega), if_pos rfl, if_pos (by omega)]
                        simp only [payTo]
                        rw [← HT.out, hstop.out]
                      · by_cases h : i < s
                        · rw [if_pos h, if_pos (by omega)]
                        · rw [if_neg h, if_neg e, if_neg (by omega)]))
                    clear hown hb
                    go_wp2_with fail
                    go_roundw
                    case rel => exact ⟨s + 1, by omega, by go_num, R.out, Hb2.out⟩
                    case measure => simp [intOf]; omega
                · have hnT2 : decide ((n : Int) ≤ gt ts k) = false := by simp; omega
                  have hnT3 : gt ts k < (n : Int) := by omega
                  have hnT4 : n = T + 1 := by omega
                  have R := hide (hown.congr (g := fun i => .bool (if i < s + 1 then payTo ts (k + 1) i else false)) (fun i _ => by
                      by_cases e : i = s
                      · subst e
                        rw [if_neg (by omega), if_pos rfl, if_pos (by omega)]
                        simp only [payTo]
                        rw [← HT.out, hnT4]
                      · by_cases h : i < s
                        · rw [if_pos h, if_pos (by omega)]
                        · rw [if_neg h, if_neg e, if_neg (by omega)]))
                  clear hown hb hnT4
                  go_wp2_with fail
                  go_roundw
                  case rel => exact ⟨s + 1, by omega, by go_num, R.out, Hb2.out⟩
                  case measure => simp [intOf]; omega
            · have R := hide ((hown.congr (g := fun i => .bool (payTo ts (k + 1) i)) (fun i hi => by rw [if_pos (by omega)])).mono (by omega : w.heap.size ≤ wo.heap.size))
              have Hb2 := hide (Hb.out.trans hb)
              clear hown hb
              go_wp2_with fail
              go_roundw
              case rel => exact ⟨k + 1, wo.heap.size, by omega, by go_num, rfl, R.out, Hb2.out⟩
              case measure => simp [intOf]; omega
        · obtain rfl : k = 6 := by omega
          have hcS := hown.cellAt (j := S) (by omega)
          have hS1 : (S : Int) < (S : Int) + 1 := by omega
          have Hb := hide hb
          clear hown hb
          go_wp2_with fail
          go_ret
          exact ⟨ret_bool (by rw [hfin.out]; rfl), Gn.out.trans Hb.out⟩
  · have h6' : ((ts.length : Int) != 6) = true := by simp; omega
    have hf := hide (show canPay ts sum = false from by simp [canPay, h6])
    go_enter Try.func38, Try.ntmps38
    go_wp2_with fail
    go_ret
    exact ⟨ret_bool hf.out.symm, Below.refl _ _⟩

end Go.Proofs.Ytjifdheaeopdfaa
