/- Contracts of Sees. -/
import Derived.Test.YtkjclpbemdilbaaGrid
import Derived.WalkKit
import Derived.ProofKit
import Derived.Handy
import Derived.OpenShut
import Derived.ShutString
import Derived.ChangeOld
import Derived.Below
import Derived.BigQuiet
import Derived.Deep.QuietTactic
import Derived.Deep.Draws
import Derived.Deep.DeepCutAuto
import Derived.Deep.DeepFit
import Derived.Deep.LoopGhost
import Derived.Outline
import Derived.WalkSpells
import Derived.WalkLawsBesides
import Derived.WalkSmall
import Derived.Laws.OwnMore
import Derived.OneCell
import Derived.Laws.Rows
import Derived.Maps.AppendAt
import Derived.StillTailTactics
import Derived.Lib.SmallJoins
import Derived.Deep.RegionWith
import Derived.Deep.RegionHeld3
import Derived.RegionTactic
import Derived.Deep.Matrix
import Derived.Deep.Fields
import Derived.ChangeSame
namespace Go.Proofs.Ytkjclpbemdilbaa
open Go.RowKit

/-- nobody in front hides the stage. -/
def clear1 (f : Nat → Nat → Int) (R S : Nat) (rise : Int) (y : Nat) : Bool := !(decide (0 ≤ f y S) && decide (f R S + rise * ((R : Int) - (y : Int)) ≤ f y S))
/-- a person sees the stage. -/
def seesB (rows : List (List Int)) (r s rise : Int) : Bool :=
  gridOk rows 8 10 (-1) 200 && inR rise 0 50 && inR r 0 ((rows.length : Int) - 1) && inR s 0 (((rowAt rows 0).length : Int) - 1) && decide (0 ≤ g2 rows r.toNat s.toNat) &&
    (List.range r.toNat).all (clear1 (g2 rows) r.toNat s.toNat rise)
theorem mul8 {a b : Int} (h0 : 0 ≤ a) (h1 : a ≤ 50) (h2 : 0 ≤ b) (h3 : b ≤ 8) : 0 ≤ a * b ∧ a * b ≤ 400 := by
  constructor
  · exact Int.mul_nonneg h0 h2
  · have := Int.mul_le_mul h1 h3 h2 (by omega)
    omega

set_option maxHeartbeats 4000000 in
theorem implQ_Sees (v : Value) (rows : List (List Int)) (r s rise : Int) (w : World) (h : RdM w v rows) (hl : OkM rows) :
    Calls Try.prog 16 #[v, .int .i64 r, .int .i64 s, .int .i64 rise] w fun e w' => e = .returned (.bool (seesB rows r s rise)) ∧ ∃ m, w' = w.drewN m := by
  have K := hide (implQ_HallOk v rows w h hl)
  cases hg : gridOk rows 8 10 (-1) 200 with
  | false =>
    have hf := hide (show seesB rows r s rise = false from by simp [seesB, hg])
    rw [hg] at K
    go_enter Try.func16, Try.ntmps16
    go_wp2_with (go_at_call 13; fail)
    refine (unhide K).mono ?_
    rintro e w1 ⟨rfl, m, rfl⟩
    go_wp2_with fail
    go_ret
    exact ⟨ret_bool hf.out.symm, _, rfl⟩
  | true =>
    rw [hg] at K
    obtain ⟨hG, hh, hw⟩ := gridOk_grid hg
    have hB := hide hG.bd
    have hr := h.grid hG (by omega) (by omega)
    clear h hl
    obtain ⟨b, off, c, rb, ro, rc, rfl, hrow, hcell⟩ := hr
    have r0 := hrow 0 (by omega)
    rw [Nat.add_zero] at r0
    have p0 : (0 : Int) < (rows.length : Int) := by omega
    have p1 : rows.length ≤ 8 := by omega
    have p2 : (rowAt rows 0).length ≤ 10 := by omega
    have p3 : 1 ≤ (rowAt rows 0).length := by omega
    cases h1 : inR rise 0 50 with
    | false =>
      have hf := hide (show seesB rows r s rise = false from by simp [seesB, h1])
      clear hrow hcell hG hh hw hg
      go_enter Try.func16, Try.ntmps16
      go_wp2_with (go_at_call 13; fail)
      refine (unhide K).mono ?_
      rintro e w1 ⟨rfl, m, rfl⟩
      go_wp2_with (go_at_call 37; refine (within_any _ _ _ _).mono ?_; rintro e w' ⟨rfl, rfl⟩)
      go_ret
      exact ⟨ret_bool hf.out.symm, _, rfl⟩
    | true =>
      cases h2 : inR r 0 ((rows.length : Int) - 1) with
      | false =>
        have hf := hide (show seesB rows r s rise = false from by simp [seesB, h2])
        clear hrow hcell hG hh hw hg
        go_enter Try.func16, Try.ntmps16
        go_wp2_with (go_at_call 13; fail)
        refine (unhide K).mono ?_
        rintro e w1 ⟨rfl, m, rfl⟩
        go_wp2_with (go_at_call 37; refine (within_any _ _ _ _).mono ?_; rintro e w' ⟨rfl, rfl⟩)
        go_ret
        exact ⟨ret_bool hf.out.symm, _, rfl⟩
      | true =>
        cases h3 : inR s 0 (((rowAt rows 0).length : Int) - 1) with
        | false =>
          have hf := hide (show seesB rows r s rise = false from by simp [seesB, h3])
          clear hrow hcell hG hh hw hg
          go_enter Try.func16, Try.ntmps16
          go_wp2_with (go_at_call 13; fail)
          refine (unhide K).mono ?_
          rintro e w1 ⟨rfl, m, rfl⟩
          go_wp2_with (go_at_call 37; refine (within_any _ _ _ _).mono ?_; rintro e w' ⟨rfl, rfl⟩)
          go_ret
          exact ⟨ret_bool hf.out.symm, _, rfl⟩
        | true =>
          have b1 := inR_iff.1 h1
          have b2 := inR_iff.1 h2
          have b3 := inR_iff.1 h3
          obtain ⟨R, rfl⟩ := Int.eq_ofNat_of_zero_le b2.1
          obtain ⟨S, rfl⟩ := Int.eq_ofNat_of_zero_le b3.1
          have hR : R < rows.length := by omega
          have hS : S < (rowAt rows 0).length := by omega
          have hRi : (R : Int) < (rows.length : Int) := by omega
          have hSi : (S : Int) < ((rowAt rows 0).length : Int) := by omega
          have Hf : Hid (seesB rows (R : Int) (S : Int) rise = (decide (0 ≤ g2 rows R S) && (List.range R).all (clear1 (g2 rows) R S rise))) := by
            show seesB rows (R : Int) (S : Int) rise = _
            simp only [seesB, hg, h1, h2, h3, Bool.true_and, Int.toNat_natCast]
          have k1 := hrow R hR
          have k2 := hcell R S hR hS
          have bR := hB.out R S hR hS
          clear b2 b3 hG hh hw hg
          generalize rows.length = hh at *
          generalize (rowAt rows 0).length = ww at *
          generalize g2 rows = f at *
          have Hrow := hide hrow
          have Hcell := hide hcell
          clear hrow hcell
          by_cases h0 : f R S < 0
          · have hf := hide (show (decide (0 ≤ f R S) && (List.range R).all (clear1 f R S rise)) = false from by rw [decide_eq_false (by omega)]; rfl)
            go_enter Try.func16, Try.ntmps16
            go_wp2_with (go_at_call 13; fail)
            refine (unhide K).mono ?_
            rintro e w1 ⟨rfl, m, rfl⟩
            go_wp2_with (go_at_call 37; refine (within_any _ _ _ _).mono ?_; rintro e w' ⟨rfl, rfl⟩)
            go_ret
            exact ⟨ret_bool (by rw [Hf.out, hf.out]), _, rfl⟩
          · go_enter Try.func16, Try.ntmps16
            go_wp2_with (go_at_call 13; fail)
            refine (unhide K).mono ?_
            rintro e w1 ⟨rfl, m, rfl⟩
            clear K
            go_wp2_with (go_at_call 37; refine (within_any _ _ _ _).mono ?_; rintro e w' ⟨rfl, rfl⟩)
            have H1 := hide h1
            clear h1 h2 h3 r0
            go_loopw [48] (fun i wr => ∃ y m : Nat, y ≤ R ∧ i = .int .i64 y ∧ wr = w.drewN m ∧ Hid (∀ y', y' < y → clear1 f R S rise y' = true)) (fun i _ => R - (intOf i).toNat)
            case atStart => exact ⟨0, _, by omega, rfl, rfl, fun j hj => absurd hj (by omega)⟩
            case round =>
              obtain ⟨y, m, hy, rfl, rfl, hall⟩ := hrel
              by_cases hlt : y < R
              · have k3 := Hrow.out y (by omega)
                have k4 := Hcell.out y S (by omega) hS
                have by' := hB.out y S (by omega) hS
                have p4 : (y : Int) < (hh : Int) := by omega
                have mm := mul8 (a := rise) (b := (R : Int) - (y : Int)) (by omega) (by omega) (by omega) (by omega)
                by_cases hy0 : 0 ≤ f y S
                · by_cases hc : f R S + rise * ((R : Int) - (y : Int)) ≤ f y S
                  · have hcl : clear1 f R S rise y = false := by simp [clear1, hy0, hc]
                    have hf := hide (show (List.range R).all (clear1 f R S rise) = false from by
                      rw [Bool.eq_false_iff]
                      intro ht
                      have := List.all_eq_true.1 ht y (List.mem_range.2 hlt)
                      rw [hcl] at this
                      cases this)
                    clear hcl
                    go_wp2_with fail
                    go_ret
                    exact ⟨ret_bool (by rw [Hf.out, hf.out, Bool.and_false]), _, rfl⟩
                  · have hcl := hide (show clear1 f R S rise y = true from by simp only [clear1]; rw [decide_eq_false hc, Bool.and_false]; rfl)
                    go_wp2_with fail
                    go_roundw
                    case rel => exact ⟨y + 1, _, by omega, by go_num, rfl, fun y' hy' => by
                      rcases Nat.lt_or_ge y' y with h | h
                      · exact hall.out y' h
                      · obtain rfl : y' = y := by omega
                        exact hcl.out⟩
                    case measure => simp [intOf]; omega
                · have hcl := hide (show clear1 f R S rise y = true from by simp only [clear1]; rw [decide_eq_false hy0]; rfl)
                  have hd0 : decide (0 ≤ f y S) = false := decide_eq_false hy0
                  go_wp2_with fail
                  go_roundw
                  case rel => exact ⟨y + 1, _, by omega, by go_num, rfl, fun y' hy' => by
                    rcases Nat.lt_or_ge y' y with h | h
                    · exact hall.out y' h
                    · obtain rfl : y' = y := by omega
                      exact hcl.out⟩
                  case measure => simp [intOf]; omega
              · obtain rfl : y = R := by omega
                have hf := hide (show (decide (0 ≤ f y S) && (List.range y).all (clear1 f y S rise)) = true from by
                  rw [decide_eq_true (by omega), Bool.true_and, List.all_eq_true]
                  intro y' hy'
                  exact hall.out y' (List.mem_range.1 hy'))
                go_wp2_with fail
                go_ret
                exact ⟨ret_bool (by rw [Hf.out, hf.out]), _, rfl⟩
theorem impl_Sees (v : Value) (rows : List (List Int)) (r s rise : Int) (w : World) (h : RdM w v rows) (hl : OkM rows) (_ : I64 r) (_ : I64 s) (_ : I64 rise) :
    Calls Try.prog 16 #[v, .int .i64 r, .int .i64 s, .int .i64 rise] w fun e w' => e = .returned (.bool (seesB rows r s rise)) ∧ Nx w w' := calls_nx (implQ_Sees v rows r s rise w h hl)

end Go.Proofs.Ytkjclpbemdilbaa
