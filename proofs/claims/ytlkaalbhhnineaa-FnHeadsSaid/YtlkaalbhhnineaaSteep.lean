/- Contracts of SteepPlaces. -/
import Derived.Test.YtlkaalbhhnineaaWood
import Derived.WalkKit
import Derived.ProofKit
import Derived.Handy
import Derived.OpenShut
import Derived.ShutString
import Derived.ChangeOld
import Derived.Below
import Derived.BigQuiet
import Derived.Deep.QuietTactic
import Derived.Deep.Draws
import Derived.Deep.DeepCutAuto
import Derived.Deep.DeepFit
import Derived.Deep.LoopGhost
import Derived.Outline
import Derived.WalkSpells
import Derived.WalkLawsBesides
import Derived.WalkSmall
import Derived.Laws.OwnMore
import Derived.OneCell
import Derived.Laws.Rows
import Derived.Maps.AppendAt
import Derived.StillTailTactics
import Derived.Lib.SmallJoins
import Derived.Deep.RegionWith
import Derived.Deep.RegionHeld3
import Derived.RegionTactic
import Derived.Deep.Matrix
import Derived.Deep.Fields
import Derived.ChangeSame
namespace Go.Proofs.Ytlkaalbhhnineaa
open Go.RowKit

/-- the magnitude. -/
def absI (n : Int) : Int := if 0 ≤ n then n else -n
theorem absI_max (n : Int) : absI n = max n (-n) := by unfold absI; split <;> omega
set_option maxHeartbeats 400000 in
theorem size_any (n : Int) (w : World) (h0 : -1000000000000 ≤ n) (h1 : n ≤ 1000000000000) : Calls Try.prog 39 #[.int .i64 n] w fun e w' => e = .returned (.int .i64 (absI n)) ∧ w = w' := by
  have hf := hide (absI_max n)
  go_enter Try.func39, Try.ntmps39
  go_wp2
  all_goals go_ret
  all_goals exact ⟨ret_int (by rw [hf.out]; omega), rfl⟩

/-- steep to the left, steep upwards. -/
def st1 (f : Nat → Nat → Int) (most : Int) (y x : Nat) : Bool := decide (0 < x) && decide (most < absI (f y x - f y (x - 1)))
def st2 (f : Nat → Nat → Int) (most : Int) (y x : Nat) : Bool := decide (0 < y) && decide (most < absI (f y x - f (y - 1) x))
def oneB (b : Bool) : Int := if b then 1 else 0
def steepAt (f : Nat → Nat → Int) (most : Int) (y x : Nat) : Int := oneB (st1 f most y x) + oneB (st2 f most y x)
theorem steepAt_bd (f : Nat → Nat → Int) (most : Int) (y x : Nat) : 0 ≤ steepAt f most y x ∧ steepAt f most y x ≤ 2 := by
  unfold steepAt oneB
  split <;> split <;> omega
/-- how many steep places. -/
def steep (rows : List (List Int)) (most : Int) : Int := if gridOk rows 8 8 0 20 then tot (steepAt (g2 rows) most) (rowAt rows 0).length rows.length else -1

set_option maxHeartbeats 4000000 in
theorem impl_SteepPlaces (v : Value) (rows : List (List Int)) (most : Int) (w : World) (h : RdM w v rows) (hl : OkM rows) (_ : I64 most) :
    Calls Try.prog 21 #[v, .int .i64 most] w fun e w' => e = .returned (.int .i64 (steep rows most)) ∧ Nx w w' := by
  have K := hide (implQ_BlockOk v rows w h hl)
  cases hg : gridOk rows 8 8 0 20 with
  | false =>
    have hf := hide (show steep rows most = -1 from by simp [steep, hg])
    rw [hg] at K
    go_enter Try.func21, Try.ntmps21
    go_wp2_with (go_at_call 14; fail)
    refine (unhide K).mono ?_
    rintro e w1 ⟨rfl, m, rfl⟩
    go_wp2_with fail
    go_ret
    exact ⟨ret_int hf.out.symm, Nx.drewN (Below.refl _ _) _⟩
  | true =>
    rw [hg] at K
    obtain ⟨hG, hh, hw⟩ := gridOk_grid hg
    have hf := hide (show steep rows most = tot (steepAt (g2 rows) most) (rowAt rows 0).length rows.length from by simp [steep, hg])
    have hB := hide hG.bd
    have hr := h.grid hG (by omega) (by omega)
    clear h hl
    have hh8 : rows.length ≤ 8 := by omega
    have ww8 : (rowAt rows 0).length ≤ 8 := by omega
    clear hg hG hh hw
    obtain ⟨b, off, c, rb, ro, rc, rfl, hrow, hcell⟩ := hr
    generalize rows.length = hh at *
    generalize (rowAt rows 0).length = ww at *
    generalize g2 rows = f at *
    have Hrow := hide hrow
    have Hcell := hide hcell
    clear hrow hcell
    go_enter Try.func21, Try.ntmps21
    go_wp2_with (go_at_call 14; fail)
    refine (unhide K).mono ?_
    rintro e w1 ⟨rfl, m, rfl⟩
    clear K
    go_wp2_with fail
    go_loopw [5, 13] (fun n i wr => ∃ y m : Nat, y ≤ hh ∧ i = .int .i64 y ∧ n = .int .i64 (tot (steepAt f most) ww y) ∧ wr = w.drewN m) (fun _ i _ => hh - (intOf i).toNat)
    case atStart => exact ⟨0, _, by omega, rfl, rfl, rfl⟩
    case round =>
      obtain ⟨y, m, hy, rfl, rfl, rfl⟩ := hrel
      have t1 := tot_bd (f := steepAt f most) (m := 2) hy hh8 ww8 (by omega) (fun y x _ _ => steepAt_bd f most y x)
      by_cases hlt : y < hh
      · have k1 := Hrow.out y hlt
        have p3 : (y : Int) < (hh : Int) := by omega
        go_wp2_with fail
        go_loopw [5, 21] (fun n i wr => ∃ x m : Nat, x ≤ ww ∧ i = .int .i64 x ∧ n = .int .i64 (tot (steepAt f most) ww y + s1 (steepAt f most y) x) ∧ wr = w.drewN m) (fun _ i _ => ww - (intOf i).toNat)
        case atStart => exact ⟨0, _, by omega, rfl, by simp [s1], rfl⟩
        case round =>
          obtain ⟨x, m, hx, rfl, rfl, rfl⟩ := hrel
          have t2 := s1_le8 (g := steepAt f most y) (m := 2) (k := x) (by omega) (by omega) (fun j _ => steepAt_bd f most y j)
          by_cases hxl : x < ww
          · have k3 := Hcell.out y x hlt hxl
            have p4 : (x : Int) < (ww : Int) := by omega
            have b3 := hB.out y x hlt hxl
            have Hstep : Hid (∀ c1 c2 : Bool, st1 f most y x = c1 → st2 f most y x = c2 → s1 (steepAt f most y) (x + 1) = s1 (steepAt f most y) x + (oneB c1 + oneB c2)) := fun c1 c2 e1 e2 => by
              simp only [s1, steepAt]; rw [e1, e2]
            generalize hA : tot (steepAt f most) ww y = A at *
            generalize hS : s1 (steepAt f most y) x = S at *
            have HA := hide hA
            have HS := hide hS
            clear hA hS
            by_cases hx0 : 0 < x
            · have k5 := Hcell.out y (x - 1) hlt (by omega)
              have b5 := hB.out y (x - 1) hlt (by omega)
              have p5 : (x : Int) - 1 < (ww : Int) := by omega
              have p9 : (0 : Int) ≤ (x : Int) - 1 := by omega
              have p10 : (1 : Int) ≤ (x : Int) := by omega
              have gx : decide ((0 : Int) < (x : Int)) = true := decide_eq_true (by omega)
              have S1 := hide (fun W => size_any (f y x - f y (x - 1)) W (by omega) (by omega))
              by_cases hc1 : most < absI (f y x - f y (x - 1))
              · have hs1 := hide (show st1 f most y x = true from by simp [st1, hc1, hx0])
                by_cases hy0 : 0 < y
                · have k6 := Hrow.out (y - 1) (by omega)
                  have k7 := Hcell.out (y - 1) x (by omega) hxl
                  have b7 := hB.out (y - 1) x (by omega) hxl
                  have p6 : (y : Int) - 1 < (hh : Int) := by omega
                  have p7 : (0 : Int) ≤ (y : Int) - 1 := by omega
                  have p8 : (1 : Int) ≤ (y : Int) := by omega
                  have gy : decide ((0 : Int) < (y : Int)) = true := decide_eq_true (by omega)
                  have S2 := hide (fun W => size_any (f y x - f (y - 1) x) W (by omega) (by omega))
                  by_cases hc2 : most < absI (f y x - f (y - 1) x)
                  · have hs2 := hide (show st2 f most y x = true from by simp [st2, hc2, hy0])
                    have R := hide (Hstep.out _ _ hs1.out hs2.out)
                    go_wp2_with fail
                    have hB : IntKind.i64.wrap ((x : Int) - 1) = (x : Int) - 1 := IntWalk.i64_in _ (by omega)
                    have hI : ((x : Int) - 1).toNat = x - 1 := by omega
                    have hD : IntKind.i64.wrap (f y x - f y (x - 1)) = f y x - f y (x - 1) := IntWalk.i64_in _ (by omega)
                    go_quiet ((go_at_call 39; exact quiet_add_left (S1.out _)))
                    clear hB hI hD
                    go_wp2_with fail
                    have hB : IntKind.i64.wrap ((y : Int) - 1) = (y : Int) - 1 := IntWalk.i64_in _ (by omega)
                    have hI : ((y : Int) - 1).toNat = y - 1 := by omega
                    have hD : IntKind.i64.wrap (f y x - f (y - 1) x) = f y x - f (y - 1) x := IntWalk.i64_in _ (by omega)
                    go_quiet ((go_at_call 39; exact quiet_add_left (S2.out _)))
                    clear hB hI hD
                    go_wp2
                    go_roundw
                    case rel => exact ⟨x + 1, _, Nat.succ_le_of_lt hxl, by go_num, by first | (rw [R.out]; simp only [oneB]; go_num) | (rw [R.out]; simp [oneB]; done), rfl⟩
                    case measure => simp [intOf]; omega
                  · have hs2 := hide (show st2 f most y x = false from by simp [st2, hc2, hy0])
                    have R := hide (Hstep.out _ _ hs1.out hs2.out)
                    go_wp2_with fail
                    have hB : IntKind.i64.wrap ((x : Int) - 1) = (x : Int) - 1 := IntWalk.i64_in _ (by omega)
                    have hI : ((x : Int) - 1).toNat = x - 1 := by omega
                    have hD : IntKind.i64.wrap (f y x - f y (x - 1)) = f y x - f y (x - 1) := IntWalk.i64_in _ (by omega)
                    go_quiet ((go_at_call 39; exact quiet_add_left (S1.out _)))
                    clear hB hI hD
                    go_wp2_with fail
                    have hB : IntKind.i64.wrap ((y : Int) - 1) = (y : Int) - 1 := IntWalk.i64_in _ (by omega)
                    have hI : ((y : Int) - 1).toNat = y - 1 := by omega
                    have hD : IntKind.i64.wrap (f y x - f (y - 1) x) = f y x - f (y - 1) x := IntWalk.i64_in _ (by omega)
                    go_quiet ((go_at_call 39; exact quiet_add_left (S2.out _)))
                    clear hB hI hD
                    go_wp2
                    go_roundw
                    case rel => exact ⟨x + 1, _, Nat.succ_le_of_lt hxl, by go_num, by first | (rw [R.out]; simp only [oneB]; go_num) | (rw [R.out]; simp [oneB]; done), rfl⟩
                    case measure => simp [intOf]; omega
                · have hs2 := hide (show st2 f most y x = false from by simp [st2, hy0])
                  have gy : decide ((0 : Int) < (y : Int)) = false := decide_eq_false (by omega)
                  have R := hide (Hstep.out _ _ hs1.out hs2.out)
                  go_wp2_with fail
                  have hB : IntKind.i64.wrap ((x : Int) - 1) = (x : Int) - 1 := IntWalk.i64_in _ (by omega)
                  have hI : ((x : Int) - 1).toNat = x - 1 := by omega
                  have hD : IntKind.i64.wrap (f y x - f y (x - 1)) = f y x - f y (x - 1) := IntWalk.i64_in _ (by omega)
                  go_quiet ((go_at_call 39; exact quiet_add_left (S1.out _)))
                  clear hB hI hD
                  go_wp2_with fail
                  go_quiet (fail)
                  go_wp2
                  go_roundw
                  case rel => exact ⟨x + 1, _, Nat.succ_le_of_lt hxl, by go_num, by first | (rw [R.out]; simp only [oneB]; go_num) | (rw [R.out]; simp [oneB]; done), rfl⟩
                  case measure => simp [intOf]; omega
              · have hs1 := hide (show st1 f most y x = false from by simp [st1, hc1, hx0])
                by_cases hy0 : 0 < y
                · have k6 := Hrow.out (y - 1) (by omega)
                  have k7 := Hcell.out (y - 1) x (by omega) hxl
                  have b7 := hB.out (y - 1) x (by omega) hxl
                  have p6 : (y : Int) - 1 < (hh : Int) := by omega
                  have p7 : (0 : Int) ≤ (y : Int) - 1 := by omega
                  have p8 : (1 : Int) ≤ (y : Int) := by omega
                  have gy : decide ((0 : Int) < (y : Int)) = true := decide_eq_true (by omega)
                  have S2 := hide (fun W => size_any (f y x - f (y - 1) x) W (by omega) (by omega))
                  by_cases hc2 : most < absI (f y x - f (y - 1) x)
                  · have hs2 := hide (show st2 f most y x = true from by simp [st2, hc2, hy0])
                    have R := hide (Hstep.out _ _ hs1.out hs2.out)
                    go_wp2_with fail
                    have hB : IntKind.i64.wrap ((x : Int) - 1) = (x : Int) - 1 := IntWalk.i64_in _ (by omega)
                    have hI : ((x : Int) - 1).toNat = x - 1 := by omega
                    have hD : IntKind.i64.wrap (f y x - f y (x - 1)) = f y x - f y (x - 1) := IntWalk.i64_in _ (by omega)
                    go_quiet ((go_at_call 39; exact quiet_add_left (S1.out _)))
                    clear hB hI hD
                    go_wp2_with fail
                    have hB : IntKind.i64.wrap ((y : Int) - 1) = (y : Int) - 1 := IntWalk.i64_in _ (by omega)
                    have hI : ((y : Int) - 1).toNat = y - 1 := by omega
                    have hD : IntKind.i64.wrap (f y x - f (y - 1) x) = f y x - f (y - 1) x := IntWalk.i64_in _ (by omega)
                    go_quiet ((go_at_call 39; exact quiet_add_left (S2.out _)))
                    clear hB hI hD
                    go_wp2
                    go_roundw
                    case rel => exact ⟨x + 1, _, Nat.succ_le_of_lt hxl, by go_num, by first | (rw [R.out]; simp only [oneB]; go_num) | (rw [R.out]; simp [oneB]; done), rfl⟩
                    case measure => simp [intOf]; omega
                  · have hs2 := hide (show st2 f most y x = false from by simp [st2, hc2, hy0])
                    have R := hide (Hstep.out _ _ hs1.out hs2.out)
                    go_wp2_with fail
                    have hB : IntKind.i64.wrap ((x : Int) - 1) = (x : Int) - 1 := IntWalk.i64_in _ (by omega)
                    have hI : ((x : Int) - 1).toNat = x - 1 := by omega
                    have hD : IntKind.i64.wrap (f y x - f y (x - 1)) = f y x - f y (x - 1) := IntWalk.i64_in _ (by omega)
                    go_quiet ((go_at_call 39; exact quiet_add_left (S1.out _)))
                    clear hB hI hD
                    go_wp2_with fail
                    have hB : IntKind.i64.wrap ((y : Int) - 1) = (y : Int) - 1 := IntWalk.i64_in _ (by omega)
                    have hI : ((y : Int) - 1).toNat = y - 1 := by omega
                    have hD : IntKind.i64.wrap (f y x - f (y - 1) x) = f y x - f (y - 1) x := IntWalk.i64_in _ (by omega)
                    go_quiet ((go_at_call 39; exact quiet_add_left (S2.out _)))
                    clear hB hI hD
                    go_wp2
                    go_roundw
                    case rel => exact ⟨x + 1, _, Nat.succ_le_of_lt hxl, by go_num, by first | (rw [R.out]; simp only [oneB]; go_num) | (rw [R.out]; simp [oneB]; done), rfl⟩
                    case measure => simp [intOf]; omega
                · have hs2 := hide (show st2 f most y x = false from by simp [st2, hy0])
                  have gy : decide ((0 : Int) < (y : Int)) = false := decide_eq_false (by omega)
                  have R := hide (Hstep.out _ _ hs1.out hs2.out)
                  go_wp2_with fail
                  have hB : IntKind.i64.wrap ((x : Int) - 1) = (x : Int) - 1 := IntWalk.i64_in _ (by omega)
                  have hI : ((x : Int) - 1).toNat = x - 1 := by omega
                  have hD : IntKind.i64.wrap (f y x - f y (x - 1)) = f y x - f y (x - 1) := IntWalk.i64_in _ (by omega)
                  go_quiet ((go_at_call 39; exact quiet_add_left (S1.out _)))
                  clear hB hI hD
                  go_wp2_with fail
                  go_quiet (fail)
                  go_wp2
                  go_roundw
                  case rel => exact ⟨x + 1, _, Nat.succ_le_of_lt hxl, by go_num, by first | (rw [R.out]; simp only [oneB]; go_num) | (rw [R.out]; simp [oneB]; done), rfl⟩
                  case measure => simp [intOf]; omega
            · have hs1 := hide (show st1 f most y x = false from by simp [st1, hx0])
              have gx : decide ((0 : Int) < (x : Int)) = false := decide_eq_false (by omega)
              by_cases hy0 : 0 < y
              · have k6 := Hrow.out (y - 1) (by omega)
                have k7 := Hcell.out (y - 1) x (by omega) hxl
                have b7 := hB.out (y - 1) x (by omega) hxl
                have p6 : (y : Int) - 1 < (hh : Int) := by omega
                have p7 : (0 : Int) ≤ (y : Int) - 1 := by omega
                have p8 : (1 : Int) ≤ (y : Int) := by omega
                have gy : decide ((0 : Int) < (y : Int)) = true := decide_eq_true (by omega)
                have S2 := hide (fun W => size_any (f y x - f (y - 1) x) W (by omega) (by omega))
                by_cases hc2 : most < absI (f y x - f (y - 1) x)
                · have hs2 := hide (show st2 f most y x = true from by simp [st2, hc2, hy0])
                  have R := hide (Hstep.out _ _ hs1.out hs2.out)
                  go_wp2_with fail
                  go_quiet (fail)
                  go_wp2_with fail
                  have hB : IntKind.i64.wrap ((y : Int) - 1) = (y : Int) - 1 := IntWalk.i64_in _ (by omega)
                  have hI : ((y : Int) - 1).toNat = y - 1 := by omega
                  have hD : IntKind.i64.wrap (f y x - f (y - 1) x) = f y x - f (y - 1) x := IntWalk.i64_in _ (by omega)
                  go_quiet ((go_at_call 39; exact quiet_add_left (S2.out _)))
                  clear hB hI hD
                  go_wp2
                  go_roundw
                  case rel => exact ⟨x + 1, _, Nat.succ_le_of_lt hxl, by go_num, by first | (rw [R.out]; simp only [oneB]; go_num) | (rw [R.out]; simp [oneB]; done), rfl⟩
                  case measure => simp [intOf]; omega
                · have hs2 := hide (show st2 f most y x = false from by simp [st2, hc2, hy0])
                  have R := hide (Hstep.out _ _ hs1.out hs2.out)
                  go_wp2_with fail
                  go_quiet (fail)
                  go_wp2_with fail
                  have hB : IntKind.i64.wrap ((y : Int) - 1) = (y : Int) - 1 := IntWalk.i64_in _ (by omega)
                  have hI : ((y : Int) - 1).toNat = y - 1 := by omega
                  have hD : IntKind.i64.wrap (f y x - f (y - 1) x) = f y x - f (y - 1) x := IntWalk.i64_in _ (by omega)
                  go_quiet ((go_at_call 39; exact quiet_add_left (S2.out _)))
                  clear hB hI hD
                  go_wp2
                  go_roundw
                  case rel => exact ⟨x + 1, _, Nat.succ_le_of_lt hxl, by go_num, by first | (rw [R.out]; simp only [oneB]; go_num) | (rw [R.out]; simp [oneB]; done), rfl⟩
                  case measure => simp [intOf]; omega
              · have hs2 := hide (show st2 f most y x = false from by simp [st2, hy0])
                have gy : decide ((0 : Int) < (y : Int)) = false := decide_eq_false (by omega)
                have R := hide (Hstep.out _ _ hs1.out hs2.out)
                go_wp2_with fail
                go_quiet (fail)
                go_wp2_with fail
                go_quiet (fail)
                go_wp2
                go_roundw
                case rel => exact ⟨x + 1, _, Nat.succ_le_of_lt hxl, by go_num, by first | (rw [R.out]; simp only [oneB]; go_num) | (rw [R.out]; simp [oneB]; done), rfl⟩
                case measure => simp [intOf]; omega
          · obtain rfl : x = ww := by omega
            go_wp2_with fail
            go_roundw
            case rel => exact ⟨y + 1, _, by omega, by go_num, by rw [tot_succ], rfl⟩
            case measure => simp [intOf]; omega
      · obtain rfl : y = hh := by omega
        go_wp2_with fail
        go_ret
        exact ⟨ret_int hf.out.symm, Nx.drewN (Below.refl _ _) _⟩

end Go.Proofs.Ytlkaalbhhnineaa
