/- Contracts of the reference's CountSeeing and LeastRise. -/
import Derived.Test.YtkjclpbemdilbaaPeople
import Derived.WalkKit
import Derived.ProofKit
import Derived.Handy
import Derived.OpenShut
import Derived.ShutString
import Derived.ChangeOld
import Derived.Below
import Derived.BigQuiet
import Derived.Deep.QuietTactic
import Derived.Deep.Draws
import Derived.Deep.DeepCutAuto
import Derived.Deep.DeepFit
import Derived.Deep.LoopGhost
import Derived.Outline
import Derived.WalkSpells
import Derived.WalkLawsBesides
import Derived.WalkSmall
import Derived.Laws.OwnMore
import Derived.OneCell
import Derived.Laws.Rows
import Derived.Maps.AppendAt
import Derived.StillTailTactics
import Derived.Lib.SmallJoins
import Derived.Deep.RegionWith
import Derived.Deep.RegionHeld3
import Derived.RegionTactic
import Derived.Deep.Matrix
import Derived.Deep.Fields
import Derived.ChangeSame
namespace Go.Proofs.Ytkjclpbemdilbaa
open Go.RowKit

set_option maxHeartbeats 2000000 in
theorem specQ_CountSeeing (v : Value) (rows : List (List Int)) (rise : Int) (w : World) (h : RdM w v rows) (hl : OkM rows) :
    Calls Try.prog 19 #[v, .int .i64 rise] w fun e w' => e = .returned (.int .i64 (countS rows rise)) ∧ ∃ m, w' = w.drewN m := by
  have K := hide (specQ_HallOk v rows w h hl)
  cases hg : gridOk rows 8 10 (-1) 200 with
  | false =>
    have hf := hide (show countS rows rise = -1 from by simp [countS, hg])
    rw [hg] at K
    go_enter Try.func19, Try.ntmps19
    go_wp2_with (go_at_call 11; fail)
    refine (unhide K).mono ?_
    rintro e w1 ⟨rfl, m, rfl⟩
    go_wp2_with fail
    go_ret
    exact ⟨ret_int hf.out.symm, _, rfl⟩
  | true =>
    rw [hg] at K
    cases h1 : inR rise 0 50 with
    | false =>
      have hf := hide (show countS rows rise = -1 from by simp [countS, h1])
      clear hg
      go_enter Try.func19, Try.ntmps19
      go_wp2_with (go_at_call 11; fail)
      refine (unhide K).mono ?_
      rintro e w1 ⟨rfl, m, rfl⟩
      go_wp2_with (go_at_call 35; refine (l01In_any _ _ _ _).mono ?_; rintro e w' ⟨rfl, rfl⟩)
      go_ret
      exact ⟨ret_int hf.out.symm, _, rfl⟩
    | true =>
      have hf := hide (show countS rows rise = tot (seesN rows rise) (rowAt rows 0).length rows.length from by simp [countS, hg, h1, seeing])
      have K2 := hide (fun (n y x : Nat) => specQ_Sees v rows (y : Int) (x : Int) rise (w.drewN n) (h.below (Nx.drewN (Below.refl _ _) n)) hl)
      obtain ⟨hG, hh, hw⟩ := gridOk_grid hg
      have hr := h.grid hG (by omega) (by omega)
      have p1 : rows.length ≤ 8 := by omega
      have p2 : (rowAt rows 0).length ≤ 10 := by omega
      have hs1 : Hid (∀ y x, seesN rows rise y x = oneB (seesB rows (y : Int) (x : Int) rise)) := fun _ _ => rfl
      have zs := hide (fun (y x : Nat) => oneB_bd (seesB rows (y : Int) (x : Int) rise))
      obtain ⟨b, off, c, rb, ro, rc, rfl, hrow, _⟩ := hr
      have Hrow := hide hrow
      clear hrow hG hh hw hg h hl
      generalize rows.length = hh at *
      generalize (rowAt rows 0).length = ww at *
      generalize hsf : seesN rows rise = sf at *
      clear hsf
      go_enter Try.func19, Try.ntmps19
      go_wp2_with (go_at_call 11; fail)
      refine (unhide K).mono ?_
      rintro e w1 ⟨rfl, m, rfl⟩
      clear K
      go_wp2_with (go_at_call 35; refine (l01In_any _ _ _ _).mono ?_; rintro e w' ⟨rfl, rfl⟩)
      clear h1
      go_loopw [5, 6] (fun s i wr => ∃ y m : Nat, y ≤ hh ∧ i = .int .i64 y ∧ s = .int .i64 (tot sf ww y) ∧ wr = w.drewN m) (fun _ i _ => hh - (intOf i).toNat)
      case atStart => exact ⟨0, _, by omega, rfl, rfl, rfl⟩
      case round =>
        obtain ⟨y, m, hy, rfl, rfl, rfl⟩ := hrel
        have t2 := tot_bd (f := sf) hy (by omega) p2 (fun y x => by rw [hs1.out]; exact zs.out y x)
        by_cases hlt : y < hh
        · have k1 := Hrow.out y hlt
          go_wp2_with fail
          go_loopw [5, 7] (fun s i wr => ∃ x m : Nat, x ≤ ww ∧ i = .int .i64 x ∧ s = .int .i64 (tot sf ww y + s1 (sf y) x) ∧ wr = w.drewN m) (fun _ i _ => ww - (intOf i).toNat)
          case atStart => exact ⟨0, _, by omega, rfl, by simp [s1], rfl⟩
          case round =>
            obtain ⟨x, m, hx, rfl, rfl, rfl⟩ := hrel
            have t4 := s1_le10 (g := sf y) (m := 1) (k := x) (by omega) (by omega) (fun j _ => by rw [hs1.out]; exact zs.out y j)
            by_cases hxl : x < ww
            · have Km := hide (K2.out m y x)
              have e4 : Hid (s1 (sf y) (x + 1) = s1 (sf y) x + sf y x) := rfl
              cases hs : seesB rows (y : Int) (x : Int) rise with
              | true =>
                have e2 := hide (show sf y x = 1 from by rw [hs1.out]; simp [oneB, hs])
                rw [hs] at Km
                clear hs
                go_wp2_with (go_at_call 15; refine (unhide Km).mono ?_; rintro e w' ⟨rfl, m', rfl⟩)
                go_roundw
                case rel => exact ⟨x + 1, _, by omega, by go_num, by rw [e4.out, e2.out]; go_num, rfl⟩
                case measure => simp [intOf]; omega
              | false =>
                have e2 := hide (show sf y x = 0 from by rw [hs1.out]; simp [oneB, hs])
                rw [hs] at Km
                clear hs
                go_wp2_with (go_at_call 15; refine (unhide Km).mono ?_; rintro e w' ⟨rfl, m', rfl⟩)
                go_roundw
                case rel => exact ⟨x + 1, _, by omega, by go_num, by rw [e4.out, e2.out]; go_num, rfl⟩
                case measure => simp [intOf]; omega
            · obtain rfl : x = ww := by omega
              go_wp2_with fail
              go_roundw
              case rel => exact ⟨y + 1, _, by omega, by go_num, by rw [tot_succ], rfl⟩
              case measure => simp [intOf]; omega
        · obtain rfl : y = hh := by omega
          go_wp2_with fail
          go_ret
          exact ⟨ret_int hf.out.symm, _, rfl⟩

set_option maxHeartbeats 2000000 in
theorem specQ_LeastRise (v : Value) (rows : List (List Int)) (w : World) (h : RdM w v rows) (hl : OkM rows) :
    Calls Try.prog 27 #[v] w fun e w' => e = .returned (.int .i64 (leastR rows)) ∧ ∃ m, w' = w.drewN m := by
  have K := hide (specQ_HallOk v rows w h hl)
  cases hg : gridOk rows 8 10 (-1) 200 with
  | false =>
    have hf := hide (show leastR rows = -1 from by simp [leastR, hg])
    rw [hg] at K
    go_enter Try.func27, Try.ntmps27
    go_wp2_with (go_at_call 11; fail)
    refine (unhide K).mono ?_
    rintro e w1 ⟨rfl, m, rfl⟩
    go_wp2_with fail
    go_ret
    exact ⟨ret_int hf.out.symm, _, rfl⟩
  | true =>
    rw [hg] at K
    have hf := hide (show leastR rows = firstR (fun r => manned rows == seeing rows (r : Int)) 51 from by simp [leastR, hg])
    have K2 : Hid (∀ (n r : Nat), r ≤ 50 → Calls Try.prog 19 #[v, .int .i64 (r : Int)] (w.drewN n) fun e w' => e = .returned (.int .i64 (seeing rows (r : Int))) ∧ ∃ m, w' = (w.drewN n).drewN m) := fun n r hr => by
      have := specQ_CountSeeing v rows (r : Int) (w.drewN n) (h.below (Nx.drewN (Below.refl _ _) n)) hl
      have e : countS rows (r : Int) = seeing rows (r : Int) := by simp only [countS, hg, Bool.true_and]; rw [if_pos (inR_iff.2 ⟨by omega, by omega⟩)]
      rw [e] at this
      exact this
    obtain ⟨hG, hh, hw⟩ := gridOk_grid hg
    have hr := h.grid hG (by omega) (by omega)
    have p1 : rows.length ≤ 8 := by omega
    have p2 : (rowAt rows 0).length ≤ 10 := by omega
    have hM : Hid (manned rows = tot (manN rows) (rowAt rows 0).length rows.length) := rfl
    have hm1 : Hid (∀ y x, manN rows y x = oneB (decide (0 ≤ g2 rows y x))) := fun _ _ => rfl
    have zm := hide (fun y x => oneB_bd (decide (0 ≤ g2 rows y x)))
    obtain ⟨b, off, c, rb, ro, rc, rfl, hrow, hcell⟩ := hr
    have Hrow := hide hrow
    have Hcell := hide hcell
    clear hrow hcell hG hh hw hg h hl
    generalize rows.length = hh at *
    generalize (rowAt rows 0).length = ww at *
    generalize hmf : manN rows = mf at *
    clear hmf
    go_enter Try.func27, Try.ntmps27
    go_wp2_with (go_at_call 11; fail)
    refine (unhide K).mono ?_
    rintro e w1 ⟨rfl, m0, rfl⟩
    clear K
    go_wp2_with fail
    go_loop [3, 4] (fun a i => ∃ y : Nat, y ≤ hh ∧ i = .int .i64 y ∧ a = .int .i64 (tot mf ww y)) (fun _ i => hh - (intOf i).toNat)
    case atStart => exact ⟨0, by omega, rfl, rfl⟩
    case round =>
      obtain ⟨y, hy, rfl, rfl⟩ := hrel
      have t1 := tot_bd (f := mf) hy (by omega) p2 (fun y x => by rw [hm1.out]; exact zm.out y x)
      by_cases hlt : y < hh
      · have k1 := Hrow.out y hlt
        go_wp2_with fail
        go_loop [3, 5] (fun a i => ∃ x : Nat, x ≤ ww ∧ i = .int .i64 x ∧ a = .int .i64 (tot mf ww y + s1 (mf y) x)) (fun _ i => ww - (intOf i).toNat)
        case atStart => exact ⟨0, by omega, rfl, by simp [s1]⟩
        case round =>
          obtain ⟨x, hx, rfl, rfl⟩ := hrel
          have t3 := s1_le10 (g := mf y) (m := 1) (k := x) (by omega) (by omega) (fun j _ => by rw [hm1.out]; exact zm.out y j)
          by_cases hxl : x < ww
          · have k3 := Hcell.out y x hlt hxl
            have e3 : Hid (s1 (mf y) (x + 1) = s1 (mf y) x + mf y x) := rfl
            by_cases hp : 0 ≤ g2 rows y x
            · have e1 := hide (show mf y x = 1 from by rw [hm1.out]; simp [oneB, hp])
              go_wp2_with fail
              go_round
              case rel => exact ⟨x + 1, by omega, by go_num, by rw [e3.out, e1.out]; go_num⟩
              case measure => simp [intOf]; omega
            · have e1 := hide (show mf y x = 0 from by rw [hm1.out]; simp [oneB, hp])
              go_wp2_with fail
              go_round
              case rel => exact ⟨x + 1, by omega, by go_num, by rw [e3.out, e1.out]; go_num⟩
              case measure => simp [intOf]; omega
          · obtain rfl : x = ww := by omega
            go_wp2_with fail
            go_round
            case rel => exact ⟨y + 1, by omega, by go_num, by rw [tot_succ]⟩
            case measure => simp [intOf]; omega
      · obtain rfl : y = hh := by omega
        have hM' := hide hM.out.symm
        rw [hM'.out]
        go_wp2_with fail
        go_loopw [6] (fun i wr => ∃ r m : Nat, r ≤ 51 ∧ i = .int .i64 r ∧ wr = w.drewN m ∧ Hid (∀ j : Nat, j < r → (manned rows == seeing rows (j : Int)) = false)) (fun i _ => 51 - (intOf i).toNat)
        case atStart => exact ⟨0, _, by omega, rfl, rfl, fun j hj => absurd hj (by omega)⟩
        case round =>
          obtain ⟨r, m, hr, rfl, rfl, hall⟩ := hrel
          by_cases hlt : r < 51
          · have Km := hide (K2.out m r (by omega))
            cases he : (manned rows == seeing rows (r : Int)) with
            | true =>
              have hfin := hide (firstR_yes (c := fun r => manned rows == seeing rows (r : Int)) hlt he hall.out)
              have he' : (seeing rows (r : Int) == manned rows) = true := by rw [beq_iff_eq] at he ⊢; exact he.symm
              clear he
              go_wp2_with (go_at_call 19; refine (unhide Km).mono ?_; rintro e w' ⟨rfl, m', rfl⟩)
              go_ret
              exact ⟨ret_int (by rw [hf.out, hfin.out]), _, rfl⟩
            | false =>
              have hall' : Hid (∀ j : Nat, j < r + 1 → (manned rows == seeing rows (j : Int)) = false) := fun j hj => by
                rcases Nat.lt_or_ge j r with h | h
                · exact hall.out j h
                · obtain rfl : j = r := by omega
                  exact he
              have he' : (seeing rows (r : Int) == manned rows) = false := by rw [beq_eq_false_iff_ne] at he ⊢; exact fun h => he h.symm
              clear he
              go_wp2_with (go_at_call 19; refine (unhide Km).mono ?_; rintro e w' ⟨rfl, m', rfl⟩)
              go_roundw
              case rel => exact ⟨r + 1, _, by omega, by go_num, rfl, hall'⟩
              case measure => simp [intOf]; omega
          · obtain rfl : r = 51 := by omega
            have hfin := hide (firstR_no (c := fun r => manned rows == seeing rows (r : Int)) hall.out)
            go_wp2_with fail
            go_ret
            exact ⟨ret_int (by rw [hf.out, hfin.out]), _, rfl⟩

theorem impl_CountSeeing (v : Value) (rows : List (List Int)) (rise : Int) (w : World) (h : RdM w v rows) (hl : OkM rows) (_ : I64 rise) :
    Calls Try.prog 20 #[v, .int .i64 rise] w fun e w' => e = .returned (.int .i64 (countS rows rise)) ∧ Nx w w' := calls_nx (implQ_CountSeeing v rows rise w h hl)
theorem spec_CountSeeing (v : Value) (rows : List (List Int)) (rise : Int) (w : World) (h : RdM w v rows) (hl : OkM rows) (_ : I64 rise) :
    Calls Try.prog 19 #[v, .int .i64 rise] w fun e w' => e = .returned (.int .i64 (countS rows rise)) ∧ Nx w w' := calls_nx (specQ_CountSeeing v rows rise w h hl)
theorem impl_LeastRise (v : Value) (rows : List (List Int)) (w : World) (h : RdM w v rows) (hl : OkM rows) :
    Calls Try.prog 24 #[v] w fun e w' => e = .returned (.int .i64 (leastR rows)) ∧ Nx w w' := calls_nx (implQ_LeastRise v rows w h hl)
theorem spec_LeastRise (v : Value) (rows : List (List Int)) (w : World) (h : RdM w v rows) (hl : OkM rows) :
    Calls Try.prog 27 #[v] w fun e w' => e = .returned (.int .i64 (leastR rows)) ∧ Nx w w' := calls_nx (specQ_LeastRise v rows w h hl)

end Go.Proofs.Ytkjclpbemdilbaa
