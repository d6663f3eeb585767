/- MapOk: spec. -/
import Derived.Test.YtemijekdcifncaaSq
import Derived.WalkKit
import Derived.ProofKit
import Derived.Handy
import Derived.OpenShut
import Derived.ShutString
import Derived.ChangeOld
import Derived.Below
import Derived.BigQuiet
import Derived.Deep.QuietTactic
import Derived.Deep.Draws
import Derived.Deep.DeepCutAuto
import Derived.Deep.DeepFit
import Derived.Deep.LoopGhost
import Derived.Outline
import Derived.WalkSpells
import Derived.WalkLawsBesides
import Derived.WalkSmall
import Derived.Laws.OwnMore
import Derived.OneCell
import Derived.Laws.Rows
import Derived.Maps.AppendAt
import Derived.StillTailTactics
import Derived.Lib.SmallJoins
import Derived.Deep.RegionWith
import Derived.Deep.RegionHeld3
import Derived.RegionTactic
import Derived.Deep.Matrix
import Derived.Deep.Fields
import Derived.ChangeSame
namespace Go.Proofs.Ytemijekdcifncaa
open Go.RowKit

set_option maxRecDepth 100000 in
set_option maxHeartbeats 4000000 in
theorem specQ_MapOk (v : Value) (rows : List (List Int)) (w : World) (h : RdM w v rows) (hl : OkM rows) :
    Calls Try.prog 17 #[v] w fun e w' => e = .returned (.bool (mapOk rows)) ∧ ∃ m, w' = w.drewN m := by
  have hv := hide h
  obtain ⟨A, c, rfl, hx⟩ := h
  have hn := hl.1
  have hrow := hide (fun i hi => hl.row (i := i) hi)
  clear hl
  cases h1 : inR (rows.length : Int) 2 7 with
  | false =>
    have hf := hide (mapOk_false (rows := rows) fun ht => by rw [ht.1] at h1; cases h1)
    clear hx
    go_enter Try.func17, Try.ntmps17
    go_wp2_with (go_at_call 34; refine (l01In_any _ _ _ _).mono ?_; rintro e w' ⟨rfl, rfl⟩)
    go_ret
    exact ⟨ret_bool hf.out.symm, 0, rfl⟩
  | true =>
    have b1 := inR_iff.1 h1
    have hn1 : 0 < rows.length := by omega
    clear b1
    obtain ⟨b0, off, rfl, hb0, hc⟩ := hx hn1
    have Hc := hide hc
    clear hc hx
    go_enter Try.func17, Try.ntmps17
    go_wp2_with (go_at_call 34; refine (l01In_any _ _ _ _).mono ?_; rintro e w' ⟨rfl, rfl⟩)
    have H1 := hide h1
    clear h1
    go_loop [4] (fun i => ∃ k : Nat, k ≤ rows.length ∧ i = .int .i64 k ∧ Hid (∀ j, j < k → (rowAt rows j).length = rows.length)) (fun i => rows.length - (intOf i).toNat)
    case atStart => exact ⟨0, Nat.zero_le _, rfl, fun j hj => absurd hj (by omega)⟩
    case round =>
      obtain ⟨k, hk, rfl, hall⟩ := hrel
      by_cases hlt : k < rows.length
      · obtain ⟨A2, c2, hck, hrr⟩ := Hc.out k hlt
        have hwk := hrow.out k hlt
        clear hrr
        by_cases hle : (rowAt rows k).length = rows.length
        · have R : Hid (∀ j, j < k + 1 → (rowAt rows j).length = rows.length) := fun j hj => by
            rcases Nat.lt_or_ge j k with h | h
            · exact hall.out j h
            · obtain rfl : j = k := by omega
              exact hle
          rw [hle] at hck
          clear hle hwk
          go_wp2_with fail
          go_round
          case rel => exact ⟨k + 1, by omega, by go_num, R⟩
          case measure => simp [intOf]; omega
        · have hf := hide (mapOk_false (rows := rows) fun ht => hle (ht.2.1 k hlt))
          have d1 : (((rowAt rows k).length : Int) != (rows.length : Int)) = true := by simp; omega
          have d2 : ((rowAt rows k).length != rows.length) = true := by simp; omega
          have d3 : (((rowAt rows k).length : Int) == (rows.length : Int)) = false := by simp; omega
          have d4 : ((rowAt rows k).length == rows.length) = false := by simp; omega
          go_wp2_with fail
          go_ret
          exact ⟨ret_bool hf.out.symm, 0, rfl⟩
      · obtain rfl : k = rows.length := by omega
        obtain ⟨b, o, c1, rb, ro, rc, e1, hr1, hr2⟩ := hv.out.sq rfl hall.out hn1
        injection e1 with e2 e3 e4
        injection e2 with e2
        injection e2 with e5 e6
        subst e5 e6 e4
        clear e3
        have Hr1 := hide hr1
        have Hr2 := hide hr2
        have hall2 := hide hall.out
        clear hr1 hr2 hall
        go_wp2_with fail
        go_loopw [5] (fun i wr => ∃ k m : Nat, k ≤ rows.length ∧ i = .int .i64 k ∧ wr = w.drewN m ∧ Hid (∀ j, j < k → ∀ x, x < rows.length → inR (g2 rows j x) 0 1000 = true ∧ g2 rows j x = g2 rows x j ∧ (j = x → g2 rows j x = 0))) (fun i _ => rows.length - (intOf i).toNat)
        case atStart => exact ⟨0, 0, Nat.zero_le _, rfl, rfl, fun j hj => absurd hj (by omega)⟩
        case round =>
          obtain ⟨i, m, hi, rfl, rfl, hdone⟩ := hrel
          by_cases hil : i < rows.length
          · go_wp2_with fail
            go_loopw [6] (fun q wr => ∃ k m : Nat, k ≤ rows.length ∧ q = .int .i64 k ∧ wr = w.drewN m ∧ Hid (∀ x, x < k → inR (g2 rows i x) 0 1000 = true ∧ g2 rows i x = g2 rows x i ∧ (i = x → g2 rows i x = 0))) (fun i _ => rows.length - (intOf i).toNat)
            case atStart => exact ⟨0, m, Nat.zero_le _, rfl, rfl, fun j hj => absurd hj (by omega)⟩
            case round =>
              obtain ⟨k, m, hk, rfl, rfl, hin⟩ := hrel
              by_cases hkl : k < rows.length
              · have ci := Hr1.out i hil
                have ck := Hr1.out k hkl
                have cik := Hr2.out i k hil hkl
                have cki := Hr2.out k i hkl hil
                have hib : (i : Int) < (rows.length : Int) := by omega
                have hkb : (k : Int) < (rows.length : Int) := by omega
                cases g1 : inR (g2 rows i k) 0 1000 with
                | false =>
                  have hf := hide (mapOk_false (rows := rows) fun ht => by rw [(ht.2.2 i k hil hkl).1] at g1; cases g1)
                  generalize g2 rows i k = a at *
                  generalize g2 rows k i = b at *
                  go_wp2_with fail
                  go_quiet ((go_at_call 34; exact quiet_add_left (l01In_any _ _ _ _)))
                  go_wp2
                  go_ret
                  exact ⟨ret_bool hf.out.symm, _, World.drewN_drewN _ _ _⟩
                | true =>
                  by_cases g3 : g2 rows i k = g2 rows k i
                  · by_cases g4 : i = k
                    · have d5 : ((i : Int) == (k : Int)) = true := by simp; omega
                      by_cases g5 : g2 rows i k = 0
                      · have R : Hid (∀ x, x < k + 1 → inR (g2 rows i x) 0 1000 = true ∧ g2 rows i x = g2 rows x i ∧ (i = x → g2 rows i x = 0)) := fun x hx => by
                          rcases Nat.lt_or_ge x k with h | h
                          · exact hin.out x h
                          · obtain rfl : x = k := by omega
                            exact ⟨g1, g3, fun _ => g5⟩
                        generalize g2 rows i k = a at *
                        generalize g2 rows k i = b at *
                        have d6 : (a != b) = false := by simp; omega
                        have d7 : (a != 0) = false := by simp; omega
                        clear g3 g4 g5
                        go_wp2_with fail
                        go_quiet ((go_at_call 34; exact quiet_add_left (l01In_any _ _ _ _)))
                        go_wp2
                        go_roundw
                        case rel => exact ⟨k + 1, _, by omega, by go_num, rfl, R⟩
                        case measure => simp [intOf]; omega
                      · have hf := hide (mapOk_false (rows := rows) fun ht => g5 ((ht.2.2 i k hil hkl).2.2 g4))
                        generalize g2 rows i k = a at *
                        generalize g2 rows k i = b at *
                        have d6 : (a != b) = false := by simp; omega
                        have d7 : (a != 0) = true := by simp; omega
                        clear g3 g4 g5
                        go_wp2_with fail
                        go_quiet ((go_at_call 34; exact quiet_add_left (l01In_any _ _ _ _)))
                        go_wp2
                        go_ret
                        exact ⟨ret_bool hf.out.symm, _, World.drewN_drewN _ _ _⟩
                    · have d5 : ((i : Int) == (k : Int)) = false := by simp; omega
                      have R : Hid (∀ x, x < k + 1 → inR (g2 rows i x) 0 1000 = true ∧ g2 rows i x = g2 rows x i ∧ (i = x → g2 rows i x = 0)) := fun x hx => by
                        rcases Nat.lt_or_ge x k with h | h
                        · exact hin.out x h
                        · obtain rfl : x = k := by omega
                          exact ⟨g1, g3, fun e => absurd e g4⟩
                      generalize g2 rows i k = a at *
                      generalize g2 rows k i = b at *
                      have d6 : (a != b) = false := by simp; omega
                      clear g3 g4
                      go_wp2_with fail
                      go_quiet ((go_at_call 34; exact quiet_add_left (l01In_any _ _ _ _)))
                      go_wp2
                      go_roundw
                      case rel => exact ⟨k + 1, _, by omega, by go_num, rfl, R⟩
                      case measure => simp [intOf]; omega
                  · have hf := hide (mapOk_false (rows := rows) fun ht => g3 (ht.2.2 i k hil hkl).2.1)
                    generalize g2 rows i k = a at *
                    generalize g2 rows k i = b at *
                    have d6 : (a != b) = true := by simp; omega
                    clear g3
                    go_wp2_with fail
                    go_quiet ((go_at_call 34; exact quiet_add_left (l01In_any _ _ _ _)))
                    go_wp2
                    go_ret
                    exact ⟨ret_bool hf.out.symm, _, World.drewN_drewN _ _ _⟩
              · obtain rfl : k = rows.length := by omega
                have R : Hid (∀ j, j < i + 1 → ∀ x, x < rows.length → inR (g2 rows j x) 0 1000 = true ∧ g2 rows j x = g2 rows x j ∧ (j = x → g2 rows j x = 0)) := fun j hj x hx => by
                  rcases Nat.lt_or_ge j i with h | h
                  · exact hdone.out j h x hx
                  · obtain rfl : j = i := by omega
                    exact hin.out x hx
                go_wp2_with fail
                go_roundw
                case rel => exact ⟨i + 1, _, by omega, by go_num, rfl, R⟩
                case measure => simp [intOf]; omega
          · obtain rfl : i = rows.length := by omega
            have hf := hide (mapOk_iff.2 ⟨H1.out, hall2.out, fun i k hi hk => hdone.out i hi k hk⟩)
            go_wp2_with fail
            go_ret
            exact ⟨ret_bool hf.out.symm, _, rfl⟩
theorem spec_MapOk (v : Value) (rows : List (List Int)) (w : World) (h : RdM w v rows) (hl : OkM rows) :
    Calls Try.prog 17 #[v] w fun e w' => e = .returned (.bool (mapOk rows)) ∧ Nx w w' := calls_nx (specQ_MapOk v rows w h hl)

end Go.Proofs.Ytemijekdcifncaa
