/- HasShortcuts: spec. -/
import Derived.Test.YtemijekdcifncaaShI
import Derived.WalkKit
import Derived.ProofKit
import Derived.Handy
import Derived.OpenShut
import Derived.ShutString
import Derived.ChangeOld
import Derived.Below
import Derived.BigQuiet
import Derived.Deep.QuietTactic
import Derived.Deep.Draws
import Derived.Deep.DeepCutAuto
import Derived.Deep.DeepFit
import Derived.Deep.LoopGhost
import Derived.Outline
import Derived.WalkSpells
import Derived.WalkLawsBesides
import Derived.WalkSmall
import Derived.Laws.OwnMore
import Derived.OneCell
import Derived.Laws.Rows
import Derived.Maps.AppendAt
import Derived.StillTailTactics
import Derived.Lib.SmallJoins
import Derived.Deep.RegionWith
import Derived.Deep.RegionHeld3
import Derived.RegionTactic
import Derived.Deep.Matrix
import Derived.Deep.Fields
import Derived.ChangeSame
namespace Go.Proofs.Ytemijekdcifncaa
open Go.RowKit

set_option maxRecDepth 100000 in
set_option maxHeartbeats 4000000 in
theorem spec_HasShortcuts (v : Value) (rows : List (List Int)) (w : World) (h : RdM w v rows) (hl : OkM rows) :
    Calls Try.prog 21 #[v] w fun e w' => e = .returned (.bool (hasShort rows)) ∧ Nx w w' := by
  have hv := hide h
  obtain ⟨A, c, rfl, hx⟩ := h
  have hn := hl.1
  clear hx
  have hcall := hide (fun m => specQ_MapOk _ rows (w.drewN m) (hv.out.below (Nx.drewN (Below.refl _ _) _)) hl)
  go_enter Try.func21, Try.ntmps21
  go_wp2_with fail
  go_loopw [3] (fun i wr => ∃ x m : Nat, x ≤ 343 ∧ i = .int .i64 x ∧ wr = w.drewN m ∧ Hid (mapOk rows = true → ∀ y, y < x → y / 49 < rows.length → y / 7 % 7 < rows.length → y % 7 < rows.length → g2 rows (y / 49) (y % 7) ≤ g2 rows (y / 49) (y / 7 % 7) + g2 rows (y / 7 % 7) (y % 7))) (fun i _ => 343 - (intOf i).toNat)
  case atStart => exact ⟨0, 0, Nat.zero_le _, rfl, rfl, fun _ j hj => absurd hj (by omega)⟩
  case round =>
    obtain ⟨x, m, hx, rfl, rfl, hdone⟩ := hrel
    by_cases hlt : x < 343
    · go_wp2_with (go_at_call 17; fail)
      refine (hcall.out m).mono ?_
      rintro e w1 ⟨rfl, m1, rfl⟩
      rw [World.drewN_drewN]
      generalize m + m1 = m2
      cases h1 : mapOk rows with
      | false =>
        have hf := hide (show hasShort rows = false from by simp [hasShort, h1])
        go_wp2_with fail
        go_ret
        exact ⟨ret_bool hf.out.symm, Nx.drewN (Below.refl _ _) _⟩
      | true =>
        have hP := mapOk_iff.1 h1
        have hf := hide (show hasShort rows = anyShort rows from by simp [hasShort, h1])
        have hlen := hP.len
        obtain ⟨b, o, c1, rb, ro, rc, e1, hr1, hr2⟩ := hv.out.sq rfl hP.2.1 (by omega)
        injection e1 with e2 e3 e4
        subst e2 e4
        clear e3
        have Hr1 := hide hr1
        have Hr2 := hide hr2
        have Hbd := hide hP.bd
        have Hdone := hide (hdone.out h1)
        clear hr1 hr2 h1 hP
        have ei : (x : Int) / 49 = ((x / 49 : Nat) : Int) := by omega
        have ej : (x : Int) / 7 % 7 = ((x / 7 % 7 : Nat) : Int) := by omega
        have ek : (x : Int) % 7 = ((x % 7 : Nat) : Int) := by omega
        have Ei := hide ei
        have Ej := hide ej
        have Ek := hide ek
        clear ei ej ek
        have H343 : Hid (x < 343 → x / 49 < 7) := fun h => by omega
        generalize hI : x / 49 = I at *
        generalize hX : x / 7 = X7 at *
        generalize hJ : X7 % 7 = J at *
        generalize hK : x % 7 = K at *
        by_cases gI : I < rows.length
        · by_cases gJ : J < rows.length
          · by_cases gK : K < rows.length
            · have ci := Hr1.out I gI
              have cj := Hr1.out J gJ
              have cij := Hr2.out I J gI gJ
              have cjk := Hr2.out J K gJ gK
              have cik := Hr2.out I K gI gK
              have bij := Hbd.out I J gI gJ
              have bjk := Hbd.out J K gJ gK
              have di : decide ((I : Int) < (rows.length : Int)) = true := decide_eq_true (by omega)
              have dj : decide ((J : Int) < (rows.length : Int)) = true := decide_eq_true (by omega)
              have dk : decide ((K : Int) < (rows.length : Int)) = true := decide_eq_true (by omega)
              have hib : (I : Int) < (rows.length : Int) := by omega
              have hjb : (J : Int) < (rows.length : Int) := by omega
              have hkb : (K : Int) < (rows.length : Int) := by omega
              by_cases hs : g2 rows I J + g2 rows J K < g2 rows I K
              · have hf2 := hide (hf.out.trans (anyShort_true gI gJ gK hs))
                generalize g2 rows I J = a1 at *
                generalize g2 rows J K = a2 at *
                generalize g2 rows I K = a3 at *
                have hwr := IntWalk.i64_in (a1 + a2) (by omega)
                go_wp2_with fail
                rw [Ei.out, Ej.out, Ek.out]
                go_quiet (fail)
                go_wp2
                go_ret
                exact ⟨ret_bool hf2.out.symm, Nx.drewN (Nx.drewN (Below.refl _ _) _) _⟩
              · have R : Hid (mapOk rows = true → ∀ y, y < x + 1 → y / 49 < rows.length → y / 7 % 7 < rows.length → y % 7 < rows.length → g2 rows (y / 49) (y % 7) ≤ g2 rows (y / 49) (y / 7 % 7) + g2 rows (y / 7 % 7) (y % 7)) := fun _ y hy h1 h2 h3 => by
                  rcases Nat.lt_or_ge y x with h | h
                  · exact Hdone.out y h h1 h2 h3
                  · obtain rfl : y = x := by omega
                    rw [hI, hX, hJ, hK]; omega
                generalize g2 rows I J = a1 at *
                generalize g2 rows J K = a2 at *
                generalize g2 rows I K = a3 at *
                have hwr := IntWalk.i64_in (a1 + a2) (by omega)
                go_wp2_with fail
                rw [Ei.out, Ej.out, Ek.out]
                go_quiet (fail)
                go_wp2
                go_roundw
                case rel => exact ⟨x + 1, _, by omega, by go_num, rfl, R⟩
                case measure => simp [intOf]; omega
            · have R : Hid (mapOk rows = true → ∀ y, y < x + 1 → y / 49 < rows.length → y / 7 % 7 < rows.length → y % 7 < rows.length → g2 rows (y / 49) (y % 7) ≤ g2 rows (y / 49) (y / 7 % 7) + g2 rows (y / 7 % 7) (y % 7)) := fun _ y hy h1 h2 h3 => by
                rcases Nat.lt_or_ge y x with h | h
                · exact Hdone.out y h h1 h2 h3
                · obtain rfl : y = x := by omega
                  omega
              go_wp2_with fail
              rw [Ei.out, Ej.out, Ek.out]
              have di : decide ((I : Int) < (rows.length : Int)) = true := decide_eq_true (by omega)
              have dj : decide ((J : Int) < (rows.length : Int)) = true := decide_eq_true (by omega)
              have dk : decide ((K : Int) < (rows.length : Int)) = false := decide_eq_false (by omega)
              go_quiet (fail)
              go_wp2
              go_roundw
              case rel => exact ⟨x + 1, _, by omega, by go_num, rfl, R⟩
              case measure => simp [intOf]; omega
          · have R : Hid (mapOk rows = true → ∀ y, y < x + 1 → y / 49 < rows.length → y / 7 % 7 < rows.length → y % 7 < rows.length → g2 rows (y / 49) (y % 7) ≤ g2 rows (y / 49) (y / 7 % 7) + g2 rows (y / 7 % 7) (y % 7)) := fun _ y hy h1 h2 h3 => by
              rcases Nat.lt_or_ge y x with h | h
              · exact Hdone.out y h h1 h2 h3
              · obtain rfl : y = x := by omega
                omega
            go_wp2_with fail
            rw [Ei.out, Ej.out, Ek.out]
            have di : decide ((I : Int) < (rows.length : Int)) = true := decide_eq_true (by omega)
            have dj : decide ((J : Int) < (rows.length : Int)) = false := decide_eq_false (by omega)
            go_quiet (fail)
            go_wp2
            go_roundw
            case rel => exact ⟨x + 1, _, by omega, by go_num, rfl, R⟩
            case measure => simp [intOf]; omega
        · have R : Hid (mapOk rows = true → ∀ y, y < x + 1 → y / 49 < rows.length → y / 7 % 7 < rows.length → y % 7 < rows.length → g2 rows (y / 49) (y % 7) ≤ g2 rows (y / 49) (y / 7 % 7) + g2 rows (y / 7 % 7) (y % 7)) := fun _ y hy h1 h2 h3 => by
            rcases Nat.lt_or_ge y x with h | h
            · exact Hdone.out y h h1 h2 h3
            · obtain rfl : y = x := by omega
              omega
          go_wp2_with fail
          rw [Ei.out, Ej.out, Ek.out]
          have di : decide ((I : Int) < (rows.length : Int)) = false := decide_eq_false (by omega)
          go_quiet (fail)
          go_wp2
          go_roundw
          case rel => exact ⟨x + 1, _, by omega, by go_num, rfl, R⟩
          case measure => simp [intOf]; omega
    · obtain rfl : x = 343 := by omega
      have hf : Hid (hasShort rows = false) := by
        cases h1 : mapOk rows with
        | false => simp [hasShort, h1, Hid]
        | true =>
          have hlen := (mapOk_iff.1 h1).len
          have := anyShort_false (rows := rows) fun i j k hi hj hk => by
            have hh := hdone.out h1 (i * 49 + j * 7 + k) (by omega)
            rw [show (i * 49 + j * 7 + k) / 49 = i from by omega, show (i * 49 + j * 7 + k) / 7 % 7 = j from by omega, show (i * 49 + j * 7 + k) % 7 = k from by omega] at hh
            exact hh hi hj hk
          simp only [hasShort, h1, this, Bool.and_false, Hid]
      go_wp2_with fail
      go_ret
      exact ⟨ret_bool hf.out.symm, Nx.drewN (Below.refl _ _) _⟩

end Go.Proofs.Ytemijekdcifncaa
