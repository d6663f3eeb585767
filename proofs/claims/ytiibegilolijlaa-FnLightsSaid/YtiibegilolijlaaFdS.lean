/- FadesOk: spec. -/
import Derived.Test.YtiibegilolijlaaFdP
import Derived.WalkKit
import Derived.ProofKit
import Derived.Handy
import Derived.OpenShut
import Derived.ShutString
import Derived.ChangeOld
import Derived.Below
import Derived.BigQuiet
import Derived.Deep.QuietTactic
import Derived.Deep.Draws
import Derived.Deep.DeepCutAuto
import Derived.Deep.DeepFit
import Derived.Deep.LoopGhost
import Derived.Outline
import Derived.WalkSpells
import Derived.WalkLawsBesides
import Derived.WalkSmall
import Derived.Laws.OwnMore
import Derived.OneCell
import Derived.Laws.Rows
import Derived.Maps.AppendAt
import Derived.StillTailTactics
import Derived.Lib.SmallJoins
import Derived.Deep.RegionWith
import Derived.Deep.RegionHeld3
import Derived.RegionTactic
import Derived.Deep.Matrix
import Derived.Deep.Fields
import Derived.ChangeSame
namespace Go.Proofs.Ytiibegilolijlaa
open Go.RowKit

set_option maxHeartbeats 2000000 in
theorem spec_FadesOk (v : Value) (rows : List (List Int)) (w : World) (h : RdS w v rows) (hl : rows.length ≤ 1048576) :
    Calls Try.prog 10 #[v] w fun e w' => e = .returned (.bool (fadesOk rows)) ∧ Nx w w' := by
  obtain ⟨A, c, hcap, rfl, hx⟩ := h
  have Hx := hide hx
  clear hx
  go_enter Try.func10, Try.ntmps10
  go_wp2_with fail
  go_loopw [3] (fun i wr => ∃ k : Nat, k ≤ rows.length ∧ i = .int .i64 k ∧ Nx w wr ∧ Hid (∀ j, j < k → fadeAt rows j = true)) (fun i _ => rows.length - (intOf i).toNat)
  case atStart => exact ⟨0, Nat.zero_le _, rfl, Below.refl _ _, fun j hj => absurd hj (by omega)⟩
  case round =>
    obtain ⟨k, hk, rfl, hb, hall⟩ := hrel
    by_cases hlt : k < rows.length
    · obtain ⟨b0, off, rfl, hb0, hc⟩ := Hx.out (by omega)
      have hc0 : wr.cell? ⟨b0, off + k * 4, none⟩ = some (.int .i64 (fd rows k 0)) := (hb.cell (p := ⟨b0, off + k * 4, none⟩) hb0).trans (hc k 0 hlt (by omega))
      have hc1 : wr.cell? ⟨b0, off + k * 4 + 1, none⟩ = some (.int .i64 (fd rows k 1)) := (hb.cell (p := ⟨b0, off + k * 4 + 1, none⟩) hb0).trans (hc k 1 hlt (by omega))
      have hc2 : wr.cell? ⟨b0, off + k * 4 + 2, none⟩ = some (.int .i64 (fd rows k 2)) := (hb.cell (p := ⟨b0, off + k * 4 + 2, none⟩) hb0).trans (hc k 2 hlt (by omega))
      have hc3 : wr.cell? ⟨b0, off + k * 4 + 3, none⟩ = some (.int .i64 (fd rows k 3)) := (hb.cell (p := ⟨b0, off + k * 4 + 3, none⟩) hb0).trans (hc k 3 hlt (by omega))
      have hk1 : (k : Int) < (rows.length : Int) := by omega
      have hsz := hb.size
      have Hc := hide hc
      have Hb := hide hb
      clear hc hb Hx
      cases g0 : inR (fd rows k 0) 0 7 with
      | false =>
        have hf := hide (fadesOk_bad hlt (fadeAt_bad (by simp [fdOk, g0])))
        go_wp2_with (go_at_call 27; refine (l01In_any _ _ _ _).mono ?_; rintro e w' ⟨rfl, rfl⟩)
        go_ret
        exact ⟨ret_bool hf.out.symm, Hb.out.trans (by go_grown)⟩
      | true =>
      cases g2 : inR (fd rows k 2) 0 1000 with
      | false =>
        have hf := hide (fadesOk_bad hlt (fadeAt_bad (by simp [fdOk, g2])))
        go_wp2_with (go_at_call 27; refine (l01In_any _ _ _ _).mono ?_; rintro e w' ⟨rfl, rfl⟩)
        go_ret
        exact ⟨ret_bool hf.out.symm, Hb.out.trans (by go_grown)⟩
      | true =>
      cases g1 : inR (fd rows k 1) 0 (fd rows k 2) with
      | false =>
        have hf := hide (fadesOk_bad hlt (fadeAt_bad (by simp [fdOk, g1])))
        go_wp2_with (go_at_call 27; refine (l01In_any _ _ _ _).mono ?_; rintro e w' ⟨rfl, rfl⟩)
        go_ret
        exact ⟨ret_bool hf.out.symm, Hb.out.trans (by go_grown)⟩
      | true =>
      cases g3 : inR (fd rows k 3) 0 100 with
      | false =>
        have hf := hide (fadesOk_bad hlt (fadeAt_bad (by simp [fdOk, g3])))
        go_wp2_with (go_at_call 27; refine (l01In_any _ _ _ _).mono ?_; rintro e w' ⟨rfl, rfl⟩)
        go_ret
        exact ⟨ret_bool hf.out.symm, Hb.out.trans (by go_grown)⟩
      | true =>
        have hok := hide (show fdOk rows k = true from by simp [fdOk, g0, g1, g2, g3])
        go_wp2_with (go_at_call 27; refine (l01In_any _ _ _ _).mono ?_; rintro e w' ⟨rfl, rfl⟩)
        clear g0 g1 g2 g3
        go_loopw [5] (fun q wq => ∃ i m : Nat, i ≤ k ∧ q = .int .i64 i ∧ wq = (wr.alloc (.cells #[.int .i64 (fd rows k 0), .int .i64 (fd rows k 1), .int .i64 (fd rows k 2), .int .i64 (fd rows k 3)] 38)).drewN m ∧ Hid (∀ j, j < i → clash rows k j = false)) (fun q _ => k - (intOf q).toNat)
        case atStart => exact ⟨0, 0, Nat.zero_le _, rfl, rfl, fun j hj => absurd hj (by omega)⟩
        case round =>
          obtain ⟨i, m, hi, rfl, rfl, hcl⟩ := hrel
          by_cases hik : i < k
          · have hd0 : wr.cell? ⟨b0, off + i * 4, none⟩ = some (.int .i64 (fd rows i 0)) := (Hb.out.cell (p := ⟨b0, off + i * 4, none⟩) hb0).trans (Hc.out i 0 (by omega) (by omega))
            have hd2 : wr.cell? ⟨b0, off + i * 4 + 2, none⟩ = some (.int .i64 (fd rows i 2)) := (Hb.out.cell (p := ⟨b0, off + i * 4 + 2, none⟩) hb0).trans (Hc.out i 2 (by omega) (by omega))
            have hi1 : (i : Int) < (rows.length : Int) := by omega
            have hbn : ∀ o, (wr.alloc (.cells #[.int .i64 (fd rows k 0), .int .i64 (fd rows k 1), .int .i64 (fd rows k 2), .int .i64 (fd rows k 3)] 38)).cell? ⟨b0, o, none⟩ = wr.cell? ⟨b0, o, none⟩ := fun o => World.cell?_alloc_lt wr _ ⟨b0, o, none⟩ (by show b0 < _; omega)
            by_cases e0 : fd rows i 0 = fd rows k 0
            · have e0' : (fd rows i 0 == fd rows k 0) = true := by simpa using e0
              by_cases e2 : fd rows k 1 < fd rows i 2
              · have hf := hide (fadesOk_bad hlt (fadeAt_clash hik e0 e2))
                have E0 := hide e0
                clear e0
                go_wp2_with fail
                go_quiet (fail)
                go_wp2_with fail
                go_ret
                exact ⟨ret_bool hf.out.symm, Nx.drewN (Nx.drewN (Hb.out.trans (Nx.made _ _)) _) _⟩
              · have hn := hide (clash_no (rows := rows) (k := k) (i := i) (fun h => e2 h.2))
                have E0 := hide e0
                clear e0
                go_wp2_with fail
                go_quiet (fail)
                go_wp2_with fail
                go_roundw
                case rel => exact ⟨i + 1, _, by omega, by go_num, rfl, fun j hj => by
                  rcases Nat.lt_or_ge j i with h | h
                  · exact hcl.out j h
                  · obtain rfl : j = i := by omega
                    exact hn.out⟩
                case measure => simp [intOf]; omega
            · have e0' : (fd rows i 0 == fd rows k 0) = false := by simpa using e0
              have hn := hide (clash_no (rows := rows) (k := k) (i := i) (fun h => e0 h.1))
              go_wp2_with fail
              go_quiet (fail)
              go_wp2_with fail
              go_roundw
              case rel => exact ⟨i + 1, _, by omega, by go_num, rfl, fun j hj => by
                rcases Nat.lt_or_ge j i with h | h
                · exact hcl.out j h
                · obtain rfl : j = i := by omega
                  exact hn.out⟩
              case measure => simp [intOf]; omega
          · obtain rfl : i = k := by omega
            have hat := hide (fadeAt_of hok.out hcl.out)
            go_wp2_with fail
            go_roundw
            case rel => exact ⟨i + 1, by omega, by go_num, Nx.drewN (Hb.out.trans (Nx.made _ _)) _, fun j hj => by
              rcases Nat.lt_or_ge j i with h | h
              · exact hall.out j h
              · obtain rfl : j = i := by omega
                exact hat.out⟩
            case measure => simp [intOf]; omega
    · obtain rfl : k = rows.length := by omega
      have hf := hide (show fadesOk rows = decide ((rows.length : Int) ≤ 20) from by
        rw [fadesOk_all hall.out]
        rw [Bool.eq_iff_iff]; simp; omega)
      go_wp2_with fail
      go_ret
      exact ⟨ret_bool hf.out.symm, hb⟩

end Go.Proofs.Ytiibegilolijlaa
