/- MapOk: impl. -/
import Derived.Test.YtemijekdcifncaaSq
import Derived.WalkKit
import Derived.ProofKit
import Derived.Handy
import Derived.OpenShut
import Derived.ShutString
import Derived.ChangeOld
import Derived.Below
import Derived.BigQuiet
import Derived.Deep.QuietTactic
import Derived.Deep.Draws
import Derived.Deep.DeepCutAuto
import Derived.Deep.DeepFit
import Derived.Deep.LoopGhost
import Derived.Outline
import Derived.WalkSpells
import Derived.WalkLawsBesides
import Derived.WalkSmall
import Derived.Laws.OwnMore
import Derived.OneCell
import Derived.Laws.Rows
import Derived.Maps.AppendAt
import Derived.StillTailTactics
import Derived.Lib.SmallJoins
import Derived.Deep.RegionWith
import Derived.Deep.RegionHeld3
import Derived.RegionTactic
import Derived.Deep.Matrix
import Derived.Deep.Fields
import Derived.ChangeSame
namespace Go.Proofs.Ytemijekdcifncaa
open Go.RowKit

set_option maxRecDepth 100000 in
set_option maxHeartbeats 4000000 in
theorem implQ_MapOk (v : Value) (rows : List (List Int)) (w : World) (h : RdM w v rows) (hl : OkM rows) :
    Calls Try.prog 19 #[v] w fun e w' => e = .returned (.bool (mapOk rows)) ∧ ∃ m, w' = w.drewN m := by
  obtain ⟨A, c, rfl, hx⟩ := h
  have hn := hl.1
  have hrow := hide (fun i hi => hl.row (i := i) hi)
  clear hl
  cases h1 : inR (rows.length : Int) 2 7 with
  | false =>
    have hf := hide (mapOk_false (rows := rows) fun ht => by rw [ht.1] at h1; cases h1)
    clear hx
    go_enter Try.func19, Try.ntmps19
    go_wp2_with (go_at_call 35; refine (within_any _ _ _ _).mono ?_; rintro e w' ⟨rfl, rfl⟩)
    go_ret
    exact ⟨ret_bool hf.out.symm, 0, rfl⟩
  | true =>
    have b1 := inR_iff.1 h1
    have hn1 : 0 < rows.length := by omega
    clear b1
    obtain ⟨b0, off, rfl, hb0, hc⟩ := hx hn1
    have Hc := hide hc
    clear hc hx
    go_enter Try.func19, Try.ntmps19
    go_wp2_with (go_at_call 35; refine (within_any _ _ _ _).mono ?_; rintro e w' ⟨rfl, rfl⟩)
    have H1 := hide h1
    clear h1
    go_loopw [12] (fun i wr => ∃ k m : Nat, k ≤ rows.length ∧ i = .int .i64 k ∧ wr = w.drewN m ∧ Hid (∀ j, j < k → mapRow rows j)) (fun i _ => rows.length - (intOf i).toNat)
    case atStart => exact ⟨0, 0, Nat.zero_le _, rfl, rfl, fun j hj => absurd hj (by omega)⟩
    case round =>
      obtain ⟨i, m, hi, rfl, rfl, hall⟩ := hrel
      by_cases hil : i < rows.length
      · obtain ⟨A2, c2, hci, hri⟩ := Hc.out i hil
        have hwi := hrow.out i hil
        have Hri := hide hri
        clear hri
        by_cases hle : (rowAt rows i).length = rows.length
        · have hri := Hri.out
          have hr2 := hri
          rw [hle] at hci hri
          have Hri := hide hri
          clear hri
          cases g1 : allW 0 1000 (rowAt rows i) with
          | false =>
            have hf := hide (mapOk_false (rows := rows) fun ht => by
              have : allW 0 1000 (rowAt rows i) = true := allW_of fun x hx => (ht.2.2 i x hil (by omega)).1
              rw [this] at g1
              cases g1)
            have Hw := hide hwi
            clear hle hwi hr2
            go_wp2_with (go_at_call 36; refine (allWithin_any _ _ _ _ _ (RdI.below Hri.out (Nx.drewN (Below.refl _ _) _)) Hw.out).mono ?_; rintro e w' ⟨rfl, rfl⟩)
            go_ret
            exact ⟨ret_bool hf.out.symm, _, rfl⟩
          | true =>
            obtain ⟨A3, c3, e3, hcells⟩ := hr2
            obtain ⟨b1, off1, rfl, hb1, hcx⟩ := hcells (by omega)
            injection e3 with e4 e5 e6
            subst e4
            clear e5 e6
            rw [hle] at hcx
            have hcii : w.cell? ⟨b1, off1 + i, none⟩ = some (.int .i64 (g2 rows i i)) := hcx i hil
            have Hcx : Hid (∀ x, x < rows.length → w.cell? ⟨b1, off1 + x, none⟩ = some (.int .i64 (g2 rows i x))) := hcx
            have Hw := hide hwi
            clear hcells hcx hwi
            by_cases g5 : g2 rows i i = 0
            · rw [g5] at hcii
              have hle' := hide hle
              clear hle
              go_wp2_with (go_at_call 36; refine (allWithin_any _ _ _ _ _ (RdI.below Hri.out (Nx.drewN (Below.refl _ _) _)) Hw.out).mono ?_; rintro e w' ⟨rfl, rfl⟩)
              go_loopw [35] (fun q wr => ∃ k m : Nat, k ≤ i ∧ q = .int .i64 k ∧ wr = w.drewN m ∧ Hid (∀ x, x < k → g2 rows i x = g2 rows x i)) (fun q _ => i - (intOf q).toNat)
              case atStart => exact ⟨0, m, Nat.zero_le _, rfl, rfl, fun j hj => absurd hj (by omega)⟩
              case round =>
                obtain ⟨k, m, hk, rfl, rfl, hin⟩ := hrel
                by_cases hki : k < i
                · have hkl : k < rows.length := by omega
                  obtain ⟨A4, c4, hck, hrk⟩ := Hc.out k hkl
                  have hkrow := (hall.out k hki).1
                  rw [hkrow] at hck
                  obtain ⟨A5, c5, e5, hcells⟩ := hrk
                  obtain ⟨b2, off2, rfl, hb2, hcy⟩ := hcells (by omega)
                  injection e5 with e4 e6 e7
                  subst e4
                  clear e6 e7 hcells
                  have hcki : w.cell? ⟨b2, off2 + i, none⟩ = some (.int .i64 (g2 rows k i)) := hcy i (by omega)
                  have hcik := Hcx.out k hkl
                  have hib : (i : Int) < (rows.length : Int) := by omega
                  have hkb : (k : Int) < (rows.length : Int) := by omega
                  clear hcy hkrow hcii
                  by_cases g3 : g2 rows i k = g2 rows k i
                  · have R : Hid (∀ x, x < k + 1 → g2 rows i x = g2 rows x i) := fun x hx => by
                      rcases Nat.lt_or_ge x k with h | h
                      · exact hin.out x h
                      · obtain rfl : x = k := by omega
                        exact g3
                    generalize g2 rows i k = a at *
                    generalize g2 rows k i = b at *
                    have d6 : (a != b) = false := by simp; omega
                    clear g3
                    go_wp2_with fail
                    go_quiet (fail)
                    go_wp2
                    go_roundw
                    case rel => exact ⟨k + 1, _, by omega, by go_num, rfl, R⟩
                    case measure => simp [intOf]; omega
                  · have hf := hide (mapOk_false (rows := rows) fun ht => g3 (ht.2.2 i k hil hkl).2.1)
                    generalize g2 rows i k = a at *
                    generalize g2 rows k i = b at *
                    have d6 : (a != b) = true := by simp; omega
                    clear g3
                    go_wp2_with fail
                    go_quiet (fail)
                    go_wp2
                    go_ret
                    exact ⟨ret_bool hf.out.symm, _, World.drewN_drewN _ _ _⟩
                · obtain rfl : k = i := by omega
                  have R : Hid (∀ j, j < k + 1 → mapRow rows j) := fun j hj => by
                    rcases Nat.lt_or_ge j k with h | h
                    · exact hall.out j h
                    · obtain rfl : j = k := by omega
                      exact ⟨hle'.out, g1, g5, hin.out⟩
                  go_wp2_with fail
                  go_roundw
                  case rel => exact ⟨k + 1, _, by omega, by go_num, rfl, R⟩
                  case measure => simp [intOf]; omega
            · have hf := hide (mapOk_false (rows := rows) fun ht => g5 ((ht.2.2 i i hil hil).2.2 rfl))
              generalize g2 rows i i = a at *
              have d6 : (a != 0) = true := by simp; omega
              clear g5 hle
              go_wp2_with (go_at_call 36; refine (allWithin_any _ _ _ _ _ (RdI.below Hri.out (Nx.drewN (Below.refl _ _) _)) Hw.out).mono ?_; rintro e w' ⟨rfl, rfl⟩)
              go_ret
              exact ⟨ret_bool hf.out.symm, _, rfl⟩
        · have hf := hide (mapOk_false (rows := rows) fun ht => hle (ht.2.1 i hil))
          have d1 : (((rowAt rows i).length : Int) != (rows.length : Int)) = true := by simp; omega
          have d2 : ((rowAt rows i).length != rows.length) = true := by simp; omega
          have d3 : (((rowAt rows i).length : Int) == (rows.length : Int)) = false := by simp; omega
          have d4 : ((rowAt rows i).length == rows.length) = false := by simp; omega
          go_wp2_with fail
          go_ret
          exact ⟨ret_bool hf.out.symm, _, rfl⟩
      · obtain rfl : i = rows.length := by omega
        have hf := hide (mapOk_iff.2 (map_rows H1.out hall.out))
        go_wp2_with fail
        go_ret
        exact ⟨ret_bool hf.out.symm, _, rfl⟩
theorem impl_MapOk (v : Value) (rows : List (List Int)) (w : World) (h : RdM w v rows) (hl : OkM rows) :
    Calls Try.prog 19 #[v] w fun e w' => e = .returned (.bool (mapOk rows)) ∧ Nx w w' := calls_nx (implQ_MapOk v rows w h hl)

end Go.Proofs.Ytemijekdcifncaa
