/- FadesOk: impl. -/
import Derived.Test.YtiibegilolijlaaFdP
import Derived.WalkKit
import Derived.ProofKit
import Derived.Handy
import Derived.OpenShut
import Derived.ShutString
import Derived.ChangeOld
import Derived.Below
import Derived.BigQuiet
import Derived.Deep.QuietTactic
import Derived.Deep.Draws
import Derived.Deep.DeepCutAuto
import Derived.Deep.DeepFit
import Derived.Deep.LoopGhost
import Derived.Outline
import Derived.WalkSpells
import Derived.WalkLawsBesides
import Derived.WalkSmall
import Derived.Laws.OwnMore
import Derived.OneCell
import Derived.Laws.Rows
import Derived.Maps.AppendAt
import Derived.StillTailTactics
import Derived.Lib.SmallJoins
import Derived.Deep.RegionWith
import Derived.Deep.RegionHeld3
import Derived.RegionTactic
import Derived.Deep.Matrix
import Derived.Deep.Fields
import Derived.ChangeSame
namespace Go.Proofs.Ytiibegilolijlaa
open Go.RowKit

set_option maxHeartbeats 2000000 in
theorem impl_FadesOk (v : Value) (rows : List (List Int)) (w : World) (h : RdS w v rows) (hl : rows.length ≤ 1048576) :
    Calls Try.prog 12 #[v] w fun e w' => e = .returned (.bool (fadesOk rows)) ∧ Nx w w' := by
  obtain ⟨A, c, hcap, rfl, hx⟩ := h
  have Hx := hide hx
  clear hx
  go_enter Try.func12, Try.ntmps12
  by_cases h20 : rows.length ≤ 20
  · go_wp2_with fail
    go_loopw [12] (fun i wr => ∃ k : Nat, k ≤ rows.length ∧ i = .int .i64 k ∧ Nx w wr ∧ Hid (∀ j, j < k → fadeAt rows j = true)) (fun i _ => rows.length - (intOf i).toNat)
    case atStart => exact ⟨0, Nat.zero_le _, rfl, Below.refl _ _, fun j hj => absurd hj (by omega)⟩
    case round =>
      obtain ⟨k, hk, rfl, hb, hall⟩ := hrel
      by_cases hlt : k < rows.length
      · obtain ⟨b0, off, rfl, hb0, hc⟩ := Hx.out (by omega)
        have hc0 : wr.cell? ⟨b0, off + k * 4, none⟩ = some (.int .i64 (fd rows k 0)) := (hb.cell (p := ⟨b0, off + k * 4, none⟩) hb0).trans (hc k 0 hlt (by omega))
        have hc1 : wr.cell? ⟨b0, off + k * 4 + 1, none⟩ = some (.int .i64 (fd rows k 1)) := (hb.cell (p := ⟨b0, off + k * 4 + 1, none⟩) hb0).trans (hc k 1 hlt (by omega))
        have hc2 : wr.cell? ⟨b0, off + k * 4 + 2, none⟩ = some (.int .i64 (fd rows k 2)) := (hb.cell (p := ⟨b0, off + k * 4 + 2, none⟩) hb0).trans (hc k 2 hlt (by omega))
        have hc3 : wr.cell? ⟨b0, off + k * 4 + 3, none⟩ = some (.int .i64 (fd rows k 3)) := (hb.cell (p := ⟨b0, off + k * 4 + 3, none⟩) hb0).trans (hc k 3 hlt (by omega))
        have hk1 : (k : Int) < (rows.length : Int) := by omega
        have hcap1 : (k : Int) ≤ (c : Int) := by omega
        have hcap2 : k ≤ c := by omega
        have hsz := hb.size
        have Hc := hide hc
        have Hb := hide hb
        clear hc hb Hx
        cases g0 : inR (fd rows k 0) 0 7 with
        | false =>
          have b0 := inR_false.1 g0
          have hf := hide (fadesOk_bad hlt (fadeAt_bad (fdOk_false (by omega))))
          go_wp2_with (go_at_call 29; refine (within_any _ _ _ _).mono ?_; rintro e w' ⟨rfl, rfl⟩)
          go_ret
          exact ⟨ret_bool hf.out.symm, Hb.out.trans (by go_grown)⟩
        | true =>
        by_cases g1 : fd rows k 1 < 0
        · skip
          have hf := hide (fadesOk_bad hlt (fadeAt_bad (fdOk_false (by omega))))
          go_wp2_with (go_at_call 29; refine (within_any _ _ _ _).mono ?_; rintro e w' ⟨rfl, rfl⟩)
          go_ret
          exact ⟨ret_bool hf.out.symm, Hb.out.trans (by go_grown)⟩
        by_cases g2 : fd rows k 2 < fd rows k 1
        · skip
          have hf := hide (fadesOk_bad hlt (fadeAt_bad (fdOk_false (by omega))))
          go_wp2_with (go_at_call 29; refine (within_any _ _ _ _).mono ?_; rintro e w' ⟨rfl, rfl⟩)
          go_ret
          exact ⟨ret_bool hf.out.symm, Hb.out.trans (by go_grown)⟩
        by_cases g4 : 1000 < fd rows k 2
        · skip
          have hf := hide (fadesOk_bad hlt (fadeAt_bad (fdOk_false (by omega))))
          go_wp2_with (go_at_call 29; refine (within_any _ _ _ _).mono ?_; rintro e w' ⟨rfl, rfl⟩)
          go_ret
          exact ⟨ret_bool hf.out.symm, Hb.out.trans (by go_grown)⟩
        cases g3 : inR (fd rows k 3) 0 100 with
        | false =>
          have b3 := inR_false.1 g3
          have hf := hide (fadesOk_bad hlt (fadeAt_bad (fdOk_false (by omega))))
          go_wp2_with (go_at_call 29; refine (within_any _ _ _ _).mono ?_; rintro e w' ⟨rfl, rfl⟩)
          go_ret
          exact ⟨ret_bool hf.out.symm, Hb.out.trans (by go_grown)⟩
        | true =>
          have B0 := inR_iff.1 g0
          have B3 := inR_iff.1 g3
          have hok := hide (show fdOk rows k = true from fdOk_iff.2 (by omega))
          clear B0 B3
          go_wp2_with (go_at_call 29; refine (within_any _ _ _ _).mono ?_; rintro e w' ⟨rfl, rfl⟩)
          clear g0 g3
          obtain ⟨wo, rfl⟩ : ∃ wo : World, wo = wr := ⟨_, rfl⟩
          go_loopw [48] (fun q wq => ∃ i : Nat, i ≤ k ∧ q = .int .i64 i ∧ Nx (wo.alloc (.cells #[.int .i64 (fd rows k 0), .int .i64 (fd rows k 1), .int .i64 (fd rows k 2), .int .i64 (fd rows k 3)] 38)) wq ∧ Hid (∀ j, j < i → clash rows k j = false)) (fun q _ => k - (intOf q).toNat)
          case atStart => exact ⟨0, Nat.zero_le _, rfl, Below.refl _ _, fun j hj => absurd hj (by omega)⟩
          case round =>
            obtain ⟨i, hi, rfl, hnq, hcl⟩ := hrel
            have F := fun o => hnq.cell (p := ⟨wo.heap.size, o, none⟩) (by simp)
            have f0 := (F 0).trans (by simp : _ = some (.int .i64 (fd rows k 0)))
            have f1 := (F 1).trans (by simp : _ = some (.int .i64 (fd rows k 1)))
            have hwo : wo.heap.size < wr.heap.size := by have := hnq.size; simp at this; omega
            have n0 : ∀ x : Obj, (wr.alloc x).cell? ⟨wo.heap.size, 0, none⟩ = some (.int .i64 (fd rows k 0)) := fun x => (World.cell?_alloc_lt wr x ⟨wo.heap.size, 0, none⟩ hwo).trans f0
            have n1 : ∀ x : Obj, (wr.alloc x).cell? ⟨wo.heap.size, 1, none⟩ = some (.int .i64 (fd rows k 1)) := fun x => (World.cell?_alloc_lt wr x ⟨wo.heap.size, 1, none⟩ hwo).trans f1
            have hnb := Hb.out.trans ((Nx.made wo _).trans hnq)
            have Hnq := hide hnq
            have Hnb := hide hnb
            by_cases hik : i < k
            · have hd0 := (hnb.cell (p := ⟨b0, off + i * 4, none⟩) hb0).trans (Hc.out i 0 (by omega) (by omega))
              have hd1 := (hnb.cell (p := ⟨b0, off + i * 4 + 1, none⟩) hb0).trans (Hc.out i 1 (by omega) (by omega))
              have hd2 := (hnb.cell (p := ⟨b0, off + i * 4 + 2, none⟩) hb0).trans (Hc.out i 2 (by omega) (by omega))
              have hd3 := (hnb.cell (p := ⟨b0, off + i * 4 + 3, none⟩) hb0).trans (Hc.out i 3 (by omega) (by omega))
              have hi1 : (i : Int) < (rows.length : Int) := by omega
              have hi2 : (i : Int) < (k : Int) := by omega
              clear hnq hnb F
              by_cases e0 : fd rows i 0 = fd rows k 0
              · have e0' : (fd rows i 0 == fd rows k 0) = true := by simpa using e0
                by_cases e2 : fd rows k 1 < fd rows i 2
                · have hf := hide (fadesOk_bad hlt (fadeAt_clash hik e0 e2))
                  have E0 := hide e0
                  clear e0
                  go_wp2_with fail
                  go_ret
                  exact ⟨ret_bool hf.out.symm, Hnb.out.trans (by go_grown)⟩
                · have hn := hide (clash_no (rows := rows) (k := k) (i := i) (fun h => e2 h.2))
                  have E0 := hide e0
                  clear e0
                  go_wp2_with fail
                  go_roundw
                  case rel => exact ⟨i + 1, by omega, by go_num, Hnq.out.trans (by go_grown), fun j hj => by
                    rcases Nat.lt_or_ge j i with h | h
                    · exact hcl.out j h
                    · obtain rfl : j = i := by omega
                      exact hn.out⟩
                  case measure => simp [intOf]; omega
              · have e0' : (fd rows i 0 == fd rows k 0) = false := by simpa using e0
                have hn := hide (clash_no (rows := rows) (k := k) (i := i) (fun h => e0 h.1))
                go_wp2_with fail
                go_roundw
                case rel => exact ⟨i + 1, by omega, by go_num, Hnq.out.trans (by go_grown), fun j hj => by
                  rcases Nat.lt_or_ge j i with h | h
                  · exact hcl.out j h
                  · obtain rfl : j = i := by omega
                    exact hn.out⟩
                case measure => simp [intOf]; omega
            · obtain rfl : i = k := by omega
              have hat := hide (fadeAt_of hok.out hcl.out)
              clear hnq hnb F
              go_wp2_with fail
              go_roundw
              case rel => exact ⟨i + 1, by omega, by go_num, Hnb.out, fun j hj => by
                rcases Nat.lt_or_ge j i with h | h
                · exact hall.out j h
                · obtain rfl : j = i := by omega
                  exact hat.out⟩
              case measure => simp [intOf]; omega
      · obtain rfl : k = rows.length := by omega
        have hf := hide (show fadesOk rows = true from by
          rw [fadesOk_all hall.out]
          simpa using h20)
        go_wp2_with fail
        go_ret
        exact ⟨ret_bool hf.out.symm, hb⟩
  · have hf := hide (show fadesOk rows = false from by simp [fadesOk, h20])
    go_wp2_with fail
    go_ret
    exact ⟨ret_bool hf.out.symm, Below.refl _ _⟩

end Go.Proofs.Ytiibegilolijlaa
