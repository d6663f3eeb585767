/- Levels: spec. -/
import Derived.Test.YtiibegilolijlaaLvI
import Derived.WalkKit
import Derived.ProofKit
import Derived.Handy
import Derived.OpenShut
import Derived.ShutString
import Derived.ChangeOld
import Derived.Below
import Derived.BigQuiet
import Derived.Deep.QuietTactic
import Derived.Deep.Draws
import Derived.Deep.DeepCutAuto
import Derived.Deep.DeepFit
import Derived.Deep.LoopGhost
import Derived.Outline
import Derived.WalkSpells
import Derived.WalkLawsBesides
import Derived.WalkSmall
import Derived.Laws.OwnMore
import Derived.OneCell
import Derived.Laws.Rows
import Derived.Maps.AppendAt
import Derived.StillTailTactics
import Derived.Lib.SmallJoins
import Derived.Deep.RegionWith
import Derived.Deep.RegionHeld3
import Derived.RegionTactic
import Derived.Deep.Matrix
import Derived.Deep.Fields
import Derived.ChangeSame
namespace Go.Proofs.Ytiibegilolijlaa
open Go.RowKit

set_option maxHeartbeats 2000000 in
theorem spec_level (v : Value) (rows : List (List Int)) (lamp t : Int) (w : World) (h : RdS w v rows) (hok : fadesOk rows = true) (_ : 0 ≤ t ∧ t ≤ 1000) :
    Calls Try.prog 31 #[v, .int .i64 lamp, .int .i64 t] w fun e w' => e = .returned (.int .i64 (lvTo rows lamp t rows.length)) ∧ Nx w w' := by
  obtain ⟨A, c, hcap, rfl, hx⟩ := h
  have Hx := hide hx
  have HT := fadesOk_true hok
  have hn20 := HT.1
  have Hb := hide HT.2
  have Hlb := hide (fun k (hk : k ≤ rows.length) => lvTo_bd lamp t hok hk)
  clear hx HT hok
  go_enter Try.func31, Try.ntmps31
  go_wp2_with fail
  go_loopw [7, 8] (fun o i wr => ∃ k : Nat, k ≤ rows.length ∧ i = .int .i64 k ∧ o = .int .i64 (lvTo rows lamp t k) ∧ Nx w wr) (fun _ i _ => rows.length - (intOf i).toNat)
  case atStart => exact ⟨0, Nat.zero_le _, rfl, rfl, Below.refl _ _⟩
  case round =>
    obtain ⟨k, hk, rfl, rfl, hb⟩ := hrel
    by_cases hlt : k < rows.length
    · obtain ⟨b0, off, rfl, hb0, hc⟩ := Hx.out (by omega)
      have hc0 : wr.cell? ⟨b0, off + k * 4, none⟩ = some (.int .i64 (fd rows k 0)) := (hb.cell (p := ⟨b0, off + k * 4, none⟩) hb0).trans (hc k 0 hlt (by omega))
      have hc1 : wr.cell? ⟨b0, off + k * 4 + 1, none⟩ = some (.int .i64 (fd rows k 1)) := (hb.cell (p := ⟨b0, off + k * 4 + 1, none⟩) hb0).trans (hc k 1 hlt (by omega))
      have hc2 : wr.cell? ⟨b0, off + k * 4 + 2, none⟩ = some (.int .i64 (fd rows k 2)) := (hb.cell (p := ⟨b0, off + k * 4 + 2, none⟩) hb0).trans (hc k 2 hlt (by omega))
      have hc3 : wr.cell? ⟨b0, off + k * 4 + 3, none⟩ = some (.int .i64 (fd rows k 3)) := (hb.cell (p := ⟨b0, off + k * 4 + 3, none⟩) hb0).trans (hc k 3 hlt (by omega))
      have hk1 : (k : Int) < (rows.length : Int) := by omega
      have hfb := Hb.out k hlt
      have hlb := Hlb.out k hk
      have Hother := hide (fun h => lvTo_other (rows := rows) (lamp := lamp) (t := t) (k := k) h)
      have Hearly := hide (fun h => lvTo_early (rows := rows) (lamp := lamp) (t := t) (k := k) h)
      have Hlate := hide (fun h h1 h2 => lvTo_late (rows := rows) (lamp := lamp) (t := t) (k := k) h h1 h2)
      have Hmid := hide (fun h h1 h2 => lvTo_mid (rows := rows) (lamp := lamp) (t := t) (k := k) h h1 h2)
      have Rb := hide hb
      clear hc hb Hx
      generalize lvTo rows lamp t k = l at *
      by_cases e0 : fd rows k 0 = lamp
      · have e0' : (fd rows k 0 != lamp) = false := by simpa using e0
        have e0'' : (fd rows k 0 == lamp) = true := by simpa using e0
        have E0 := hide e0
        clear e0
        by_cases e1 : t < fd rows k 1
        · have hs := hide (Hearly.out e1)
          go_wp2_with fail
          go_roundw
          case rel => exact ⟨k + 1, by omega, by go_num, by rw [hs.out], Rb.out.trans (by go_grown)⟩
          case measure => simp [intOf]; omega
        · by_cases e2 : fd rows k 2 ≤ t
          · have hs := hide (Hlate.out E0.out e1 e2)
            go_wp2_with fail
            go_roundw
            case rel => exact ⟨k + 1, by omega, by go_num, by rw [hs.out], Rb.out.trans (by go_grown)⟩
            case measure => simp [intOf]; omega
          · have n3 : 0 < fd rows k 2 - fd rows k 1 := by omega
            have n4 : (fd rows k 2 - fd rows k 1 == 0) = false := by simp; omega
            by_cases e3 : l ≤ fd rows k 3
            · have hs := hide (Hmid.out E0.out e1 e2)
              have n1 := numer_bd (a := fd rows k 3 - l) (b := t - fd rows k 1) (by omega) (by omega)
              have n2 := quot_bd (a := fd rows k 3 - l) (b := t - fd rows k 1) (c := fd rows k 2 - fd rows k 1) (by omega) (by omega) (by omega)
              have n5 : 0 ≤ (fd rows k 3 - l) * (t - fd rows k 1) := Int.mul_nonneg (by omega) (by omega)
              have n6 := Int.tdiv_eq_ediv_of_nonneg (b := fd rows k 2 - fd rows k 1) n5
              rw [n6] at n2
              have N6 := hide n6
              clear n6
              go_wp2_with fail
              go_roundw
              case rel => exact ⟨k + 1, by omega, by go_num, by rw [hs.out, N6.out], Rb.out.trans (by go_grown)⟩
              case measure => simp [intOf]; omega
            · have hs := hide (Hmid.out E0.out e1 e2)
              have n1 := numer_bd (a := l - fd rows k 3) (b := t - fd rows k 1) (by omega) (by omega)
              have n2 := quot_bd (a := l - fd rows k 3) (b := t - fd rows k 1) (c := fd rows k 2 - fd rows k 1) (by omega) (by omega) (by omega)
              have n5 : 0 ≤ (l - fd rows k 3) * (t - fd rows k 1) := Int.mul_nonneg (by omega) (by omega)
              have n6 := Int.tdiv_eq_ediv_of_nonneg (b := fd rows k 2 - fd rows k 1) n5
              have n7 : l + ((fd rows k 3 - l) * (t - fd rows k 1)).tdiv (fd rows k 2 - fd rows k 1) = l - ((l - fd rows k 3) * (t - fd rows k 1)) / (fd rows k 2 - fd rows k 1) := by
                rw [← n6, show fd rows k 3 - l = -(l - fd rows k 3) from by omega, Int.neg_mul, Int.neg_tdiv]
                omega
              rw [n6] at n2
              have N7 := hide n7
              clear n6 n7
              go_wp2_with fail
              go_roundw
              case rel => exact ⟨k + 1, by omega, by go_num, by rw [hs.out, N7.out], Rb.out.trans (by go_grown)⟩
              case measure => simp [intOf]; omega
      · have e0' : (fd rows k 0 != lamp) = true := by simpa using e0
        have e0'' : (fd rows k 0 == lamp) = false := by simpa using e0
        have hs := hide (Hother.out e0)
        go_wp2_with fail
        go_roundw
        case rel => exact ⟨k + 1, by omega, by go_num, by rw [hs.out], Rb.out.trans (by go_grown)⟩
        case measure => simp [intOf]; omega
    · obtain rfl : k = rows.length := by omega
      go_wp2_with fail
      go_ret
      exact ⟨rfl, hb⟩

end Go.Proofs.Ytiibegilolijlaa
