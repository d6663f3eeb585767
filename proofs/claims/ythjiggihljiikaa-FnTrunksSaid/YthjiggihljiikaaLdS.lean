/- Loads: spec. -/
import Derived.Test.YthjiggihljiikaaLdP
import Derived.WalkKit
import Derived.ProofKit
import Derived.Handy
import Derived.OpenShut
import Derived.ShutString
import Derived.ChangeOld
import Derived.Below
import Derived.BigQuiet
import Derived.Deep.QuietTactic
import Derived.Deep.Draws
import Derived.Deep.DeepCutAuto
import Derived.Deep.DeepFit
import Derived.Deep.LoopGhost
import Derived.Outline
import Derived.WalkSpells
import Derived.WalkLawsBesides
import Derived.WalkSmall
import Derived.Laws.OwnMore
import Derived.OneCell
import Derived.Laws.Rows
import Derived.Maps.AppendAt
import Derived.StillTailTactics
import Derived.Lib.SmallJoins
import Derived.Deep.RegionWith
import Derived.Deep.RegionHeld3
import Derived.RegionTactic
import Derived.Deep.Matrix
import Derived.Deep.Fields
import Derived.ChangeSame
namespace Go.Proofs.Ythjiggihljiikaa
open Go.RowKit

set_option maxHeartbeats 1000000 in
theorem spec_load (v u : Value) (zs bs : List Int) (b : Int) (w : World) (h : RdI w v zs) (h' : RdI w u bs) (hl : bs.length = zs.length) (_ : zs.length ≤ 12) (hz : ∀ k, k < zs.length → 1 ≤ gt zs k ∧ gt zs k ≤ 1000) :
    Calls Try.prog 31 #[v, u, .int .i64 b] w fun e w' => e = .returned (.int .i64 (ldTo zs bs b zs.length)) ∧ Nx w w' := by
  obtain ⟨A, c, rfl, hx⟩ := h
  obtain ⟨A', c', rfl, hx'⟩ := h'
  have Hx := hide hx
  have Hx' := hide hx'
  have Hz := hide hz
  have Hl := hide hl
  have hl1 : zs.length ≤ bs.length := by omega
  clear hx hx' hz hl
  go_enter Try.func31, Try.ntmps31
  go_wp2_with fail
  go_loop [7, 8] (fun o i => ∃ k : Nat, k ≤ zs.length ∧ i = .int .i64 k ∧ o = .int .i64 (ldTo zs bs b k)) (fun _ i => zs.length - (intOf i).toNat)
  case atStart => exact ⟨0, Nat.zero_le _, rfl, rfl⟩
  case round =>
    obtain ⟨k, hk, rfl, rfl⟩ := hrel
    by_cases hlt : k < zs.length
    · obtain ⟨b0, off, rfl, hb0, hc⟩ := Hx.out (by omega)
      obtain ⟨b1, off1, rfl, hb1, hc1⟩ := Hx'.out (by omega)
      have hck := hc k hlt
      have hbk := hc1 k (by omega)
      have zk := Hz.out k hlt
      have hld := ldTo_bd (bs := bs) Hz.out b (k := k) (by omega)
      clear hc hc1 Hx Hx'
      by_cases e : gt bs k = b
      · have e1 : (gt bs k == b) = true := by simpa using e
        have hs := hide (ldTo_yes (zs := zs) e)
        clear e
        go_wp2_with fail
        go_round
        case rel => exact ⟨k + 1, by omega, by go_num, by rw [hs.out]⟩
        case measure => simp [intOf]; omega
      · have e1 : (gt bs k == b) = false := by simpa using e
        have hs := hide (ldTo_no (zs := zs) e)
        go_wp2_with fail
        go_round
        case rel => exact ⟨k + 1, by omega, by go_num, by rw [hs.out]⟩
        case measure => simp [intOf]; omega
    · obtain rfl : k = zs.length := by omega
      go_wp2_with fail
      go_ret
      exact ⟨rfl, Below.refl _ _⟩

end Go.Proofs.Ythjiggihljiikaa
