/- The laws' small helpers. -/
import Derived.Test.YtjifdheaeopdfaaDraw
import Derived.WalkKit
import Derived.ProofKit
import Derived.Handy
import Derived.OpenShut
import Derived.ShutString
import Derived.ChangeOld
import Derived.Below
import Derived.BigQuiet
import Derived.Deep.QuietTactic
import Derived.Deep.Draws
import Derived.Deep.DeepCutAuto
import Derived.Deep.DeepFit
import Derived.Deep.LoopGhost
import Derived.Outline
import Derived.WalkSpells
import Derived.WalkLawsBesides
import Derived.WalkSmall
import Derived.Laws.OwnMore
import Derived.OneCell
import Derived.Laws.Rows
import Derived.Maps.AppendAt
import Derived.StillTailTactics
import Derived.Lib.SmallJoins
import Derived.Deep.RegionWith
import Derived.Deep.RegionHeld3
import Derived.RegionTactic
import Derived.Deep.Matrix
import Derived.Deep.Fields
import Derived.ChangeSame
namespace Go.Proofs.Ytjifdheaeopdfaa
open Go.RowKit

set_option maxHeartbeats 400000 in
theorem big_any (v : Value) (zs : List Int) (w : World) (h : RdB w v zs) : Calls Try.prog 26 #[v] w fun e w' => e = .returned (.bool (decide (1048576 < (zs.length : Int)))) ∧ w = w' := by
  obtain ⟨A, c, rfl, hx⟩ := h
  clear hx
  go_enter Try.func26, Try.ntmps26
  go_wp2
  go_ret
  exact ⟨rfl, rfl⟩
set_option maxHeartbeats 1000000 in
theorem at_any (v : Value) (zs : List Int) (i : Int) (w : World) (h : RdB w v zs) (hl : zs.length ≤ 1048576) (i0 : 0 ≤ i ∧ i ≤ 1000) : Calls Try.prog 28 #[v, .int .i64 i] w fun e w' => ∃ x, e = .returned (.int .i64 x) ∧ (0 ≤ x ∧ x ≤ 255) ∧ w = w' := by
  obtain ⟨A, c, rfl, hx⟩ := h
  by_cases h0 : zs.length = 0
  · have e0 : ((zs.length : Int) == 0) = true := by simp [h0]
    clear hx h0
    go_enter Try.func28, Try.ntmps28
    go_wp2
    go_ret
    exact ⟨0, rfl, by omega, rfl⟩
  · have e0 : ((zs.length : Int) == 0) = false := by simp [h0]
    obtain ⟨b0, off, rfl, hb0, hc⟩ := hx (by omega)
    have hm0 : 0 ≤ (i * 5 + 1) % (zs.length : Int) := Int.emod_nonneg _ (by omega)
    have hm1 : (i * 5 + 1) % (zs.length : Int) < (zs.length : Int) := Int.emod_lt_of_pos _ (by omega)
    have hq : ((i * 5 + 1) % (zs.length : Int)).toNat < zs.length := by omega
    have hck := (hc _ hq).1
    have hbd := (hc _ hq).2
    clear hc hx h0 hq
    generalize gt zs ((i * 5 + 1) % (zs.length : Int)).toNat = y at hck hbd
    have hl1 : (zs.length : Int) ≤ 1048576 := by omega
    have hl0 : 0 < (zs.length : Int) := by omega
    go_enter Try.func28, Try.ntmps28
    go_wp2_with fail
    go_ret
    exact ⟨_, rfl, hbd, rfl⟩

end Go.Proofs.Ytjifdheaeopdfaa
