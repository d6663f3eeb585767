/- at, told. -/
import Derived.Test.YtkjclpbemdilbaaDrH
import Derived.WalkKit
import Derived.ProofKit
import Derived.Handy
import Derived.OpenShut
import Derived.ShutString
import Derived.ChangeOld
import Derived.Below
import Derived.BigQuiet
import Derived.Deep.QuietTactic
import Derived.Deep.Draws
import Derived.Deep.DeepCutAuto
import Derived.Deep.DeepFit
import Derived.Deep.LoopGhost
import Derived.Outline
import Derived.WalkSpells
import Derived.WalkLawsBesides
import Derived.WalkSmall
import Derived.Laws.OwnMore
import Derived.OneCell
import Derived.Laws.Rows
import Derived.Maps.AppendAt
import Derived.StillTailTactics
import Derived.Lib.SmallJoins
import Derived.Deep.RegionWith
import Derived.Deep.RegionHeld3
import Derived.RegionTactic
import Derived.Deep.Matrix
import Derived.Deep.Fields
import Derived.ChangeSame
namespace Go.Proofs.Ytkjclpbemdilbaa
open Go.RowKit

/-- the number that the law takes out of the bytes. -/
def atV (zs : List Int) (i : Int) : Int := if zs.length = 0 then 0 else gt zs ((i * 5 + 1) % (zs.length : Int)).toNat
theorem atV_bd {w : World} {v : Value} {zs : List Int} (h : RdB w v zs) (i : Int) : 0 ≤ atV zs i ∧ atV zs i ≤ 255 := by
  unfold atV
  split
  · omega
  · rename_i h0
    obtain ⟨A, c, rfl, hx⟩ := h
    obtain ⟨b0, off, rfl, hb0, hc⟩ := hx (by omega)
    have hm0 : 0 ≤ (i * 5 + 1) % (zs.length : Int) := Int.emod_nonneg _ (by omega)
    have hm1 : (i * 5 + 1) % (zs.length : Int) < (zs.length : Int) := Int.emod_lt_of_pos _ (by omega)
    exact (hc _ (show ((i * 5 + 1) % (zs.length : Int)).toNat < zs.length by omega)).2
set_option maxHeartbeats 1000000 in
theorem at_det (v : Value) (zs : List Int) (i : Int) (w : World) (h : RdB w v zs) (hl : zs.length ≤ 1048576) (i0 : 0 ≤ i ∧ i ≤ 1000) : Calls Try.prog 23 #[v, .int .i64 i] w fun e w' => e = .returned (.int .i64 (atV zs i)) ∧ w = w' := by
  have HV := hide (show atV zs i = if zs.length = 0 then 0 else gt zs ((i * 5 + 1) % (zs.length : Int)).toNat from rfl)
  rw [HV.out]
  obtain ⟨A, c, rfl, hx⟩ := h
  by_cases h0 : zs.length = 0
  · have e0 : ((zs.length : Int) == 0) = true := by simp [h0]
    rw [if_pos h0]
    clear hx h0
    go_enter Try.func23, Try.ntmps23
    go_wp2
    go_ret
    exact ⟨rfl, rfl⟩
  · have e0 : ((zs.length : Int) == 0) = false := by simp [h0]
    obtain ⟨b0, off, rfl, hb0, hc⟩ := hx (by omega)
    have hm0 : 0 ≤ (i * 5 + 1) % (zs.length : Int) := Int.emod_nonneg _ (by omega)
    have hm1 : (i * 5 + 1) % (zs.length : Int) < (zs.length : Int) := Int.emod_lt_of_pos _ (by omega)
    have hq : ((i * 5 + 1) % (zs.length : Int)).toNat < zs.length := by omega
    have hck := (hc _ hq).1
    have hbd := (hc _ hq).2
    rw [if_neg h0]
    clear hc hx h0 hq
    generalize gt zs ((i * 5 + 1) % (zs.length : Int)).toNat = y at hck hbd ⊢
    have hl1 : (zs.length : Int) ≤ 1048576 := by omega
    have hl0 : 0 < (zs.length : Int) := by omega
    go_enter Try.func23, Try.ntmps23
    go_wp2_with fail
    go_ret
    exact ⟨rfl, rfl⟩

end Go.Proofs.Ytkjclpbemdilbaa
