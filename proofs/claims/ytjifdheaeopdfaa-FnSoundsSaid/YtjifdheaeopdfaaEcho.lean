/- Contracts of DelayOf, EchoGap, IsEcho. -/
import Derived.Test.YtjifdheaeopdfaaHlp
import Derived.WalkKit
import Derived.ProofKit
import Derived.Handy
import Derived.OpenShut
import Derived.ShutString
import Derived.ChangeOld
import Derived.Below
import Derived.BigQuiet
import Derived.Deep.QuietTactic
import Derived.Deep.Draws
import Derived.Deep.DeepCutAuto
import Derived.Deep.DeepFit
import Derived.Deep.LoopGhost
import Derived.Outline
import Derived.WalkSpells
import Derived.WalkLawsBesides
import Derived.WalkSmall
import Derived.Laws.OwnMore
import Derived.OneCell
import Derived.Laws.Rows
import Derived.Maps.AppendAt
import Derived.StillTailTactics
import Derived.Lib.SmallJoins
import Derived.Deep.RegionWith
import Derived.Deep.RegionHeld3
import Derived.RegionTactic
import Derived.Deep.Matrix
import Derived.Deep.Fields
import Derived.ChangeSame
namespace Go.Proofs.Ytjifdheaeopdfaa
open Go.RowKit

/-- How long a sound takes. -/
def delay (m : Int) : Int := if 0 ≤ m ∧ m ≤ 1000 then m * 1000 / 343 else -1
theorem delay_bd (m : Int) : -1 ≤ delay m ∧ delay m ≤ 2915 := by unfold delay; split <;> omega
theorem delay_in {m : Int} (h : inR m 0 1000 = true) : delay m = m * 1000 / 343 := by have := inR_iff.1 h; unfold delay; rw [if_pos this]
theorem delay_out {m : Int} (h : inR m 0 1000 = false) : delay m = -1 := by have := inR_false.1 h; unfold delay; rw [if_neg this]
/-- How much later an echo comes. -/
def gap (d w : Int) : Int := if delay d < 0 ∨ delay w < 0 ∨ w < d then -1 else delay w - delay d

set_option maxHeartbeats 400000 in
theorem spec_DelayOf (m : Int) (w : World) : Calls Try.prog 14 #[.int .i64 m] w fun e w' => e = .returned (.int .i64 (delay m)) ∧ w = w' := by
  cases hin : inR m 0 1000 with
  | true =>
    have hf := hide (delay_in hin)
    have hb := inR_iff.1 hin
    go_enter Try.func14, Try.ntmps14
    go_wp2_with (go_at_call 41; refine (l01In_any _ _ _ _).mono ?_; rintro e w' ⟨rfl, rfl⟩)
    go_ret
    exact ⟨ret_int hf.out.symm, rfl⟩
  | false =>
    have hf := hide (delay_out hin)
    go_enter Try.func14, Try.ntmps14
    go_wp2_with (go_at_call 41; refine (l01In_any _ _ _ _).mono ?_; rintro e w' ⟨rfl, rfl⟩)
    go_ret
    exact ⟨ret_int hf.out.symm, rfl⟩

set_option maxHeartbeats 400000 in
theorem spec_EchoGap (d m : Int) (w : World) : Calls Try.prog 16 #[.int .i64 d, .int .i64 m] w fun e w' => e = .returned (.int .i64 (gap d m)) ∧ w = w' := by
  have b1 := delay_bd d
  have b2 := delay_bd m
  by_cases h1 : delay d < 0
  · have hf : Hid (gap d m = -1) := by show gap d m = -1; unfold gap; rw [if_pos (.inl h1)]
    go_enter Try.func16, Try.ntmps16
    go_wp2_with (go_at_call 14; refine (spec_DelayOf _ _).mono ?_; rintro e w' ⟨rfl, rfl⟩)
    go_ret
    exact ⟨ret_int hf.out.symm, rfl⟩
  · by_cases h2 : delay m < 0
    · have hf : Hid (gap d m = -1) := by show gap d m = -1; unfold gap; rw [if_pos (.inr (.inl h2))]
      go_enter Try.func16, Try.ntmps16
      go_wp2_with (go_at_call 14; refine (spec_DelayOf _ _).mono ?_; rintro e w' ⟨rfl, rfl⟩)
      go_ret
      exact ⟨ret_int hf.out.symm, rfl⟩
    · by_cases h3 : m < d
      · have hf : Hid (gap d m = -1) := by show gap d m = -1; unfold gap; rw [if_pos (.inr (.inr h3))]
        go_enter Try.func16, Try.ntmps16
        go_wp2_with (go_at_call 14; refine (spec_DelayOf _ _).mono ?_; rintro e w' ⟨rfl, rfl⟩)
        go_ret
        exact ⟨ret_int hf.out.symm, rfl⟩
      · have hf : Hid (gap d m = delay m - delay d) := by show gap d m = _; unfold gap; rw [if_neg (by omega)]
        go_enter Try.func16, Try.ntmps16
        go_wp2_with (go_at_call 14; refine (spec_DelayOf _ _).mono ?_; rintro e w' ⟨rfl, rfl⟩)
        go_ret
        exact ⟨ret_int hf.out.symm, rfl⟩

set_option maxHeartbeats 400000 in
theorem spec_IsEcho (d m : Int) (w : World) : Calls Try.prog 18 #[.int .i64 d, .int .i64 m] w fun e w' => e = .returned (.bool (decide (50 ≤ gap d m))) ∧ w = w' := by
  go_enter Try.func18, Try.ntmps18
  go_wp2_with (go_at_call 16; refine (spec_EchoGap _ _ _).mono ?_; rintro e w' ⟨rfl, rfl⟩)
  go_ret
  exact ⟨rfl, rfl⟩

set_option maxHeartbeats 400000 in
theorem impl_DelayOf (m : Int) (w : World) : Calls Try.prog 15 #[.int .i64 m] w fun e w' => e = .returned (.int .i64 (delay m)) ∧ w = w' := by
  cases hin : inR m 0 1000 with
  | true =>
    have hf := hide (delay_in hin)
    have hb := inR_iff.1 hin
    go_enter Try.func15, Try.ntmps15
    go_wp2_with (go_at_call 42; refine (within_any _ _ _ _).mono ?_; rintro e w' ⟨rfl, rfl⟩)
    go_ret
    exact ⟨ret_int hf.out.symm, rfl⟩
  | false =>
    have hf := hide (delay_out hin)
    go_enter Try.func15, Try.ntmps15
    go_wp2_with (go_at_call 42; refine (within_any _ _ _ _).mono ?_; rintro e w' ⟨rfl, rfl⟩)
    go_ret
    exact ⟨ret_int hf.out.symm, rfl⟩

set_option maxHeartbeats 400000 in
theorem impl_EchoGap (d m : Int) (w : World) : Calls Try.prog 17 #[.int .i64 d, .int .i64 m] w fun e w' => e = .returned (.int .i64 (gap d m)) ∧ w = w' := by
  have b1 := delay_bd d
  have b2 := delay_bd m
  by_cases h1 : delay d < 0
  · have hf : Hid (gap d m = -1) := by show gap d m = -1; unfold gap; rw [if_pos (.inl h1)]
    go_enter Try.func17, Try.ntmps17
    go_wp2_with (go_at_call 15; refine (impl_DelayOf _ _).mono ?_; rintro e w' ⟨rfl, rfl⟩)
    go_ret
    exact ⟨ret_int hf.out.symm, rfl⟩
  · by_cases h2 : delay m < 0
    · have hf : Hid (gap d m = -1) := by show gap d m = -1; unfold gap; rw [if_pos (.inr (.inl h2))]
      go_enter Try.func17, Try.ntmps17
      go_wp2_with (go_at_call 15; refine (impl_DelayOf _ _).mono ?_; rintro e w' ⟨rfl, rfl⟩)
      go_ret
      exact ⟨ret_int hf.out.symm, rfl⟩
    · by_cases h3 : m < d
      · have hf : Hid (gap d m = -1) := by show gap d m = -1; unfold gap; rw [if_pos (.inr (.inr h3))]
        go_enter Try.func17, Try.ntmps17
        go_wp2_with (go_at_call 15; refine (impl_DelayOf _ _).mono ?_; rintro e w' ⟨rfl, rfl⟩)
        go_ret
        exact ⟨ret_int hf.out.symm, rfl⟩
      · have hf : Hid (gap d m = delay m - delay d) := by show gap d m = _; unfold gap; rw [if_neg (by omega)]
        go_enter Try.func17, Try.ntmps17
        go_wp2_with (go_at_call 15; refine (impl_DelayOf _ _).mono ?_; rintro e w' ⟨rfl, rfl⟩)
        go_ret
        exact ⟨ret_int hf.out.symm, rfl⟩

set_option maxHeartbeats 400000 in
theorem impl_IsEcho (d m : Int) (w : World) : Calls Try.prog 19 #[.int .i64 d, .int .i64 m] w fun e w' => e = .returned (.bool (decide (50 ≤ gap d m))) ∧ w = w' := by
  go_enter Try.func19, Try.ntmps19
  go_wp2_with (go_at_call 17; refine (impl_EchoGap _ _ _).mono ?_; rintro e w' ⟨rfl, rfl⟩)
  go_ret
  exact ⟨rfl, rfl⟩

end Go.Proofs.Ytjifdheaeopdfaa
