/- MostPower. -/
import Derived.Test.YtiibegilolijlaaPw
import Derived.WalkKit
import Derived.ProofKit
import Derived.Handy
import Derived.OpenShut
import Derived.ShutString
import Derived.ChangeOld
import Derived.Below
import Derived.BigQuiet
import Derived.Deep.QuietTactic
import Derived.Deep.Draws
import Derived.Deep.DeepCutAuto
import Derived.Deep.DeepFit
import Derived.Deep.LoopGhost
import Derived.Outline
import Derived.WalkSpells
import Derived.WalkLawsBesides
import Derived.WalkSmall
import Derived.Laws.OwnMore
import Derived.OneCell
import Derived.Laws.Rows
import Derived.Maps.AppendAt
import Derived.StillTailTactics
import Derived.Lib.SmallJoins
import Derived.Deep.RegionWith
import Derived.Deep.RegionHeld3
import Derived.RegionTactic
import Derived.Deep.Matrix
import Derived.Deep.Fields
import Derived.ChangeSame
namespace Go.Proofs.Ytiibegilolijlaa
open Go.RowKit

theorem max_if (a b : Int) : (if a < b then b else a) = max a b := by split <;> omega
/-- the most power of the first k ticks. -/
def mostTo (rows : List (List Int)) (ws : List Int) : Nat → Int
  | 0 => 0
  | k + 1 => max (mostTo rows ws k) (power rows ws (k : Int))
def mostPower (rows : List (List Int)) (ws : List Int) : Int := if wattsOk rows ws then mostTo rows ws 1001 else -1
theorem mostTo_bd {rows : List (List Int)} {ws : List Int} (h : wattsOk rows ws = true) (k : Nat) : 0 ≤ mostTo rows ws k ∧ mostTo rows ws k ≤ 16000 := by
  induction k with
  | zero => simp [mostTo]
  | succ k ih =>
    have := power_bd (k : Int) h
    simp only [mostTo]
    omega
/-- what the program has after k ticks. -/
def mostI (rows : List (List Int)) (ws : List Int) (k : Nat) : Int := if wattsOk rows ws then (if k = 0 then -1 else mostTo rows ws k) else -1
theorem mostI_succ {rows : List (List Int)} {ws : List Int} {k : Nat} (hk : k < 1001) : max (mostI rows ws k) (powerAt rows ws (k : Int)) = mostI rows ws (k + 1) := by
  unfold mostI powerAt
  cases h : wattsOk rows ws with
  | false => simp
  | true =>
    have h2 : inR (k : Int) 0 1000 = true := inR_iff.2 (by omega)
    have := power_bd (k : Int) h
    rw [h2]
    by_cases h0 : k = 0
    · subst h0
      simp [mostTo]
      simp at this
      omega
    · simp [h0, mostTo]
theorem powerAt_bd (rows : List (List Int)) (ws : List Int) (t : Int) : -1 ≤ powerAt rows ws t ∧ powerAt rows ws t ≤ 16000 := by
  unfold powerAt
  split
  · rename_i h
    simp only [Bool.and_eq_true] at h
    have := power_bd t h.1
    omega
  · omega
theorem mostI_bd (rows : List (List Int)) (ws : List Int) (k : Nat) : -1 ≤ mostI rows ws k ∧ mostI rows ws k ≤ 16000 := by
  unfold mostI
  split
  · rename_i h
    have := mostTo_bd h k
    split <;> omega
  · omega
set_option maxRecDepth 100000 in
set_option maxHeartbeats 1000000 in
theorem impl_MostPower (v u : Value) (rows : List (List Int)) (ws : List Int) (w : World) (h : RdS w v rows) (hl : rows.length ≤ 1048576) (h' : RdI w u ws) (hw : ws.length ≤ 1048576) :
    Calls Try.prog 20 #[v, u] w fun e w' => e = .returned (.int .i64 (mostPower rows ws)) ∧ Nx w w' := by
  have H := hide h
  have H' := hide h'
  have hf := hide (show mostI rows ws 1001 = mostPower rows ws from by simp [mostI, mostPower])
  clear h h'
  go_enter Try.func20, Try.ntmps20
  go_wp2_with fail
  go_loopw [5, 7] (fun o i wr => ∃ k : Nat, k ≤ 1001 ∧ i = .int .i64 k ∧ o = .int .i64 (mostI rows ws k) ∧ Nx w wr) (fun _ i _ => 1001 - (intOf i).toNat)
  case atStart => exact ⟨0, Nat.zero_le _, rfl, by simp [mostI], Below.refl _ _⟩
  case round =>
    obtain ⟨k, hk, rfl, rfl, hb⟩ := hrel
    by_cases hlt : k < 1001
    · have hs := hide (mostI_succ (rows := rows) (ws := ws) hlt)
      have b1 := mostI_bd rows ws k
      have b2 := powerAt_bd rows ws (k : Int)
      have Hb := hide hb
      clear hb
      go_wp2_with fail
      refine (impl_PowerAt _ _ _ _ _ _ (H.out.below Hb.out) hl (H'.out.below Hb.out) hw (by unfold I64; omega)).mono ?_
      rintro e w1 ⟨rfl, b⟩
      have Hb1 := hide (Hb.out.trans b)
      clear b
      go_wp2_with fail
      go_roundw
      case rel => exact ⟨k + 1, by omega, by go_num, by rw [← hs.out, ← max_if], Hb1.out⟩
      case measure => simp [intOf]; omega
    · obtain rfl : k = 1001 := by omega
      go_wp2_with fail
      go_ret
      exact ⟨ret_int hf.out, hb⟩
set_option maxRecDepth 100000 in
set_option maxHeartbeats 1000000 in
theorem spec_MostPower (v u : Value) (rows : List (List Int)) (ws : List Int) (w : World) (h : RdS w v rows) (hl : rows.length ≤ 1048576) (h' : RdI w u ws) (hw : ws.length ≤ 1048576) :
    Calls Try.prog 25 #[v, u] w fun e w' => e = .returned (.int .i64 (mostPower rows ws)) ∧ Nx w w' := by
  cases h1 : wattsOk rows ws with
  | false =>
    have hf := hide (show mostPower rows ws = -1 from by simp [mostPower, h1])
    go_enter Try.func25, Try.ntmps25
    go_wp2_with fail
    refine (spec_l18Ok _ _ _ _ _ h h' hl hw).mono ?_
    rintro e w1 ⟨rfl, b⟩
    go_wp2_with fail
    go_ret
    exact ⟨ret_int hf.out.symm, b⟩
  | true =>
    have H := hide h
    have H' := hide h'
    have H1 := hide h1
    have hf := hide (show mostTo rows ws 1001 = mostPower rows ws from by simp [mostPower, h1])
    go_enter Try.func25, Try.ntmps25
    go_wp2_with fail
    refine (spec_l18Ok _ _ _ _ _ h h' hl hw).mono ?_
    rintro e w1 ⟨rfl, b⟩
    go_wp2_with fail
    clear h1 h h'
    go_loopw [5, 6] (fun o i wr => ∃ k : Nat, k ≤ 1001 ∧ i = .int .i64 k ∧ o = .int .i64 (mostTo rows ws k) ∧ Nx w wr) (fun _ i _ => 1001 - (intOf i).toNat)
    case atStart => exact ⟨0, Nat.zero_le _, rfl, by simp [mostTo], b⟩
    case round =>
      clear b
      obtain ⟨k, hk, rfl, rfl, hb⟩ := hrel
      by_cases hlt : k < 1001
      · have hs := hide (show max (mostTo rows ws k) (power rows ws (k : Int)) = mostTo rows ws (k + 1) from rfl)
        have b1 := mostTo_bd H1.out k
        have b2 := power_bd (k : Int) H1.out
        have hle : (k : Int) ≤ 1000 := by omega
        have Hb := hide hb
        clear hb
        go_wp2_with fail
        refine (spec_l18Power _ _ _ _ _ _ (H.out.below Hb.out) (H'.out.below Hb.out) H1.out (by omega)).mono ?_
        rintro e w2 ⟨rfl, b⟩
        have Hb1 := hide (Hb.out.trans b)
        clear b
        go_wp2_with fail
        go_roundw
        case rel => exact ⟨k + 1, by omega, by go_num, by rw [← hs.out, ← max_if], Hb1.out⟩
        case measure => simp [intOf]; omega
      · obtain rfl : k = 1001 := by omega
        go_wp2_with fail
        go_ret
        exact ⟨ret_int hf.out, hb⟩

end Go.Proofs.Ytiibegilolijlaa
