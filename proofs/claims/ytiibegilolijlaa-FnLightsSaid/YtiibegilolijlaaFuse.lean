/- BlowsFuse. -/
import Derived.Test.YtiibegilolijlaaPw
import Derived.WalkKit
import Derived.ProofKit
import Derived.Handy
import Derived.OpenShut
import Derived.ShutString
import Derived.ChangeOld
import Derived.Below
import Derived.BigQuiet
import Derived.Deep.QuietTactic
import Derived.Deep.Draws
import Derived.Deep.DeepCutAuto
import Derived.Deep.DeepFit
import Derived.Deep.LoopGhost
import Derived.Outline
import Derived.WalkSpells
import Derived.WalkLawsBesides
import Derived.WalkSmall
import Derived.Laws.OwnMore
import Derived.OneCell
import Derived.Laws.Rows
import Derived.Maps.AppendAt
import Derived.StillTailTactics
import Derived.Lib.SmallJoins
import Derived.Deep.RegionWith
import Derived.Deep.RegionHeld3
import Derived.RegionTactic
import Derived.Deep.Matrix
import Derived.Deep.Fields
import Derived.ChangeSame
namespace Go.Proofs.Ytiibegilolijlaa
open Go.RowKit

/-- the first tick with more power. -/
def blowsAt (rows : List (List Int)) (ws : List Int) (fuse : Int) : Int :=
  if wattsOk rows ws then (match (List.range 1001).find? fun (t : Nat) => decide (fuse < power rows ws (t : Int)) with | some t => (t : Int) | none => -1) else -1
theorem blowsAt_some {rows : List (List Int)} {ws : List Int} {fuse : Int} {k : Nat} (h : wattsOk rows ws = true) (hk : k < 1001) (h1 : fuse < power rows ws (k : Int)) (h2 : ∀ j : Nat, j < k → power rows ws (j : Int) ≤ fuse) : blowsAt rows ws fuse = k := by
  have : (List.range 1001).find? (fun (t : Nat) => decide (fuse < power rows ws (t : Int))) = some k := List.find?_range_eq_some.2 ⟨by simpa using h1, by simpa using hk, fun j hj => by simpa using h2 j hj⟩
  unfold blowsAt
  rw [h, this]
  rfl
theorem blowsAt_none {rows : List (List Int)} {ws : List Int} {fuse : Int} (h2 : ∀ j : Nat, j < 1001 → power rows ws (j : Int) ≤ fuse) : blowsAt rows ws fuse = -1 := by
  have : (List.range 1001).find? (fun (t : Nat) => decide (fuse < power rows ws (t : Int))) = none := List.find?_range_eq_none.2 fun j hj => by simpa using h2 j hj
  unfold blowsAt
  rw [this]
  split <;> rfl
theorem powerAt_ok {rows : List (List Int)} {ws : List Int} {k : Nat} (h : wattsOk rows ws = true) (hk : k < 1001) : powerAt rows ws (k : Int) = power rows ws (k : Int) := by
  have h2 : inR (k : Int) 0 1000 = true := inR_iff.2 (by omega)
  simp [powerAt, h, h2]
set_option maxRecDepth 100000 in
set_option maxHeartbeats 1000000 in
theorem impl_BlowsFuse (v u : Value) (rows : List (List Int)) (ws : List Int) (fuse : Int) (w : World) (h : RdS w v rows) (hl : rows.length ≤ 1048576) (h' : RdI w u ws) (hw : ws.length ≤ 1048576) (_ : I64 fuse) :
    Calls Try.prog 21 #[v, u, .int .i64 fuse] w fun e w' => e = .returned (.int .i64 (blowsAt rows ws fuse)) ∧ Nx w w' := by
  cases h1 : wattsOk rows ws with
  | false =>
    have hf := hide (show blowsAt rows ws fuse = -1 from by simp [blowsAt, h1])
    have hp : powerAt rows ws 0 < 0 := by simp [powerAt, h1]
    clear h1
    go_enter Try.func21, Try.ntmps21
    go_wp2_with fail
    refine (impl_PowerAt _ _ _ _ _ _ h hl h' hw (by unfold I64; omega)).mono ?_
    rintro e w1 ⟨rfl, b⟩
    go_wp2_with fail
    go_ret
    exact ⟨ret_int hf.out.symm, b⟩
  | true =>
    have H := hide h
    have H' := hide h'
    have H1 := hide h1
    have hp : 0 ≤ powerAt rows ws 0 := by
      have e := powerAt_ok (k := 0) h1 (by omega)
      have := power_bd 0 h1
      simp at e
      omega
    clear h1
    go_enter Try.func21, Try.ntmps21
    go_wp2_with fail
    refine (impl_PowerAt _ _ _ _ _ _ h hl h' hw (by unfold I64; omega)).mono ?_
    rintro e w1 ⟨rfl, b⟩
    go_wp2_with fail
    clear hp h h'
    go_loopw [12] (fun i wr => ∃ k : Nat, k ≤ 1001 ∧ i = .int .i64 k ∧ Nx w wr ∧ Hid (∀ j : Nat, j < k → power rows ws (j : Int) ≤ fuse)) (fun i _ => 1001 - (intOf i).toNat)
    case atStart => exact ⟨0, Nat.zero_le _, rfl, b, fun j hj => absurd hj (by omega)⟩
    case round =>
      clear b
      obtain ⟨k, hk, rfl, hb, hall⟩ := hrel
      by_cases hlt : k < 1001
      · have e := hide (powerAt_ok (rows := rows) (ws := ws) H1.out hlt)
        have Hb := hide hb
        clear hb
        by_cases hfu : fuse < powerAt rows ws (k : Int)
        · have hf := hide (blowsAt_some H1.out hlt (by rw [← e.out]; exact hfu) hall.out)
          go_wp2_with fail
          refine (impl_PowerAt _ _ _ _ _ _ (H.out.below Hb.out) hl (H'.out.below Hb.out) hw (by unfold I64; omega)).mono ?_
          rintro e w2 ⟨rfl, b⟩
          have Hb1 := hide (Hb.out.trans b)
          clear b
          go_wp2_with fail
          go_ret
          exact ⟨ret_int hf.out.symm, Hb1.out⟩
        · have hn := hide (show power rows ws (k : Int) ≤ fuse from by rw [← e.out]; omega)
          go_wp2_with fail
          refine (impl_PowerAt _ _ _ _ _ _ (H.out.below Hb.out) hl (H'.out.below Hb.out) hw (by unfold I64; omega)).mono ?_
          rintro e w2 ⟨rfl, b⟩
          have Hb1 := hide (Hb.out.trans b)
          clear b
          go_wp2_with fail
          go_roundw
          case rel => exact ⟨k + 1, by omega, by go_num, Hb1.out, fun j hj => by
            rcases Nat.lt_or_ge j k with h | h
            · exact hall.out j h
            · obtain rfl : j = k := by omega
              exact hn.out⟩
          case measure => simp [intOf]; omega
      · obtain rfl : k = 1001 := by omega
        have hf := hide (blowsAt_none hall.out)
        go_wp2_with fail
        go_ret
        exact ⟨ret_int hf.out.symm, hb⟩
set_option maxRecDepth 100000 in
set_option maxHeartbeats 1000000 in
theorem spec_BlowsFuse (v u : Value) (rows : List (List Int)) (ws : List Int) (fuse : Int) (w : World) (h : RdS w v rows) (hl : rows.length ≤ 1048576) (h' : RdI w u ws) (hw : ws.length ≤ 1048576) (_ : I64 fuse) :
    Calls Try.prog 26 #[v, u, .int .i64 fuse] w fun e w' => e = .returned (.int .i64 (blowsAt rows ws fuse)) ∧ Nx w w' := by
  have H := hide h
  have H' := hide h'
  clear h h'
  go_enter Try.func26, Try.ntmps26
  go_wp2_with fail
  go_loopw [7] (fun i wr => ∃ k : Nat, k ≤ 1001 ∧ i = .int .i64 k ∧ Nx w wr ∧ Hid (∀ j : Nat, j < k → power rows ws (j : Int) ≤ fuse)) (fun i _ => 1001 - (intOf i).toNat)
  case atStart => exact ⟨0, Nat.zero_le _, rfl, Below.refl _ _, fun j hj => absurd hj (by omega)⟩
  case round =>
    obtain ⟨k, hk, rfl, hb, hall⟩ := hrel
    by_cases hlt : k < 1001
    · have hle : (k : Int) ≤ 1000 := by omega
      have Hb := hide hb
      clear hb
      cases h1 : wattsOk rows ws with
      | false =>
        have hf := hide (show blowsAt rows ws fuse = -1 from by simp [blowsAt, h1])
        go_wp2_with fail
        refine (spec_l18Ok _ _ _ _ _ (H.out.below Hb.out) (H'.out.below Hb.out) hl hw).mono ?_
        rintro e w1 ⟨rfl, b⟩
        have Hb1 := hide (Hb.out.trans b)
        clear b
        go_wp2_with fail
        go_ret
        exact ⟨ret_int hf.out.symm, Hb1.out⟩
      | true =>
        have H1 := hide h1
        by_cases hfu : fuse < power rows ws (k : Int)
        · have hf := hide (blowsAt_some h1 hlt hfu hall.out)
          go_wp2_with fail
          refine (spec_l18Ok _ _ _ _ _ (H.out.below Hb.out) (H'.out.below Hb.out) hl hw).mono ?_
          rintro e w1 ⟨rfl, b⟩
          have Hb1 := hide (Hb.out.trans b)
          clear b
          go_wp2_with fail
          refine (spec_l18Power _ _ _ _ _ _ (H.out.below Hb1.out) (H'.out.below Hb1.out) H1.out (by omega)).mono ?_
          rintro e w2 ⟨rfl, b⟩
          have Hb2 := hide (Hb1.out.trans b)
          clear b
          go_wp2_with fail
          go_ret
          exact ⟨ret_int hf.out.symm, Hb2.out⟩
        · have hfu' : power rows ws (k : Int) ≤ fuse := by omega
          go_wp2_with fail
          refine (spec_l18Ok _ _ _ _ _ (H.out.below Hb.out) (H'.out.below Hb.out) hl hw).mono ?_
          rintro e w1 ⟨rfl, b⟩
          have Hb1 := hide (Hb.out.trans b)
          clear b
          go_wp2_with fail
          refine (spec_l18Power _ _ _ _ _ _ (H.out.below Hb1.out) (H'.out.below Hb1.out) H1.out (by omega)).mono ?_
          rintro e w2 ⟨rfl, b⟩
          have Hb2 := hide (Hb1.out.trans b)
          clear b
          go_wp2_with fail
          go_roundw
          case rel => exact ⟨k + 1, by omega, by go_num, Hb2.out, fun j hj => by
            rcases Nat.lt_or_ge j k with h | h
            · exact hall.out j h
            · obtain rfl : j = k := by omega
              exact hfu'⟩
          case measure => simp [intOf]; omega
    · obtain rfl : k = 1001 := by omega
      have hf := hide (blowsAt_none hall.out)
      go_wp2_with fail
      go_ret
      exact ⟨ret_int hf.out.symm, hb⟩

end Go.Proofs.Ytiibegilolijlaa
