/- Contracts of the small helpers. -/
import Derived.Test.YtiibegilolijlaaBase
import Derived.WalkKit
import Derived.ProofKit
import Derived.Handy
import Derived.OpenShut
import Derived.ShutString
import Derived.ChangeOld
import Derived.Below
import Derived.BigQuiet
import Derived.Deep.QuietTactic
import Derived.Deep.Draws
import Derived.Deep.DeepCutAuto
import Derived.Deep.DeepFit
import Derived.Deep.LoopGhost
import Derived.Outline
import Derived.WalkSpells
import Derived.WalkLawsBesides
import Derived.WalkSmall
import Derived.Laws.OwnMore
import Derived.OneCell
import Derived.Laws.Rows
import Derived.Maps.AppendAt
import Derived.StillTailTactics
import Derived.Lib.SmallJoins
import Derived.Deep.RegionWith
import Derived.Deep.RegionHeld3
import Derived.RegionTactic
import Derived.Deep.Matrix
import Derived.Deep.Fields
import Derived.ChangeSame
namespace Go.Proofs.Ytiibegilolijlaa
open Go.RowKit

set_option maxHeartbeats 400000 in
theorem within_any (n a b : Int) (w : World) : Calls Try.prog 29 #[.int .i64 n, .int .i64 a, .int .i64 b] w fun e w' => e = .returned (.bool (inR n a b)) ∧ w = w' := by
  by_cases h1 : a ≤ n
  · have hb : inR n a b = decide (n ≤ b) := by simp [inR, h1]
    rw [hb]
    go_enter Try.func29, Try.ntmps29
    go_wp2
    go_ret
    exact ⟨rfl, rfl⟩
  · have hb : inR n a b = false := by simp [inR, h1]
    rw [hb]
    go_enter Try.func29, Try.ntmps29
    go_wp2
    go_ret
    exact ⟨rfl, rfl⟩

set_option maxHeartbeats 400000 in
theorem l01In_any (n a b : Int) (w : World) : Calls Try.prog 27 #[.int .i64 n, .int .i64 a, .int .i64 b] w fun e w' => e = .returned (.bool (inR n a b)) ∧ w = w' := by
  by_cases h1 : a ≤ n
  · have hb : inR n a b = decide (n ≤ b) := by simp [inR, h1]
    rw [hb]
    go_enter Try.func27, Try.ntmps27
    go_wp2
    go_ret
    exact ⟨rfl, rfl⟩
  · have hb : inR n a b = false := by simp [inR, h1]
    rw [hb]
    go_enter Try.func27, Try.ntmps27
    go_wp2
    go_ret
    exact ⟨rfl, rfl⟩

set_option maxHeartbeats 400000 in
theorem allWithin_any (v : Value) (zs : List Int) (a b : Int) (w : World) (h : RdI w v zs) (hl : zs.length ≤ 1048576) :
    Calls Try.prog 36 #[v, .int .i64 a, .int .i64 b] w fun e w' => e = .returned (.bool (allW a b zs)) ∧ w = w' := by
  obtain ⟨A, c, rfl, hx⟩ := h
  go_enter Try.func36, Try.ntmps36
  go_wp2_with fail
  go_loop [11] (fun i => ∃ k : Nat, k ≤ zs.length ∧ i = .int .i64 k ∧ Hid (∀ j, j < k → inR (gt zs j) a b = true)) (fun i => zs.length - (intOf i).toNat)
  case atStart => exact ⟨0, Nat.zero_le _, rfl, fun j hj => absurd hj (by omega)⟩
  case round =>
    obtain ⟨k, hk, rfl, hall⟩ := hrel
    by_cases hlt : k < zs.length
    · obtain ⟨b0, off, rfl, hb0, hc⟩ := hx (by omega)
      have hck := hc k hlt
      clear hc hx
      cases hin : inR (gt zs k) a b with
      | true =>
        go_wp2_with (go_at_call 29; refine (within_any _ _ _ _).mono ?_; rintro e w' ⟨rfl, rfl⟩)
        go_round
        case rel => exact ⟨k + 1, by omega, by go_num, fun j hj => by
          rcases Nat.lt_or_ge j k with h | h
          · exact hall.out j h
          · obtain rfl : j = k := by omega
            exact hin⟩
        case measure => simp [intOf]; omega
      | false =>
        have hf := hide (allW_false hlt hin)
        go_wp2_with (go_at_call 29; refine (within_any _ _ _ _).mono ?_; rintro e w' ⟨rfl, rfl⟩)
        go_ret
        exact ⟨ret_bool hf.out.symm, rfl⟩
    · obtain rfl : k = zs.length := by omega
      have hf := hide (allW_of hall.out)
      go_wp2_with fail
      go_ret
      exact ⟨ret_bool hf.out.symm, rfl⟩

set_option maxHeartbeats 400000 in
theorem toIntS_any (v : Value) (zs : List Int) (w : World) (h : RdI w v zs) (hl : zs.length ≤ 1048576) :
    Calls Try.prog 23 #[v] w fun e w' => ∃ u, e = .returned u ∧ OwI w' w.heap.size u zs ∧ Nx w w' := by
  obtain ⟨A, c, rfl, hx⟩ := h
  obtain ⟨i0, hi, hz0, hz1, hz2⟩ := info_parts intInfo
  go_enter Try.func23, Try.ntmps23
  go_wp2_with (at_make; refine wpList_make_full _ rfl _ _ 33 rfl w.heap.size 3 i0 (.int .i64 0) 1 Try.underlying33 hi hz0 hz1 .i64 .i64 _ _ zs.length rfl rfl rfl rfl ?c1 ?c2 ?c3 ?_)
  case c1 => rw [hz2]; omega
  case c2 => unfold maxLen; omega
  case c3 => exact Nat.le_refl _
  intro w1 hown hg
  have hown0 : OwN w1 w.heap.size (.slice (some ⟨w.heap.size, 0, none⟩) zs.length zs.length) zs.length (zs.take 0 ++ List.replicate (zs.length - 0) 0) := by
    unfold OwN
    have e : (madeCells #[Value.int IntKind.i64 0] zs.length).toList = (zs.take 0 ++ List.replicate (zs.length - 0) 0).map (Value.int .i64) := by rw [toList_madeCells_one]; simp
    rw [← e]; exact hown
  have hb0 : Nx w w1 := (Below.refl _ _).grown hg (Nat.le_refl _) (by intro k hk; cases hk)
  clear hown hg
  go_wp2_with fail
  go_loopw [4] (fun i wr => ∃ k : Nat, k ≤ zs.length ∧ i = .int .i64 k ∧ OwN wr w.heap.size (.slice (some ⟨w.heap.size, 0, none⟩) zs.length zs.length) zs.length (zs.take k ++ List.replicate (zs.length - k) 0) ∧ Nx w wr) (fun i _ => zs.length - (intOf i).toNat)
  case atStart => exact ⟨0, Nat.zero_le _, rfl, hown0, hb0⟩
  case round =>
    obtain ⟨k, hk, rfl, hown, hb⟩ := hrel
    by_cases hlt : k < zs.length
    · obtain ⟨b0, off, rfl, hb0, hc⟩ := hx (by omega)
      have hck : wr.cell? ⟨b0, off + k, none⟩ = some (.int .i64 (gt zs k)) := (hb.cell (p := ⟨b0, off + k, none⟩) hb0).trans (hc k hlt)
      have hst := hown.cellAt hlt
      have hfr := hown.frozenAt k
      have R : OwN (wr.setCell ⟨w.heap.size, k, none⟩ (.int .i64 (gt zs k))) w.heap.size (.slice (some ⟨w.heap.size, 0, none⟩) zs.length zs.length) zs.length (zs.take (k + 1) ++ List.replicate (zs.length - (k + 1)) 0) := by
        rw [← fill_set hlt]; exact (hown.stored k _).1
      have Rb : Nx w (wr.setCell ⟨w.heap.size, k, none⟩ (.int .i64 (gt zs k))) := hb.setCell (Nat.le_refl _) _
      have R' := hide R
      have Rb' := hide Rb
      clear hc hx R Rb hown hown0 hb
      go_wp2
      go_roundw
      case rel => exact ⟨k + 1, by omega, by go_num, R'.out, Rb'.out⟩
      case measure => simp [intOf]; omega
    · obtain rfl : k = zs.length := by omega
      have R := hide hown
      have Rb := hide hb
      clear hown hown0 hb hx
      go_wp2_with fail
      go_ret
      exact ⟨_, rfl, by have := (unhide R).toI; simpa using this, unhide Rb⟩

set_option maxHeartbeats 400000 in
theorem eqIntS_same (v u : Value) (zs : List Int) (w : World) (h : RdI w v zs) (h' : RdI w u zs) (hl : zs.length ≤ 1048576) :
    Calls Try.prog 24 #[v, u] w fun e w' => e = .returned (.bool true) ∧ Nx w w' := by
  obtain ⟨A, c, rfl, hx⟩ := h
  obtain ⟨A', c', rfl, hx'⟩ := h'
  go_enter Try.func24, Try.ntmps24
  go_wp2_with fail
  go_loopw [5] (fun i wr => ∃ k m : Nat, k ≤ zs.length ∧ i = .int .i64 k ∧ wr = w.drewN m) (fun i _ => zs.length - (intOf i).toNat)
  case atStart => exact ⟨0, 0, Nat.zero_le _, rfl, rfl⟩
  case round =>
    obtain ⟨k, m, hk, rfl, rfl⟩ := hrel
    by_cases hlt : k < zs.length
    · obtain ⟨b0, off, rfl, hb0, hc⟩ := hx (by omega)
      obtain ⟨b1, off1, rfl, hb1, hc1⟩ := hx' (by omega)
      have hck := hc k hlt
      have hck1 := hc1 k hlt
      clear hc hx hc1 hx'
      go_wp2_with fail
      go_quiet (fail)
      go_wp2
      go_roundw
      case rel => exact ⟨k + 1, _, by omega, by go_num, rfl⟩
      case measure => simp [intOf]; omega
    · obtain rfl : k = zs.length := by omega
      clear hx hx'
      go_wp2_with fail
      go_ret
      exact ⟨rfl, below_drewN (Below.refl _ _) _⟩

end Go.Proofs.Ytiibegilolijlaa
