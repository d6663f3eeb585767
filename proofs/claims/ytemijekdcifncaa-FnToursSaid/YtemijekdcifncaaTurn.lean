/- Contracts of TurnedTour. -/
import Derived.Test.YtemijekdcifncaaHlp
import Derived.WalkKit
import Derived.ProofKit
import Derived.Handy
import Derived.OpenShut
import Derived.ShutString
import Derived.ChangeOld
import Derived.Below
import Derived.BigQuiet
import Derived.Deep.QuietTactic
import Derived.Deep.Draws
import Derived.Deep.DeepCutAuto
import Derived.Deep.DeepFit
import Derived.Deep.LoopGhost
import Derived.Outline
import Derived.WalkSpells
import Derived.WalkLawsBesides
import Derived.WalkSmall
import Derived.Laws.OwnMore
import Derived.OneCell
import Derived.Laws.Rows
import Derived.Maps.AppendAt
import Derived.StillTailTactics
import Derived.Lib.SmallJoins
import Derived.Deep.RegionWith
import Derived.Deep.RegionHeld3
import Derived.RegionTactic
import Derived.Deep.Matrix
import Derived.Deep.Fields
import Derived.ChangeSame
namespace Go.Proofs.Ytemijekdcifncaa
open Go.RowKit

theorem rev_take {zs : List Int} {j : Nat} (h : j < zs.length) : zs.reverse.take (j + 1) = zs.reverse.take j ++ [gt zs (zs.length - 1 - j)] := by
  rw [take_gt (by simpa using h), gt_reverse h]
theorem TurnedTour_len (zs : List Int) (h : zs.length ≤ 1048576) : zs.reverse.length ≤ 1048576 := by simpa using h

set_option maxHeartbeats 1000000 in
theorem spec_TurnedTour (v : Value) (zs : List Int) (w : World) (h : RdI w v zs) (hl : zs.length ≤ 1048576) :
    Calls Try.prog 10 #[v] w fun e w' => ∃ u, e = .returned u ∧ OwI w' w.heap.size u zs.reverse ∧ Nx w w' := by
  obtain ⟨A, c, rfl, hx⟩ := h
  go_enter Try.func10, Try.ntmps10
  go_wp2_with fail
  go_loopw [3, 4] (fun u i wr => ∃ j : Nat, j ≤ zs.length ∧ i = .int .i64 ((zs.length : Int) - 1 - j) ∧ OwI wr w.heap.size u (zs.reverse.take j) ∧ Nx w wr) (fun _ i _ => (intOf i + 1).toNat)
  case atStart => exact ⟨0, Nat.zero_le _, by go_num, OwI.made0 w, Nx.made w _⟩
  case round =>
    obtain ⟨j, hj, rfl, hown, hb⟩ := hrel
    have hsz := hb.size
    have hlen : (zs.reverse.take j).length ≤ 1048576 := by rw [List.length_take]; omega
    by_cases hlt : j < zs.length
    · obtain ⟨b0, off, rfl, hb0, hc⟩ := hx (by omega)
      have hck : wr.cell? ⟨b0, off + (zs.length - 1 - j), none⟩ = some (.int .i64 (gt zs (zs.length - 1 - j))) := (hb.cell (p := ⟨b0, off + (zs.length - 1 - j), none⟩) hb0).trans (hc _ (by omega))
      have hst := hide (rev_take hlt)
      have hidx : ((zs.length : Int) - 1 - (j : Int)).toNat = zs.length - 1 - j := by omega
      clear hc hx
      go_wp2_with (at_builtin; refine wpList_push rfl (.tmp 13) (.tmp 18) rfl wr w.heap.size _ (zs.reverse.take j) (gt zs (zs.length - 1 - j)) rfl rfl hown (by omega) hsz ?_; intro v1 w1 hown1 hg1 _; have hb1 := hb.pushed hown (Nat.le_refl _) hg1)
      go_roundw
      case rel => exact ⟨j + 1, by omega, by go_num, by rw [hst.out]; exact hown1, hb1⟩
      case measure => simp [intOf]; omega
    · obtain rfl : j = zs.length := by omega
      clear hx
      go_wp2_with fail
      go_ret
      exact ⟨_, rfl, by have := hown; rw [List.take_of_length_le (by simp)] at this; exact this, hb⟩

set_option maxHeartbeats 1000000 in
theorem impl_TurnedTour (v : Value) (zs : List Int) (w : World) (h : RdI w v zs) (hl : zs.length ≤ 1048576) :
    Calls Try.prog 12 #[v] w fun e w' => ∃ u, e = .returned u ∧ OwI w' w.heap.size u zs.reverse ∧ Nx w w' := by
  obtain ⟨A, c, rfl, hx⟩ := h
  go_enter Try.func12, Try.ntmps12
  go_wp2_with fail
  go_loopw [3, 4] (fun u i wr => ∃ j : Nat, j ≤ zs.length ∧ i = .int .i64 ((zs.length : Int) - 1 - j) ∧ OwI wr w.heap.size u (zs.reverse.take j) ∧ Nx w wr) (fun _ i _ => (intOf i + 1).toNat)
  case atStart => exact ⟨0, Nat.zero_le _, by go_num, OwI.made0 w, Nx.made w _⟩
  case round =>
    obtain ⟨j, hj, rfl, hown, hb⟩ := hrel
    have hsz := hb.size
    have hlen : (zs.reverse.take j).length ≤ 1048576 := by rw [List.length_take]; omega
    by_cases hlt : j < zs.length
    · obtain ⟨b0, off, rfl, hb0, hc⟩ := hx (by omega)
      have hck : wr.cell? ⟨b0, off + (zs.length - 1 - j), none⟩ = some (.int .i64 (gt zs (zs.length - 1 - j))) := (hb.cell (p := ⟨b0, off + (zs.length - 1 - j), none⟩) hb0).trans (hc _ (by omega))
      have hst := hide (rev_take hlt)
      have hidx : ((zs.length : Int) - 1 - (j : Int)).toNat = zs.length - 1 - j := by omega
      clear hc hx
      go_wp2_with (at_builtin; refine wpList_push rfl (.tmp 13) (.tmp 18) rfl wr w.heap.size _ (zs.reverse.take j) (gt zs (zs.length - 1 - j)) rfl rfl hown (by omega) hsz ?_; intro v1 w1 hown1 hg1 _; have hb1 := hb.pushed hown (Nat.le_refl _) hg1)
      go_roundw
      case rel => exact ⟨j + 1, by omega, by go_num, by rw [hst.out]; exact hown1, hb1⟩
      case measure => simp [intOf]; omega
    · obtain rfl : j = zs.length := by omega
      clear hx
      go_wp2_with fail
      go_ret
      exact ⟨_, rfl, by have := hown; rw [List.take_of_length_le (by simp)] at this; exact this, hb⟩

end Go.Proofs.Ytemijekdcifncaa
