/- Drawn levels. -/
import Derived.Test.YtjifdheaeopdfaaDraw
import Derived.Test.YtjifdheaeopdfaaPut
import Derived.WalkKit
import Derived.ProofKit
import Derived.Handy
import Derived.OpenShut
import Derived.ShutString
import Derived.ChangeOld
import Derived.Below
import Derived.BigQuiet
import Derived.Deep.QuietTactic
import Derived.Deep.Draws
import Derived.Deep.DeepCutAuto
import Derived.Deep.DeepFit
import Derived.Deep.LoopGhost
import Derived.Outline
import Derived.WalkSpells
import Derived.WalkLawsBesides
import Derived.WalkSmall
import Derived.Laws.OwnMore
import Derived.OneCell
import Derived.Laws.Rows
import Derived.Maps.AppendAt
import Derived.StillTailTactics
import Derived.Lib.SmallJoins
import Derived.Deep.RegionWith
import Derived.Deep.RegionHeld3
import Derived.RegionTactic
import Derived.Deep.Matrix
import Derived.Deep.Fields
import Derived.ChangeSame
namespace Go.Proofs.Ytjifdheaeopdfaa
open Go.RowKit

set_option maxHeartbeats 2000000 in
theorem DrawLevels_any (v : Value) (zs : List Int) (w : World) (hr : RdB w v zs) (hl : zs.length ≤ 1048576) :
    Calls Try.prog 27 #[v] w fun e w' => ∃ u, e = .returned u ∧ ∃ xs, OwI w' w.heap.size u xs ∧ ((1 ≤ xs.length ∧ xs.length ≤ 5) ∧ ∀ k, k < xs.length → 40 ≤ gt xs k ∧ gt xs k ≤ 59) ∧ Nx w w' := by
  go_enter Try.func27, Try.ntmps27
  go_wp2_with (go_at_call 48; fail)
  refine (l01New_any v zs w hr hl).mono ?_
  rintro e w1 ⟨rfl, hc1, hb1⟩
  go_wp2_with (go_at_call 49; fail)
  have hc2 := hc1.below (Nx.made w1 (.cells #[] 3))
  have hb2 := hb1.trans (Nx.made w1 (.cells #[] 3))
  have ho2 := (OwI.made0 w1).mono hb1.size
  refine (l01Below_any w v zs w.heap.size 5 _ hr hl hb2 hc2 (by omega) (by omega)).mono ?_
  rintro e w3 ⟨x, rfl, hx, hc3, hg3⟩
  have hb3 := hb2.grownAt hg3 (Nat.le_refl _)
  have ho3 := ho2.kept hg3 (hc2.rowI ho2)
  clear hc1 hb1 hc2 hb2 ho2 hg3
  have HC := hide hc3
  have HO := hide ho3
  have HB := hide hb3
  clear hc3 ho3 hb3
  go_wp2_with fail
  go_loopw [4, 6] (fun u i wr => ∃ (k : Nat) (xs : List Int), (k : Int) ≤ 1 + x ∧ i = .int .i64 k ∧ xs.length = k ∧ OwI wr w.heap.size u xs ∧ Hid (∀ j, j < k → 40 ≤ gt xs j ∧ gt xs j ≤ 59) ∧ Cur w wr w.heap.size v zs.length ∧ Nx w wr) (fun _ i _ => (1 + x - intOf i).toNat)
  case atStart => exact ⟨0, [], by omega, rfl, rfl, HO.out, fun j hj => absurd hj (by omega), HC.out, HB.out⟩
  case round =>
    clear HC HO HB
    obtain ⟨k, xs, hk, rfl, hlen, hown, hall, hc, hb⟩ := hrel
    have Hlen := hide hlen
    have HO := hide hown
    have HC := hide hc
    have HB := hide hb
    clear hlen hown hc hb
    by_cases hlt : (k : Int) < 1 + x
    · go_wp2_with (go_at_call 49; fail)
      refine (l01Below_any w v zs w.heap.size 20 _ hr hl HB.out HC.out (by omega) (by omega)).mono ?_
      rintro e w4 ⟨y, rfl, hy, hc4, hg4⟩
      have hb4 := HB.out.grownAt hg4 (Nat.le_refl _)
      have ho4 := HO.out.kept hg4 (HC.out.rowI HO.out)
      have hsz4 := hb4.size
      have HC4 := hide hc4
      have HO4 := hide ho4
      have HB4 := hide hb4
      clear hc4 ho4 hb4 hg4 HC HO HB
      have hl5 : xs.length ≤ 16777216 := by have := Hlen.out; omega
      go_wp2_with (at_builtin; refine wpList_push rfl (.tmp 18) (.tmp 22) rfl w4 w.heap.size _ xs (40 + y) rfl rfl HO4.out hl5 hsz4 ?_; intro v1 w5 hown1 hg1 _; have hb5 := HB4.out.pushed HO4.out (Nat.le_refl _) hg1; have hc5 := HC4.out.kept hg1 (Ne.symm (HC4.out.row HO4.out (by decide))))
      go_roundw
      case rel => exact ⟨k + 1, xs ++ [40 + y], by omega, by go_num, by simp [Hlen.out], hown1, fun j hj => by
        rcases Nat.lt_or_ge j k with h | h
        · rw [gt_append_left (by rw [Hlen.out]; exact h)]; exact hall.out j h
        · obtain rfl : j = k := by omega
          have := gt_snoc xs (40 + y)
          rw [Hlen.out] at this
          rw [this]; omega, hc5, hb5⟩
      case measure => simp [intOf]; omega
    · have hk1 : (k : Int) = 1 + x := by omega
      go_wp2_with fail
      go_ret
      exact ⟨_, rfl, xs, HO.out, ⟨by rw [Hlen.out]; omega, fun j hj => hall.out j (by rw [← Hlen.out]; exact hj)⟩, HB.out⟩

end Go.Proofs.Ytjifdheaeopdfaa
