/- Drawn chests. -/
import Derived.Test.YtmleamknongknaaDraw
import Derived.WalkKit
import Derived.ProofKit
import Derived.Handy
import Derived.OpenShut
import Derived.ShutString
import Derived.ChangeOld
import Derived.Below
import Derived.BigQuiet
import Derived.Deep.QuietTactic
import Derived.Deep.Draws
import Derived.Deep.DeepCutAuto
import Derived.Deep.DeepFit
import Derived.Deep.LoopGhost
import Derived.Outline
import Derived.WalkSpells
import Derived.WalkLawsBesides
import Derived.WalkSmall
import Derived.Laws.OwnMore
import Derived.OneCell
import Derived.Laws.Rows
import Derived.Maps.AppendAt
import Derived.StillTailTactics
import Derived.Lib.SmallJoins
import Derived.Deep.RegionWith
import Derived.Deep.RegionHeld3
import Derived.RegionTactic
import Derived.Deep.Matrix
import Derived.Deep.Fields
import Derived.ChangeSame
namespace Go.Proofs.Ytmleamknongknaa
open Go.RowKit

set_option maxHeartbeats 2000000 in
theorem DrawChests_any (v : Value) (zs : List Int) (w : World) (hr : RdB w v zs) (hl : zs.length ≤ 1048576) :
    Calls Try.prog 32 #[v] w fun e w' => ∃ u ea, e = .returned (.tuple #[u, .int .i64 ea]) ∧ ∃ xs, OwI w' w.heap.size u xs ∧ ((1 ≤ xs.length ∧ xs.length ≤ 8) ∧ ∀ k, k < xs.length → 20 ≤ gt xs k ∧ gt xs k ≤ 79) ∧ (0 ≤ ea ∧ ea < 15) ∧ Nx w w' := by
  go_enter Try.func32, Try.ntmps32
  go_wp2_with (go_at_call 41; fail)
  refine (l01New_any v zs w hr hl).mono ?_
  rintro e w1 ⟨rfl, hc1, hb1⟩
  go_wp2_with (go_at_call 42; fail)
  have hc2 := hc1.below (Nx.made w1 (.cells #[] 3))
  have hb2 := hb1.trans (Nx.made w1 (.cells #[] 3))
  have ho2 := (OwI.made0 w1).mono hb1.size
  refine (l01Below_any w v zs w.heap.size 8 _ hr hl hb2 hc2 (by omega) (by omega)).mono ?_
  rintro e w3 ⟨x, rfl, hx, hc3, hg3⟩
  have hb3 := hb2.grownAt hg3 (Nat.le_refl _)
  have ho3 := ho2.kept hg3 (hc2.rowI ho2)
  clear hc1 hb1 hc2 hb2 ho2 hg3
  have HC := hide hc3
  have HO := hide ho3
  have HB := hide hb3
  clear hc3 ho3 hb3
  go_wp2_with fail
  go_loopw [5, 7] (fun u i wr => ∃ (k : Nat) (xs : List Int), (k : Int) ≤ 1 + x ∧ i = .int .i64 k ∧ xs.length = k ∧ OwI wr w.heap.size u xs ∧ Hid (∀ j, j < k → 20 ≤ gt xs j ∧ gt xs j ≤ 79) ∧ Cur w wr w.heap.size v zs.length ∧ Nx w wr) (fun _ i _ => (1 + x - intOf i).toNat)
  case atStart => exact ⟨0, [], by omega, rfl, rfl, HO.out, fun j hj => absurd hj (by omega), HC.out, HB.out⟩
  case round =>
    clear HC HO HB
    obtain ⟨k, xs, hk, rfl, hlen, hown, hall, hc, hb⟩ := hrel
    have Hlen := hide hlen
    have HO := hide hown
    have HC := hide hc
    have HB := hide hb
    clear hlen hown hc hb
    by_cases hlt : (k : Int) < 1 + x
    · go_wp2_with (go_at_call 42; fail)
      refine (l01Below_any w v zs w.heap.size 60 _ hr hl HB.out HC.out (by omega) (by omega)).mono ?_
      rintro e w4 ⟨y, rfl, hy, hc4, hg4⟩
      have hb4 := HB.out.grownAt hg4 (Nat.le_refl _)
      have ho4 := HO.out.kept hg4 (HC.out.rowI HO.out)
      have hsz4 := hb4.size
      have HC4 := hide hc4
      have HO4 := hide ho4
      have HB4 := hide hb4
      clear hc4 ho4 hb4 hg4 HC HO HB
      have hl5 : xs.length ≤ 16777216 := by have := Hlen.out; omega
      go_wp2_with (at_builtin; refine wpList_push rfl (.tmp 19) (.tmp 23) rfl w4 w.heap.size _ xs (20 + y) rfl rfl HO4.out hl5 hsz4 ?_; intro v1 w5 hown1 hg1 _; have hb5 := HB4.out.pushed HO4.out (Nat.le_refl _) hg1; have hc5 := HC4.out.kept hg1 (Ne.symm (HC4.out.row HO4.out (by decide))))
      go_roundw
      case rel => exact ⟨k + 1, xs ++ [20 + y], by omega, by go_num, by simp [Hlen.out], hown1, fun j hj => by
        rcases Nat.lt_or_ge j k with h | h
        · rw [gt_append_left (by rw [Hlen.out]; exact h)]; exact hall.out j h
        · obtain rfl : j = k := by omega
          have := gt_snoc xs (20 + y)
          rw [Hlen.out] at this
          rw [this]; omega, hc5, hb5⟩
      case measure => simp [intOf]; omega
    · have hk1 : (k : Int) = 1 + x := by omega
      go_wp2_with (go_at_call 42; fail)
      refine (l01Below_any w v zs w.heap.size 15 _ hr hl HB.out HC.out (by omega) (by omega)).mono ?_
      rintro e w4 ⟨y, rfl, hy, hc4, hg4⟩
      have HB4 := hide (HB.out.grownAt hg4 (Nat.le_refl _))
      have HO4 := hide (HO.out.kept hg4 (HC.out.rowI HO.out))
      clear hc4 hg4 HC HO HB
      go_wp2_with fail
      go_ret2
      exact ⟨_, _, rfl, xs, HO4.out, ⟨by rw [Hlen.out]; omega, fun j hj => hall.out j (by rw [← Hlen.out]; exact hj)⟩, hy, HB4.out⟩

set_option maxHeartbeats 400000 in
theorem btoi_any (b : Bool) (w : World) : Calls Try.prog 33 #[.bool b] w fun e w' => e = .returned (.int .i64 (if b then 1 else 0)) ∧ w = w' := by
  cases b with
  | true =>
    go_enter Try.func33, Try.ntmps33
    go_wp2
    go_ret
    exact ⟨rfl, rfl⟩
  | false =>
    go_enter Try.func33, Try.ntmps33
    go_wp2
    go_ret
    exact ⟨rfl, rfl⟩
set_option maxHeartbeats 1000000 in
theorem has_yes (v : Value) (zs : List Int) (x : Int) (w : World) (h : RdI w v zs) (hl : zs.length ≤ 1048576) (hm : x ∈ zs) : Calls Try.prog 34 #[v, .int .i64 x] w fun e w' => e = .returned (.bool true) ∧ w = w' := by
  obtain ⟨A, c, rfl, hx⟩ := h
  have Hm := hide hm
  clear hm
  go_enter Try.func34, Try.ntmps34
  go_wp2_with fail
  go_loopw [5] (fun i wr => ∃ k : Nat, k ≤ zs.length ∧ i = .int .i64 k ∧ wr = w ∧ Hid (∀ j, j < k → gt zs j ≠ x)) (fun i _ => zs.length - (intOf i).toNat)
  case atStart => exact ⟨0, Nat.zero_le _, rfl, (by first | trivial | rfl), fun j hj => absurd hj (by omega)⟩
  case round =>
    obtain ⟨k, hk, rfl, rfl, hall⟩ := hrel
    by_cases hlt : k < zs.length
    · obtain ⟨b0, off, rfl, hb0, hc⟩ := hx (by omega)
      have hck := hc k hlt
      have hk1 : (k : Int) < (zs.length : Int) := by omega
      clear hc hx
      by_cases he : gt zs k = x
      · have e1 : (gt zs k == x) = true := by simpa using he
        clear he
        go_wp2_with fail
        go_ret
        exact ⟨rfl, rfl⟩
      · have e1 : (gt zs k == x) = false := by simpa using he
        have HE := hide he
        clear he
        go_wp2_with fail
        go_roundw
        case rel => exact ⟨k + 1, by omega, by go_num, (by first | trivial | rfl), fun j hj => by
          rcases Nat.lt_or_ge j k with h | h
          · exact hall.out j h
          · obtain rfl : j = k := by omega
            exact HE.out⟩
        case measure => simp [intOf]; omega
    · obtain rfl : k = zs.length := by omega
      obtain ⟨j, hj, rfl⟩ := List.getElem_of_mem Hm.out
      exact absurd (gt_getElem hj) (hall.out j hj)

theorem btoi_true (w : World) : Calls Try.prog 33 #[.bool true] w fun e w' => e = .returned (.int .i64 1) ∧ w = w' := btoi_any true w
theorem btoi_false (w : World) : Calls Try.prog 33 #[.bool false] w fun e w' => e = .returned (.int .i64 0) ∧ w = w' := btoi_any false w

end Go.Proofs.Ytmleamknongknaa
