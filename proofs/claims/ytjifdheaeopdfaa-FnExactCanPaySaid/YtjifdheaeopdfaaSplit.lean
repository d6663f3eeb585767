/- Contracts of split and ChangeFor. -/
import Derived.Test.YtjifdheaeopdfaaPut
import Derived.WalkKit
import Derived.ProofKit
import Derived.Handy
import Derived.OpenShut
import Derived.ShutString
import Derived.ChangeOld
import Derived.Below
import Derived.BigQuiet
import Derived.Deep.QuietTactic
import Derived.Deep.Draws
import Derived.Deep.DeepCutAuto
import Derived.Deep.DeepFit
import Derived.Deep.LoopGhost
import Derived.Outline
import Derived.WalkSpells
import Derived.WalkLawsBesides
import Derived.WalkSmall
import Derived.Laws.OwnMore
import Derived.OneCell
import Derived.Laws.Rows
import Derived.Maps.AppendAt
import Derived.StillTailTactics
import Derived.Lib.SmallJoins
import Derived.Deep.RegionWith
import Derived.Deep.RegionHeld3
import Derived.RegionTactic
import Derived.Deep.Matrix
import Derived.Deep.Fields
import Derived.ChangeSame
namespace Go.Proofs.Ytjifdheaeopdfaa
open Go.RowKit

theorem OwN.open_ {w : World} {B n : Nat} {v : Value} {zs : List Int} (h : OwN w B v n zs) (hn : 0 < n) : ∃ g c, v = .slice (some ⟨g, 0, none⟩) n c := by
  have hl := h.len
  subst hl
  rcases (OwN.toI h).form with ⟨rfl, rfl⟩ | ⟨g, cap, rfl, _⟩
  · simp at hn
  · exact ⟨g, cap, rfl⟩

/-- the values of coins and notes. -/
def pcs : List Int := [50, 20, 10, 5, 2, 1]
theorem pcs_bd {k : Nat} (hk : k < 6) : 1 ≤ gt pcs k ∧ gt pcs k ≤ 50 := by
  match k, hk with
  | 0, _ => decide
  | 1, _ => decide
  | 2, _ => decide
  | 3, _ => decide
  | 4, _ => decide
  | 5, _ => decide
/-- what is left after k kinds. -/
def remTo (s : Int) : Nat → Int
  | 0 => s
  | k + 1 => remTo s k % gt pcs k
/-- how many pieces of the first k kinds. -/
def splitTo (s : Int) : Nat → List Int
  | 0 => []
  | k + 1 => splitTo s k ++ [remTo s k / gt pcs k]
theorem splitTo_length (s : Int) (k : Nat) : (splitTo s k).length = k := by
  induction k with
  | zero => rfl
  | succ k ih => simp [splitTo, ih]
theorem remTo_bd {s : Int} (h0 : 0 ≤ s) (h1 : s ≤ 10000) {k : Nat} (hk : k ≤ 6) : 0 ≤ remTo s k ∧ remTo s k ≤ 10000 := by
  induction k with
  | zero => exact ⟨h0, h1⟩
  | succ k ih =>
    have := ih (by omega)
    have hb := pcs_bd (k := k) (by omega)
    simp only [remTo]
    have h2 := Int.emod_nonneg (remTo s k) (b := gt pcs k) (by omega)
    have h3 := Int.emod_lt_of_pos (remTo s k) (b := gt pcs k) (by omega)
    omega

set_option maxHeartbeats 400000 in
theorem pieces_any (w : World) : Calls Try.prog 52 #[] w fun e w' => ∃ u, e = .returned u ∧ OwI w' w.heap.size u pcs ∧ Nx w w' := by
  go_enter Try.func52, Try.ntmps52
  go_wp2
  go_ret
  refine ⟨_, rfl, ?_, Nx.made w _⟩
  exact World.ownsRow_lit w #[.int .i64 50, .int .i64 20, .int .i64 10, .int .i64 5, .int .i64 2, .int .i64 1] 6 (Nat.le_refl _) (by unfold maxLen; omega) rfl

set_option maxHeartbeats 400000 in
theorem l25Piece_any (k : Nat) (hk : k < 6) (w : World) : Calls Try.prog 50 #[.int .i64 (k : Int)] w fun e w' => e = .returned (.int .i64 (gt pcs k)) ∧ w = w' := by
  match k, hk with
  | 0, _ | 1, _ | 2, _ | 3, _ | 4, _ | 5, _ =>
    go_enter Try.func50, Try.ntmps50
    go_wp2
    go_ret
    exact ⟨rfl, rfl⟩

set_option maxHeartbeats 1000000 in
theorem split_any (s : Int) (w : World) (h0 : 0 ≤ s) (h1 : s ≤ 10000) : Calls Try.prog 51 #[.int .i64 s] w fun e w' => ∃ u, e = .returned u ∧ OwI w' w.heap.size u (splitTo s 6) ∧ Nx w w' := by
  go_enter Try.func51, Try.ntmps51
  go_wp2_with (go_at_call 52; fail)
  refine (pieces_any _).mono ?_
  rintro e w1 ⟨u, rfl, hown, hb1⟩
  have ho0 : OwI w1 w.heap.size (.slice (some ⟨w.heap.size, 0, none⟩) 0 0) [] := (OwI.made0 w).below hb1
  have hb0 : Nx w w1 := (Nx.made w _).trans hb1
  have hownN : OwN w1 _ u 6 pcs := hown.toN
  obtain ⟨g, cg, hu⟩ := hownN.open_ (by omega)
  subst hu
  have hgl := hownN.block.2
  have hgw : w.heap.size + 1 ≤ g := by have := hownN.block.1; simpa using this
  have hcell : Hid (∀ j, j < 6 → w1.cell? ⟨g, j, none⟩ = some (.int .i64 (gt pcs j))) := fun j hj => hownN.cellAt hj
  have hkeep0 : OwN w1 (w.heap.size + 1) (.slice (some ⟨g, 0, none⟩) 6 cg) 6 pcs := by have := hownN; simpa using this
  have hkeep := hide hkeep0
  clear hkeep0
  clear hown hownN hb1
  go_wp2_with fail
  go_loopw [0, 3, 9] (fun r u i wr => ∃ k : Nat, k ≤ 6 ∧ i = .int .i64 k ∧ r = .int .i64 (remTo s k) ∧ OwI wr w.heap.size u (splitTo s k) ∧ Nx w wr ∧ Hid (OwN wr (w.heap.size + 1) (.slice (some ⟨g, 0, none⟩) 6 cg) 6 pcs) ∧ u.ownBlock ≠ some g) (fun _ _ i _ => 6 - (intOf i).toNat)
  case atStart => exact ⟨0, by omega, rfl, rfl, ho0, hb0, hkeep, by simp [Value.ownBlock]; omega⟩
  case round =>
    clear ho0 hb0 hkeep hcell hgl
    obtain ⟨k, hk, rfl, rfl, hown, hb, hkp, hne⟩ := hrel
    have hsz := hb.size
    have hlen := splitTo_length s k
    have hlen2 : (splitTo s k).length ≤ 6 := by omega
    clear hlen
    by_cases hlt : k < 6
    · have hck := hkp.out.cellAt hlt
      have b1 := pcs_bd hlt
      have b2 := remTo_bd h0 h1 hk
      have e1 : Hid (splitTo s k ++ [remTo s k / gt pcs k] = splitTo s (k + 1)) := rfl
      go_wp2_with (at_builtin; refine wpList_push rfl (.tmp 13) (.tmp 17) rfl wr w.heap.size _ (splitTo s k) (remTo s k / gt pcs k) rfl rfl hown (by omega) hsz ?_; intro v1 w2 hown1 hg1 hat1; have hb1 := hb.pushed hown (Nat.le_refl _) hg1)
      go_roundw
      case rel => exact ⟨k + 1, by omega, by go_num, rfl, by rw [← e1.out]; exact hown1, hb1, World.ownsRow.kept hkp.out hg1 (.inr (fun e => hne (e ▸ rfl))), by
        rcases hat1 with e | e
        · rw [e]; exact hne
        · rw [e]; have := hkp.out.block.2; simp; omega⟩
      case measure => simp [intOf]; omega
    · obtain rfl : k = 6 := by omega
      go_wp2_with fail
      go_ret
      exact ⟨_, rfl, hown, hb⟩

/-- the change. -/
def changeL (sum paid : Int) : List Int := if inR paid 0 10000 && inR sum 0 paid then splitTo (paid - sum) 6 else []
theorem ChangeFor_len (sum paid : Int) : (changeL sum paid).length ≤ 1048576 := by
  unfold changeL
  split
  · rw [splitTo_length]; omega
  · simp

set_option maxHeartbeats 1000000 in
theorem impl_ChangeFor (a b : Int) (w : World) (_ : I64 a) (_ : I64 b) : Calls Try.prog 34 #[.int .i64 a, .int .i64 b] w fun e w' => ∃ u, e = .returned u ∧ OwI w' w.heap.size u (changeL a b) ∧ Nx w w' := by
  cases h1 : inR b 0 10000 with
  | false =>
    have hf := hide (show changeL a b = [] from by simp [changeL, h1])
    go_enter Try.func34, Try.ntmps34
    go_wp2_with (go_at_call 42; refine (within_any _ _ _ _).mono ?_; rintro e w' ⟨rfl, rfl⟩)
    go_ret
    exact ⟨_, rfl, by rw [hf.out]; exact OwI.nil _ _, Below.refl _ _⟩
  | true =>
    cases h2 : inR a 0 b with
    | false =>
      have hf := hide (show changeL a b = [] from by simp [changeL, h2])
      go_enter Try.func34, Try.ntmps34
      go_wp2_with (go_at_call 42; refine (within_any _ _ _ _).mono ?_; rintro e w' ⟨rfl, rfl⟩)
      go_ret
      exact ⟨_, rfl, by rw [hf.out]; exact OwI.nil _ _, Below.refl _ _⟩
    | true =>
      have hf := hide (show changeL a b = splitTo (b - a) 6 from by simp [changeL, h1, h2])
      have b1 := inR_iff.1 h1
      have b2 := inR_iff.1 h2
      go_enter Try.func34, Try.ntmps34
      go_wp2_with (first | (go_at_call 42; refine (within_any _ _ _ _).mono ?_; rintro e w' ⟨rfl, rfl⟩) | (go_at_call 51; refine (split_any _ _ (by omega) (by omega)).mono ?_; rintro e w1 ⟨u, rfl, hown, hb⟩))
      go_ret
      exact ⟨_, rfl, by rw [hf.out]; exact hown, hb⟩

set_option maxHeartbeats 1000000 in
theorem spec_ChangeFor (a b : Int) (w : World) (_ : I64 a) (_ : I64 b) : Calls Try.prog 33 #[.int .i64 a, .int .i64 b] w fun e w' => ∃ u, e = .returned u ∧ OwI w' w.heap.size u (changeL a b) ∧ Nx w w' := by
  cases h1 : inR b 0 10000 with
  | false =>
    have hf := hide (show changeL a b = [] from by simp [changeL, h1])
    go_enter Try.func33, Try.ntmps33
    go_wp2_with (go_at_call 41; refine (l01In_any _ _ _ _).mono ?_; rintro e w' ⟨rfl, rfl⟩)
    go_ret
    exact ⟨_, rfl, by rw [hf.out]; exact OwI.made0 _, Nx.made _ _⟩
  | true =>
    cases h2 : inR a 0 b with
    | false =>
      have hf := hide (show changeL a b = [] from by simp [changeL, h2])
      go_enter Try.func33, Try.ntmps33
      go_wp2_with (go_at_call 41; refine (l01In_any _ _ _ _).mono ?_; rintro e w' ⟨rfl, rfl⟩)
      go_ret
      exact ⟨_, rfl, by rw [hf.out]; exact OwI.made0 _, Nx.made _ _⟩
    | true =>
      have hf := hide (show changeL a b = splitTo (b - a) 6 from by simp [changeL, h1, h2])
      have b1 := inR_iff.1 h1
      have b2 := inR_iff.1 h2
      go_enter Try.func33, Try.ntmps33
      go_wp2_with (go_at_call 41; refine (l01In_any _ _ _ _).mono ?_; rintro e w' ⟨rfl, rfl⟩)
      clear h1 h2
      go_loopw [5, 6, 7] (fun u r i wr => ∃ k : Nat, k ≤ 6 ∧ i = .int .i64 k ∧ r = .int .i64 (remTo (b - a) k) ∧ OwI wr w.heap.size u (splitTo (b - a) k) ∧ Nx w wr) (fun _ _ i _ => 6 - (intOf i).toNat)
      case atStart => exact ⟨0, by omega, rfl, rfl, OwI.made0 _, Nx.made _ _⟩
      case round =>
        obtain ⟨k, hk, rfl, rfl, hown, hb⟩ := hrel
        have hsz := hb.size
        have hlen := splitTo_length (b - a) k
        have hlen2 : (splitTo (b - a) k).length ≤ 6 := by omega
        clear hlen
        by_cases hlt : k < 6
        · have b3 := pcs_bd hlt
          have b4 := remTo_bd (s := b - a) (by omega) (by omega) hk
          have e1 : Hid (splitTo (b - a) k ++ [remTo (b - a) k / gt pcs k] = splitTo (b - a) (k + 1)) := rfl
          have e2 : Hid (remTo (b - a) (k + 1) = remTo (b - a) k % gt pcs k) := rfl
          generalize remTo (b - a) k = rk at b4 e1 e2
          go_wp2_with (first
            | (go_at_call 50; refine (l25Piece_any k hlt _).mono ?_; rintro e w' ⟨rfl, rfl⟩)
            | (at_builtin; refine wpList_push rfl (.tmp 26) (.tmp 31) rfl wr w.heap.size _ (splitTo (b - a) k) (rk / gt pcs k) rfl rfl hown (by omega) hsz ?_; intro v1 w2 hown1 hg1 hat1; have hb1 := hb.pushed hown (Nat.le_refl _) hg1))
          go_roundw
          case rel => exact ⟨k + 1, by omega, by go_num, by rw [e2.out], by rw [← e1.out]; exact hown1, hb1⟩
          case measure => simp [intOf]; omega
        · obtain rfl : k = 6 := by omega
          go_wp2_with fail
          go_ret
          exact ⟨_, rfl, by rw [hf.out]; exact hown, hb⟩

end Go.Proofs.Ytjifdheaeopdfaa
