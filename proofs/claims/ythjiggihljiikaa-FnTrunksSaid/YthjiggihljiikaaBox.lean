/- Contracts of BoxesOk and IsFragile. -/
import Derived.Test.YthjiggihljiikaaHlp
import Derived.WalkKit
import Derived.ProofKit
import Derived.Handy
import Derived.OpenShut
import Derived.ShutString
import Derived.ChangeOld
import Derived.Below
import Derived.BigQuiet
import Derived.Deep.QuietTactic
import Derived.Deep.Draws
import Derived.Deep.DeepCutAuto
import Derived.Deep.DeepFit
import Derived.Deep.LoopGhost
import Derived.Outline
import Derived.WalkSpells
import Derived.WalkLawsBesides
import Derived.WalkSmall
import Derived.Laws.OwnMore
import Derived.OneCell
import Derived.Laws.Rows
import Derived.Maps.AppendAt
import Derived.StillTailTactics
import Derived.Lib.SmallJoins
import Derived.Deep.RegionWith
import Derived.Deep.RegionHeld3
import Derived.RegionTactic
import Derived.Deep.Matrix
import Derived.Deep.Fields
import Derived.ChangeSame
namespace Go.Proofs.Ythjiggihljiikaa
open Go.RowKit

/-- sizes and a room are ones. -/
def boxesOk (zs : List Int) (room : Int) : Bool := decide (zs.length ≤ 12) && inR room 1 1000 && allW 1 room zs
theorem boxesOk_iff {zs : List Int} {room : Int} : boxesOk zs room = true ↔ zs.length ≤ 12 ∧ (1 ≤ room ∧ room ≤ 1000) ∧ ∀ k, k < zs.length → 1 ≤ gt zs k ∧ gt zs k ≤ room := by
  simp only [boxesOk, Bool.and_eq_true, decide_eq_true_eq, inR_iff, allW_iff, and_assoc]

set_option maxHeartbeats 1000000 in
theorem spec_BoxesOk (v : Value) (zs : List Int) (room : Int) (w : World) (h : RdI w v zs) (hl : zs.length ≤ 1048576) (_ : I64 room) :
    Calls Try.prog 10 #[v, .int .i64 room] w fun e w' => e = .returned (.bool (boxesOk zs room)) ∧ Nx w w' := by
  obtain ⟨A, c, rfl, hx⟩ := h
  go_enter Try.func10, Try.ntmps10
  go_wp2_with fail
  go_loop [5] (fun i => ∃ k : Nat, k ≤ zs.length ∧ i = .int .i64 k ∧ Hid (∀ j, j < k → inR (gt zs j) 1 room = true)) (fun i => zs.length - (intOf i).toNat)
  case atStart => exact ⟨0, Nat.zero_le _, rfl, fun j hj => absurd hj (by omega)⟩
  case round =>
    obtain ⟨k, hk, rfl, hall⟩ := hrel
    by_cases hlt : k < zs.length
    · obtain ⟨b0, off, rfl, hb0, hc⟩ := hx (by omega)
      have hck := hc k hlt
      clear hc hx
      cases hin : inR (gt zs k) 1 room with
      | true =>
        go_wp2_with (go_at_call 28; refine (l01In_any _ _ _ _).mono ?_; rintro e w' ⟨rfl, rfl⟩)
        go_round
        case rel => exact ⟨k + 1, by omega, by go_num, fun j hj => by
          rcases Nat.lt_or_ge j k with h | h
          · exact hall.out j h
          · obtain rfl : j = k := by omega
            exact hin⟩
        case measure => simp [intOf]; omega
      | false =>
        have hf := hide (show boxesOk zs room = false from by simp [boxesOk, allW_false hlt hin])
        go_wp2_with (go_at_call 28; refine (l01In_any _ _ _ _).mono ?_; rintro e w' ⟨rfl, rfl⟩)
        go_ret
        exact ⟨ret_bool hf.out.symm, Below.refl _ _⟩
    · obtain rfl : k = zs.length := by omega
      have hw := allW_of hall.out
      cases hr : inR room 1 1000 with
      | true =>
        have hf := hide (show boxesOk zs room = decide ((zs.length : Int) ≤ 12) from by
          simp only [boxesOk, hw, hr, Bool.and_true]
          rw [Bool.eq_iff_iff]; simp; omega)
        clear hw hx
        go_wp2_with (go_at_call 28; refine (l01In_any _ _ _ _).mono ?_; rintro e w' ⟨rfl, rfl⟩)
        go_ret
        exact ⟨ret_bool hf.out.symm, Below.refl _ _⟩
      | false =>
        have hf := hide (show boxesOk zs room = false from by simp [boxesOk, hr])
        clear hw hx
        go_wp2_with (go_at_call 28; refine (l01In_any _ _ _ _).mono ?_; rintro e w' ⟨rfl, rfl⟩)
        go_ret
        exact ⟨ret_bool hf.out.symm, Below.refl _ _⟩

set_option maxHeartbeats 1000000 in
theorem impl_BoxesOk (v : Value) (zs : List Int) (room : Int) (w : World) (h : RdI w v zs) (hl : zs.length ≤ 1048576) (_ : I64 room) :
    Calls Try.prog 12 #[v, .int .i64 room] w fun e w' => e = .returned (.bool (boxesOk zs room)) ∧ Nx w w' := by
  have hv := h
  obtain ⟨A, c, rfl, hx⟩ := h
  clear hx
  by_cases h1 : zs.length ≤ 12
  · cases h2 : inR room 1 1000 with
    | true =>
      have hf := hide (show boxesOk zs room = allW 1 room zs from by simp [boxesOk, h1, h2])
      go_enter Try.func12, Try.ntmps12
      go_wp2_with (first | (go_at_call 29; refine (within_any _ _ _ _).mono ?_; rintro e w' ⟨rfl, rfl⟩) | (go_at_call 30; refine (allWithin_any _ _ _ _ _ hv hl).mono ?_; rintro e w' ⟨rfl, rfl⟩))
      go_ret
      exact ⟨ret_bool hf.out.symm, Below.refl _ _⟩
    | false =>
      have hf := hide (show boxesOk zs room = false from by simp [boxesOk, h2])
      go_enter Try.func12, Try.ntmps12
      go_wp2_with (first | (go_at_call 29; refine (within_any _ _ _ _).mono ?_; rintro e w' ⟨rfl, rfl⟩) | (go_at_call 30; refine (allWithin_any _ _ _ _ _ hv hl).mono ?_; rintro e w' ⟨rfl, rfl⟩))
      go_ret
      exact ⟨ret_bool hf.out.symm, Below.refl _ _⟩
  · have hf := hide (show boxesOk zs room = false from by simp [boxesOk, h1])
    go_enter Try.func12, Try.ntmps12
    go_wp2_with (first | (go_at_call 29; refine (within_any _ _ _ _).mono ?_; rintro e w' ⟨rfl, rfl⟩) | (go_at_call 30; refine (allWithin_any _ _ _ _ _ hv hl).mono ?_; rintro e w' ⟨rfl, rfl⟩))
    go_ret
    exact ⟨ret_bool hf.out.symm, Below.refl _ _⟩

/-- the smallest of all, at place k. -/
def fragL (zs : List Int) (k : Nat) : Bool := (List.range zs.length).all fun i => decide (i = k) || decide (gt zs k < gt zs i)
theorem fragL_true {zs : List Int} {k : Nat} (h : ∀ i, i < zs.length → i ≠ k → gt zs k < gt zs i) : fragL zs k = true := by
  unfold fragL
  rw [List.all_eq_true]
  intro i hi
  have := List.mem_range.1 hi
  by_cases e : i = k
  · simp [e]
  · simp [h i this e]
theorem fragL_false {zs : List Int} {k i : Nat} (hi : i < zs.length) (hne : i ≠ k) (h : gt zs i ≤ gt zs k) : fragL zs k = false := by
  rw [Bool.eq_false_iff]
  intro ht
  have := List.all_eq_true.1 ht i (List.mem_range.2 hi)
  simp [hne] at this
  omega
/-- what IsFragile answers. -/
def fragile (zs : List Int) (k : Int) : Bool := inR k 0 ((zs.length : Int) - 1) && fragL zs k.toNat

set_option maxHeartbeats 1000000 in
theorem impl_IsFragile (v : Value) (zs : List Int) (k : Int) (w : World) (h : RdI w v zs) (hl : zs.length ≤ 1048576) (_ : I64 k) :
    Calls Try.prog 15 #[v, .int .i64 k] w fun e w' => e = .returned (.bool (fragile zs k)) ∧ Nx w w' := by
  obtain ⟨A, c, rfl, hx⟩ := h
  cases h1 : inR k 0 ((zs.length : Int) - 1) with
  | false =>
    have hf := hide (show fragile zs k = false from by simp [fragile, h1])
    go_enter Try.func15, Try.ntmps15
    go_wp2_with (go_at_call 29; refine (within_any _ _ _ _).mono ?_; rintro e w' ⟨rfl, rfl⟩)
    go_ret
    exact ⟨ret_bool hf.out.symm, Below.refl _ _⟩
  | true =>
    have b1 := inR_iff.1 h1
    obtain ⟨K, rfl⟩ := Int.eq_ofNat_of_zero_le b1.1
    have hK : K < zs.length := by omega
    have hfr := hide (show fragile zs (K : Int) = fragL zs K from by simp [fragile, h1])
    clear b1
    obtain ⟨b0, off, rfl, hb0, hc⟩ := hx (by omega)
    have hcK := hc K hK
    have Hc := hide hc
    clear hc hx
    go_enter Try.func15, Try.ntmps15
    go_wp2_with (go_at_call 29; refine (within_any _ _ _ _).mono ?_; rintro e w' ⟨rfl, rfl⟩)
    go_loop [15] (fun i => ∃ j : Nat, j ≤ zs.length ∧ i = .int .i64 j ∧ Hid (∀ i, i < j → i ≠ K → gt zs K < gt zs i)) (fun i => zs.length - (intOf i).toNat)
    case atStart => exact ⟨0, Nat.zero_le _, rfl, fun j hj => absurd hj (by omega)⟩
    case round =>
      clear h1
      obtain ⟨j, hj, rfl, hall⟩ := hrel
      by_cases hlt : j < zs.length
      · have hcj := Hc.out j hlt
        by_cases hjk : j = K
        · subst hjk
          go_wp2_with fail
          go_round
          case rel => exact ⟨j + 1, by omega, by go_num, fun i hi hne => hall.out i (by omega) hne⟩
          case measure => simp [intOf]; omega
        · have hne1 : ((j : Int) == (K : Int)) = false := by simp; omega
          have hne2 : ((j : Int) != (K : Int)) = true := by simp; omega
          by_cases hle : gt zs j ≤ gt zs K
          · have hf := hide (fragL_false hlt hjk hle)
            go_wp2_with fail
            go_ret
            exact ⟨ret_bool (by rw [hfr.out, hf.out]), Below.refl _ _⟩
          · go_wp2_with fail
            go_round
            case rel => exact ⟨j + 1, by omega, by go_num, fun i hi hne => by
              rcases Nat.lt_or_ge i j with h | h
              · exact hall.out i h hne
              · obtain rfl : i = j := by omega
                omega⟩
            case measure => simp [intOf]; omega
      · obtain rfl : j = zs.length := by omega
        have hf := hide (fragL_true hall.out)
        go_wp2_with fail
        go_ret
        exact ⟨ret_bool (by rw [hfr.out, hf.out]), Below.refl _ _⟩

set_option maxHeartbeats 1000000 in
theorem spec_IsFragile (v : Value) (zs : List Int) (k : Int) (w : World) (h : RdI w v zs) (hl : zs.length ≤ 1048576) (_ : I64 k) :
    Calls Try.prog 14 #[v, .int .i64 k] w fun e w' => e = .returned (.bool (fragile zs k)) ∧ Nx w w' := by
  obtain ⟨A, c, rfl, hx⟩ := h
  cases h1 : inR k 0 ((zs.length : Int) - 1) with
  | false =>
    have hf := hide (show fragile zs k = false from by simp [fragile, h1])
    go_enter Try.func14, Try.ntmps14
    go_wp2_with (go_at_call 28; refine (l01In_any _ _ _ _).mono ?_; rintro e w' ⟨rfl, rfl⟩)
    go_ret
    exact ⟨ret_bool hf.out.symm, Below.refl _ _⟩
  | true =>
    have b1 := inR_iff.1 h1
    obtain ⟨K, rfl⟩ := Int.eq_ofNat_of_zero_le b1.1
    have hK : K < zs.length := by omega
    have hfr := hide (show fragile zs (K : Int) = fragL zs K from by simp [fragile, h1])
    clear b1
    obtain ⟨b0, off, rfl, hb0, hc⟩ := hx (by omega)
    have hcK := hc K hK
    have Hc := hide hc
    clear hc hx
    go_enter Try.func14, Try.ntmps14
    go_wp2_with (go_at_call 28; refine (l01In_any _ _ _ _).mono ?_; rintro e w' ⟨rfl, rfl⟩)
    go_loopw [5] (fun i wr => ∃ j m : Nat, j ≤ zs.length ∧ i = .int .i64 j ∧ wr = w.drewN m ∧ Hid (∀ i, i < j → i ≠ K → gt zs K < gt zs i)) (fun i _ => zs.length - (intOf i).toNat)
    case atStart => exact ⟨0, 0, Nat.zero_le _, rfl, rfl, fun j hj => absurd hj (by omega)⟩
    case round =>
      clear h1
      obtain ⟨j, m, hj, rfl, rfl, hall⟩ := hrel
      by_cases hlt : j < zs.length
      · have hcj := Hc.out j hlt
        by_cases hjk : j = K
        · subst hjk
          go_wp2_with fail
          go_quiet (fail)
          go_wp2
          go_roundw
          case rel => exact ⟨j + 1, _, by omega, by go_num, rfl, fun i hi hne => hall.out i (by omega) hne⟩
          case measure => simp [intOf]; omega
        · have hne1 : ((j : Int) == (K : Int)) = false := by simp; omega
          have hne2 : ((j : Int) != (K : Int)) = true := by simp; omega
          by_cases hle : gt zs j ≤ gt zs K
          · have hf := hide (fragL_false hlt hjk hle)
            go_wp2_with fail
            go_quiet (fail)
            go_wp2
            go_ret
            exact ⟨ret_bool (by rw [hfr.out, hf.out]), below_drewN (below_drewN (Below.refl _ _) _) _⟩
          · go_wp2_with fail
            go_quiet (fail)
            go_wp2
            go_roundw
            case rel => exact ⟨j + 1, _, by omega, by go_num, rfl, fun i hi hne => by
              rcases Nat.lt_or_ge i j with h | h
              · exact hall.out i h hne
              · obtain rfl : i = j := by omega
                omega⟩
            case measure => simp [intOf]; omega
      · obtain rfl : j = zs.length := by omega
        have hf := hide (fragL_true hall.out)
        go_wp2_with fail
        go_ret
        exact ⟨ret_bool (by rw [hfr.out, hf.out]), below_drewN (Below.refl _ _) _⟩

end Go.Proofs.Ythjiggihljiikaa
