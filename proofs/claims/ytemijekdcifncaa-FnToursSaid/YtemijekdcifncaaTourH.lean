/- Tours: helpers. -/
import Derived.Test.YtemijekdcifncaaTourP
import Derived.WalkKit
import Derived.ProofKit
import Derived.Handy
import Derived.OpenShut
import Derived.ShutString
import Derived.ChangeOld
import Derived.Below
import Derived.BigQuiet
import Derived.Deep.QuietTactic
import Derived.Deep.Draws
import Derived.Deep.DeepCutAuto
import Derived.Deep.DeepFit
import Derived.Deep.LoopGhost
import Derived.Outline
import Derived.WalkSpells
import Derived.WalkLawsBesides
import Derived.WalkSmall
import Derived.Laws.OwnMore
import Derived.OneCell
import Derived.Laws.Rows
import Derived.Maps.AppendAt
import Derived.StillTailTactics
import Derived.Lib.SmallJoins
import Derived.Deep.RegionWith
import Derived.Deep.RegionHeld3
import Derived.RegionTactic
import Derived.Deep.Matrix
import Derived.Deep.Fields
import Derived.ChangeSame
namespace Go.Proofs.Ytemijekdcifncaa
open Go.RowKit

set_option maxHeartbeats 2000000 in
theorem isStrict_any (v : Value) (zs : List Int) (a b : Int) (w : World) (h : RdI w v zs) (hl : zs.length ≤ 1048576) :
    Calls Try.prog 39 #[v, .int .i64 a, .int .i64 b] w fun e w' => e = .returned (.bool (strictL a b zs)) ∧ ∃ m, w' = w.drewN m := by
  have hv := hide h
  obtain ⟨A, c, rfl, hx⟩ := h
  go_enter Try.func39, Try.ntmps39
  go_wp2_with fail
  go_loopw [10] (fun i wr => ∃ k m : Nat, k ≤ zs.length ∧ i = .int .i64 k ∧ wr = w.drewN m ∧ Hid (∀ j, j < k → 0 < j → gt zs (j - 1) < gt zs j)) (fun i _ => zs.length - (intOf i).toNat)
  case atStart => exact ⟨0, 0, Nat.zero_le _, rfl, rfl, fun j hj => absurd hj (by omega)⟩
  case round =>
    obtain ⟨k, m, hk, rfl, rfl, hall⟩ := hrel
    by_cases hlt : k < zs.length
    · obtain ⟨b0, off, rfl, hb0, hc⟩ := hx (by omega)
      have hkb : (k : Int) < (zs.length : Int) := by omega
      by_cases h0 : 0 < k
      · have hck := hc k hlt
        have hcj := hc (k - 1) (by omega)
        clear hc hx
        have gk : decide ((0 : Int) < (k : Int)) = true := decide_eq_true (by omega)
        have hwr := IntWalk.i64_in ((k : Int) - 1) (by omega)
        have hto : ((k : Int) - 1).toNat = k - 1 := by omega
        have hkc : (k : Int) - 1 < (zs.length : Int) := by omega
        by_cases hs : gt zs k ≤ gt zs (k - 1)
        · have hf := hide (strictL_false1 (a := a) (b := b) hlt h0 hs)
          generalize gt zs k = x at *
          generalize gt zs (k - 1) = y at *
          go_wp2_with fail
          go_quiet (fail)
          go_wp2
          go_ret
          exact ⟨ret_bool hf.out.symm, _, World.drewN_drewN _ _ _⟩
        · have R : Hid (∀ j, j < k + 1 → 0 < j → gt zs (j - 1) < gt zs j) := fun j hj hj0 => by
            rcases Nat.lt_or_ge j k with h | h
            · exact hall.out j h hj0
            · obtain rfl : j = k := by omega
              omega
          generalize gt zs k = x at *
          generalize gt zs (k - 1) = y at *
          go_wp2_with fail
          go_quiet (fail)
          go_wp2
          go_roundw
          case rel => exact ⟨k + 1, _, by omega, by go_num, rfl, R⟩
          case measure => simp [intOf]; omega
      · have R : Hid (∀ j, j < k + 1 → 0 < j → gt zs (j - 1) < gt zs j) := fun j hj hj0 => by omega
        have gk : decide ((0 : Int) < (k : Int)) = false := decide_eq_false (by omega)
        clear hc hx
        go_wp2_with fail
        go_quiet (fail)
        go_wp2
        go_roundw
        case rel => exact ⟨k + 1, _, by omega, by go_num, rfl, R⟩
        case measure => simp [intOf]; omega
    · obtain rfl : k = zs.length := by omega
      have hf := hide (strictL_of (a := a) (b := b) hall.out)
      clear hx
      go_wp2_with (go_at_call 36; refine (allWithin_any _ _ _ _ _ (hv.out.below (Nx.drewN (Below.refl _ _) _)) hl).mono ?_; rintro e w' ⟨rfl, rfl⟩)
      go_ret
      exact ⟨ret_bool hf.out.symm, _, rfl⟩
set_option maxHeartbeats 2000000 in
theorem l23Tour_any (n : Nat) (v : Value) (zs : List Int) (w : World) (h : RdI w v zs) (hl : zs.length ≤ 1048576) (hn : 2 ≤ n ∧ n ≤ 7) :
    Calls Try.prog 38 #[.int .i64 n, v] w fun e w' => e = .returned (.bool (tourOk n zs)) ∧ ∃ m, w' = w.drewN m := by
  obtain ⟨A, c, rfl, hx⟩ := h
  by_cases hlen : zs.length = n - 1
  · have d1 : ((zs.length : Int) != (n : Int) - 1) = false := by simp; omega
    have d2 : ((zs.length : Int) == (n : Int) - 1) = true := by simp; omega
    obtain ⟨b0, off, rfl, hb0, hc⟩ := hx (by omega)
    have Hc := hide hc
    have Hlen := hide hlen
    clear hc hx hlen
    go_enter Try.func38, Try.ntmps38
    go_wp2_with fail
    go_loopw [5] (fun i wr => ∃ k m : Nat, k ≤ zs.length ∧ i = .int .i64 k ∧ wr = w.drewN m ∧ Hid (∀ j, j < k → inR (gt zs j) 1 ((n : Int) - 1) = true) ∧ Hid (∀ j, j < k → ∀ i, i < j → gt zs i ≠ gt zs j)) (fun i _ => zs.length - (intOf i).toNat)
    case atStart => exact ⟨0, 0, Nat.zero_le _, rfl, rfl, fun j hj => absurd hj (by omega), fun j hj => absurd hj (by omega)⟩
    case round =>
      clear d1 d2
      obtain ⟨k, m, hk, rfl, rfl, hin, hne⟩ := hrel
      by_cases hlt : k < zs.length
      · have hck := Hc.out k hlt
        have hkb : (k : Int) < (zs.length : Int) := by omega
        cases g1 : inR (gt zs k) 1 ((n : Int) - 1) with
        | false =>
          have hf := hide (show tourOk n zs = false from by simp [tourOk, allW_false hlt g1])
          go_wp2_with (go_at_call 34; refine (l01In_any _ _ _ _).mono ?_; rintro e w' ⟨rfl, rfl⟩)
          go_ret
          exact ⟨ret_bool hf.out.symm, _, rfl⟩
        | true =>
          have R1 : Hid (∀ j, j < k + 1 → inR (gt zs j) 1 ((n : Int) - 1) = true) := fun j hj => by
            rcases Nat.lt_or_ge j k with h | h
            · exact hin.out j h
            · obtain rfl : j = k := by omega
              exact g1
          go_wp2_with (go_at_call 34; refine (l01In_any _ _ _ _).mono ?_; rintro e w' ⟨rfl, rfl⟩)
          clear g1
          go_loopw [6] (fun q wr => ∃ i m : Nat, i ≤ k ∧ q = .int .i64 i ∧ wr = w.drewN m ∧ Hid (∀ x, x < i → gt zs x ≠ gt zs k)) (fun q _ => k - (intOf q).toNat)
          case atStart => exact ⟨0, m, Nat.zero_le _, rfl, rfl, fun j hj => absurd hj (by omega)⟩
          case round =>
            obtain ⟨i, m, hi, rfl, rfl, hni⟩ := hrel
            by_cases hik : i < k
            · have hci := Hc.out i (by omega)
              have hib : (i : Int) < (zs.length : Int) := by omega
              by_cases he : gt zs i = gt zs k
              · have hf : Hid (tourOk n zs = false) := by
                  have : distL zs = false := by
                    rw [Bool.eq_false_iff]
                    exact fun ht => distL_iff.1 ht i k hik hlt he
                  simp [tourOk, this, Hid]
                generalize gt zs i = x at *
                generalize gt zs k = y at *
                have d6 : (x == y) = true := by simp; omega
                clear he
                go_wp2_with fail
                go_quiet (fail)
                go_wp2
                go_ret
                exact ⟨ret_bool hf.out.symm, _, World.drewN_drewN _ _ _⟩
              · have R : Hid (∀ x, x < i + 1 → gt zs x ≠ gt zs k) := fun x hx => by
                  rcases Nat.lt_or_ge x i with h | h
                  · exact hni.out x h
                  · obtain rfl : x = i := by omega
                    exact he
                generalize gt zs i = x at *
                generalize gt zs k = y at *
                have d6 : (x == y) = false := by simp; omega
                clear he
                go_wp2_with fail
                go_quiet (fail)
                go_wp2
                go_roundw
                case rel => exact ⟨i + 1, _, by omega, by go_num, rfl, R⟩
                case measure => simp [intOf]; omega
            · obtain rfl : i = k := by omega
              have R : Hid (∀ j, j < i + 1 → ∀ x, x < j → gt zs x ≠ gt zs j) := fun j hj x hx => by
                rcases Nat.lt_or_ge j i with h | h
                · exact hne.out j h x hx
                · obtain rfl : j = i := by omega
                  exact hni.out x hx
              go_wp2_with fail
              go_roundw
              case rel => exact ⟨i + 1, _, by omega, by go_num, rfl, R1, R⟩
              case measure => simp [intOf]; omega
      · obtain rfl : k = zs.length := by omega
        have hf : Hid (tourOk n zs = true) := by
          have h1 : distL zs = true := distL_iff.2 fun i k hi hk => hne.out k hk i hi
          simp [tourOk, h1, allW_of hin.out, Hlen.out, Hid]
        go_wp2_with fail
        go_ret
        exact ⟨ret_bool hf.out.symm, _, rfl⟩
  · have d1 : ((zs.length : Int) != (n : Int) - 1) = true := by simp; omega
    have d2 : ((zs.length : Int) == (n : Int) - 1) = false := by simp; omega
    have hf := hide (show tourOk n zs = false from by simp [tourOk, hlen])
    clear hx
    go_enter Try.func38, Try.ntmps38
    go_wp2_with fail
    go_ret
    exact ⟨ret_bool hf.out.symm, 0, rfl⟩

end Go.Proofs.Ytemijekdcifncaa
