/- Contracts of QuietestSeat. -/
import Derived.Test.YtjifdheaeopdfaaHlp
import Derived.WalkKit
import Derived.ProofKit
import Derived.Handy
import Derived.OpenShut
import Derived.ShutString
import Derived.ChangeOld
import Derived.Below
import Derived.BigQuiet
import Derived.Deep.QuietTactic
import Derived.Deep.Draws
import Derived.Deep.DeepCutAuto
import Derived.Deep.DeepFit
import Derived.Deep.LoopGhost
import Derived.Outline
import Derived.WalkSpells
import Derived.WalkLawsBesides
import Derived.WalkSmall
import Derived.Laws.OwnMore
import Derived.OneCell
import Derived.Laws.Rows
import Derived.Maps.AppendAt
import Derived.StillTailTactics
import Derived.Lib.SmallJoins
import Derived.Deep.RegionWith
import Derived.Deep.RegionHeld3
import Derived.RegionTactic
import Derived.Deep.Matrix
import Derived.Deep.Fields
import Derived.ChangeSame
namespace Go.Proofs.Ytjifdheaeopdfaa
open Go.RowKit

/-- how often a number can be halved. -/
def halves (m : Int) : Nat := m.toNat.log2
theorem halves_small {m : Int} (h : m ≤ 1) : halves m = 0 := by
  unfold halves
  have : m.toNat = 0 ∨ m.toNat = 1 := by omega
  rcases this with e | e <;> rw [e] <;> rfl
theorem halves_step {m : Int} (h : 1 < m) : halves m = halves (m / 2) + 1 := by
  unfold halves
  rw [show (m / 2).toNat = m.toNat / 2 from by omega, Nat.log2_def, if_pos (by omega)]
theorem halves_le {m : Int} (h : m ≤ 1000) : halves m ≤ 1000 := by
  unfold halves
  have := Nat.log2_le_self m.toNat
  omega
/-- the first place of the greatest among the first k. -/
def bestTo (zs : List Int) : Nat → Nat
  | 0 => 0
  | k + 1 => if halves (gt zs (bestTo zs k)) < halves (gt zs k) then k else bestTo zs k
theorem bestTo_lt (zs : List Int) (k n : Nat) (h : k ≤ n) (hn : 0 < n) : bestTo zs k < n := by
  induction k with
  | zero => exact hn
  | succ k ih =>
    unfold bestTo
    split
    · omega
    · exact ih (by omega)
theorem bestTo_yes {zs : List Int} {k : Nat} (h : halves (gt zs (bestTo zs k)) < halves (gt zs k)) : bestTo zs (k + 1) = k := by simp only [bestTo, if_pos h]
theorem bestTo_no {zs : List Int} {k : Nat} (h : ¬ halves (gt zs (bestTo zs k)) < halves (gt zs k)) : bestTo zs (k + 1) = bestTo zs k := by simp only [bestTo, if_neg h]
/-- what QuietestSeat answers. -/
def quietest (zs : List Int) (lv : Int) : Int := if inR (zs.length : Int) 1 40 && inR lv 0 120 && allW 0 1000 zs then (bestTo zs zs.length : Int) else -1
/-- the greatest of the first k, -1 ahead of all. -/
def mostTo (zs : List Int) : Nat → Int
  | 0 => -1
  | k + 1 => (halves (gt zs (bestTo zs (k + 1))) : Int)
theorem mostTo_lt (zs : List Int) (k : Nat) : mostTo zs k < halves (gt zs k) ↔ (k = 0 ∨ halves (gt zs (bestTo zs k)) < halves (gt zs k)) := by
  cases k with
  | zero => simp [mostTo]; omega
  | succ k => simp [mostTo]
theorem best_step_yes {zs : List Int} {k : Nat} (h : mostTo zs k < halves (gt zs k)) : bestTo zs (k + 1) = k ∧ mostTo zs (k + 1) = halves (gt zs k) := by
  have e : bestTo zs (k + 1) = k := by
    rcases (mostTo_lt zs k).1 h with rfl | h1
    · simp [bestTo]
    · exact bestTo_yes h1
  exact ⟨e, by simp only [mostTo]; rw [e]⟩
theorem best_step_no {zs : List Int} {k : Nat} (h : ¬ mostTo zs k < halves (gt zs k)) : bestTo zs (k + 1) = bestTo zs k ∧ mostTo zs (k + 1) = mostTo zs k := by
  have h1 : ¬ (k = 0 ∨ halves (gt zs (bestTo zs k)) < halves (gt zs k)) := fun x => h ((mostTo_lt zs k).2 x)
  have e : bestTo zs (k + 1) = bestTo zs k := bestTo_no fun x => h1 (.inr x)
  refine ⟨e, ?_⟩
  obtain ⟨j, rfl⟩ : ∃ j, k = j + 1 := ⟨k - 1, by omega⟩
  simp only [mostTo]; rw [e]

set_option maxHeartbeats 400000 in
theorem halves_any (m : Int) (w : World) (h0 : 0 ≤ m) (h1 : m ≤ 1000) : Calls Try.prog 43 #[.int .i64 m] w fun e w' => e = .returned (.int .i64 (halves m)) ∧ w = w' := by
  have hle := halves_le h1
  go_enter Try.func43, Try.ntmps43
  go_wp2_with fail
  go_loop [0, 3] (fun a n => ∃ (q : Int) (c : Nat), 0 ≤ q ∧ q ≤ 1000 ∧ a = .int .i64 q ∧ n = .int .i64 c ∧ Hid (halves q + c = halves m)) (fun a _ => (intOf a).toNat)
  case atStart => exact ⟨m, 0, h0, h1, rfl, rfl, rfl⟩
  case round =>
    obtain ⟨q, c, hq0, hq1, rfl, rfl, hs⟩ := hrel
    have hc : c ≤ 1000 := by have := hs.out; omega
    by_cases hlt : 1 < q
    · have hst := hide (halves_step hlt)
      go_wp2_with fail
      go_round
      case rel => exact ⟨q / 2, c + 1, by omega, by omega, rfl, by go_num, by have := hs.out; have := hst.out; show halves (q / 2) + (c + 1) = halves m; omega⟩
      case measure => simp [intOf]; omega
    · have hst := hide (halves_small (m := q) (by omega))
      go_wp2_with fail
      go_ret
      exact ⟨ret_int (by have := hs.out; have := hst.out; omega), rfl⟩

set_option maxHeartbeats 1000000 in
theorem spec_QuietestSeat (v : Value) (zs : List Int) (lv : Int) (w : World) (h : RdI w v zs) (hl : zs.length ≤ 1048576) (_ : I64 lv) :
    Calls Try.prog 20 #[v, .int .i64 lv] w fun e w' => e = .returned (.int .i64 (quietest zs lv)) ∧ Nx w w' := by
  obtain ⟨A, c, rfl, hx⟩ := h
  cases h1 : inR (zs.length : Int) 1 40 with
  | false =>
    have hf := hide (show quietest zs lv = -1 from by simp [quietest, h1])
    go_enter Try.func20, Try.ntmps20
    go_wp2_with (go_at_call 41; refine (l01In_any _ _ _ _).mono ?_; rintro e w' ⟨rfl, rfl⟩)
    go_ret
    exact ⟨ret_int hf.out.symm, Below.refl _ _⟩
  | true =>
    cases h2 : inR lv 0 120 with
    | false =>
      have hf := hide (show quietest zs lv = -1 from by simp [quietest, h2])
      go_enter Try.func20, Try.ntmps20
      go_wp2_with (go_at_call 41; refine (l01In_any _ _ _ _).mono ?_; rintro e w' ⟨rfl, rfl⟩)
      go_ret
      exact ⟨ret_int hf.out.symm, Below.refl _ _⟩
    | true =>
      have hn := inR_iff.1 h1
      have hn1 : 0 < zs.length := by omega
      have hn2 : zs.length ≤ 40 := by omega
      clear hn
      go_enter Try.func20, Try.ntmps20
      go_wp2_with (go_at_call 41; refine (l01In_any _ _ _ _).mono ?_; rintro e w' ⟨rfl, rfl⟩)
      have H1 := hide h1
      have H2 := hide h2
      clear h1 h2
      go_loopw [5, 6] (fun b i wr => ∃ k m : Nat, k ≤ zs.length ∧ i = .int .i64 k ∧ b = .int .i64 (bestTo zs k) ∧ wr = w.drewN m ∧ Hid (∀ j, j < k → inR (gt zs j) 0 1000 = true)) (fun _ i _ => zs.length - (intOf i).toNat)
      case atStart => exact ⟨0, 0, Nat.zero_le _, rfl, rfl, rfl, fun j hj => absurd hj (by omega)⟩
      case round =>
        obtain ⟨k, m, hk, rfl, rfl, rfl, hall⟩ := hrel
        by_cases hlt : k < zs.length
        · obtain ⟨b0, off, rfl, hb0, hc⟩ := hx (by omega)
          have hck := hc k hlt
          have hbl := bestTo_lt zs k zs.length (by omega) hn1
          have hcb := hc (bestTo zs k) hbl
          cases hin : inR (gt zs k) 0 1000 with
          | true =>
            have hall' : Hid (∀ j, j < k + 1 → inR (gt zs j) 0 1000 = true) := fun j hj => by
              rcases Nat.lt_or_ge j k with h | h
              · exact hall.out j h
              · obtain rfl : j = k := by omega
                exact hin
            have r1 := inR_iff.1 hin
            have r2 : 0 ≤ gt zs (bestTo zs k) ∧ gt zs (bestTo zs k) ≤ 1000 := by
              rcases Nat.lt_or_ge (bestTo zs k) k with h | h
              · exact inR_iff.1 (hall.out _ h)
              · have := bestTo_lt zs k (k + 1) (by omega) (by omega)
                have e : bestTo zs k = k := by omega
                rw [e]; exact r1
            clear hall hc hx
            generalize hbk : bestTo zs k = bk at hcb hbl r2
            have Hbk := hide hbk
            clear hbk
            by_cases hgt : halves (gt zs bk) < halves (gt zs k)
            · have hst : Hid (bestTo zs (k + 1) = k) := bestTo_yes (by rw [Hbk.out]; exact hgt)
              go_wp2_with (go_at_call 41; refine (l01In_any _ _ _ _).mono ?_; rintro e w' ⟨rfl, rfl⟩)
              go_quiet ((go_at_call 43; first | exact quiet_add_left (halves_any _ _ r1.1 r1.2) | exact quiet_add_left (halves_any _ _ r2.1 r2.2)))
              go_wp2
              go_roundw
              case rel => exact ⟨k + 1, _, by omega, by go_num, by rw [hst.out], rfl, hall'⟩
              case measure => simp [intOf]; omega
            · have hst : Hid (bestTo zs (k + 1) = bk) := by
                show bestTo zs (k + 1) = bk
                rw [← Hbk.out]
                exact bestTo_no (by rw [Hbk.out]; exact hgt)
              go_wp2_with (go_at_call 41; refine (l01In_any _ _ _ _).mono ?_; rintro e w' ⟨rfl, rfl⟩)
              go_quiet ((go_at_call 43; first | exact quiet_add_left (halves_any _ _ r1.1 r1.2) | exact quiet_add_left (halves_any _ _ r2.1 r2.2)))
              go_wp2
              go_roundw
              case rel => exact ⟨k + 1, _, by omega, by go_num, by rw [hst.out], rfl, hall'⟩
              case measure => simp [intOf]; omega
          | false =>
            have hf := hide (show quietest zs lv = -1 from by simp [quietest, allW_false hlt hin])
            clear hcb hc hx
            go_wp2_with (go_at_call 41; refine (l01In_any _ _ _ _).mono ?_; rintro e w' ⟨rfl, rfl⟩)
            go_ret
            exact ⟨ret_int hf.out.symm, below_drewN (Below.refl _ _) _⟩
        · obtain rfl : k = zs.length := by omega
          have hf := hide (show quietest zs lv = bestTo zs zs.length from by simp [quietest, H1.out, H2.out, allW_of hall.out])
          clear hx
          go_wp2_with fail
          go_ret
          exact ⟨ret_int hf.out.symm, below_drewN (Below.refl _ _) _⟩

set_option maxHeartbeats 1000000 in
theorem impl_QuietestSeat (v : Value) (zs : List Int) (lv : Int) (w : World) (h : RdI w v zs) (hl : zs.length ≤ 1048576) (_ : I64 lv) :
    Calls Try.prog 22 #[v, .int .i64 lv] w fun e w' => e = .returned (.int .i64 (quietest zs lv)) ∧ Nx w w' := by
  have hv := h
  obtain ⟨A, c, rfl, hx⟩ := h
  cases h1 : inR (zs.length : Int) 1 40 with
  | false =>
    have hf := hide (show quietest zs lv = -1 from by simp [quietest, h1])
    go_enter Try.func22, Try.ntmps22
    go_wp2_with (go_at_call 42; refine (within_any _ _ _ _).mono ?_; rintro e w' ⟨rfl, rfl⟩)
    go_ret
    exact ⟨ret_int hf.out.symm, Below.refl _ _⟩
  | true =>
    cases h2 : allW 0 1000 zs with
    | false =>
      have hf := hide (show quietest zs lv = -1 from by simp [quietest, h2])
      go_enter Try.func22, Try.ntmps22
      go_wp2_with (first | (go_at_call 42; refine (within_any _ _ _ _).mono ?_; rintro e w' ⟨rfl, rfl⟩) | (go_at_call 44; refine (allWithin_any _ _ _ _ _ hv hl).mono ?_; rintro e w' ⟨rfl, rfl⟩))
      go_ret
      exact ⟨ret_int hf.out.symm, Below.refl _ _⟩
    | true =>
      cases h3 : inR lv 0 120 with
      | false =>
        have hf := hide (show quietest zs lv = -1 from by simp [quietest, h3])
        go_enter Try.func22, Try.ntmps22
        go_wp2_with (first | (go_at_call 42; refine (within_any _ _ _ _).mono ?_; rintro e w' ⟨rfl, rfl⟩) | (go_at_call 44; refine (allWithin_any _ _ _ _ _ hv hl).mono ?_; rintro e w' ⟨rfl, rfl⟩))
        go_ret
        exact ⟨ret_int hf.out.symm, Below.refl _ _⟩
      | true =>
        have hf := hide (show quietest zs lv = bestTo zs zs.length from by simp [quietest, h1, h2, h3])
        have hall := hide (allW_iff.1 h2)
        have hn := inR_iff.1 h1
        have hn2 : zs.length ≤ 40 := by omega
        clear hn
        go_enter Try.func22, Try.ntmps22
        go_wp2_with (first | (go_at_call 42; refine (within_any _ _ _ _).mono ?_; rintro e w' ⟨rfl, rfl⟩) | (go_at_call 44; refine (allWithin_any _ _ _ _ _ hv hl).mono ?_; rintro e w' ⟨rfl, rfl⟩))
        clear h1 h2 h3 hv
        go_loop [5, 6, 26] (fun b mo i => ∃ k : Nat, k ≤ zs.length ∧ i = .int .i64 k ∧ b = .int .i64 (bestTo zs k) ∧ mo = .int .i64 (mostTo zs k)) (fun _ _ i => zs.length - (intOf i).toNat)
        case atStart => exact ⟨0, Nat.zero_le _, rfl, rfl, rfl⟩
        case round =>
          obtain ⟨k, hk, rfl, rfl, rfl⟩ := hrel
          by_cases hlt : k < zs.length
          · obtain ⟨b0, off, rfl, hb0, hc⟩ := hx (by omega)
            have hck := hc k hlt
            have r1 := hall.out k hlt
            have hle := halves_le r1.2
            clear hc hx
            go_wp2_with fail
            go_loop [8, 9] (fun a n => ∃ (q : Int) (c : Nat), 0 ≤ q ∧ q ≤ 1000 ∧ a = .int .i64 q ∧ n = .int .i64 c ∧ Hid (halves q + c = halves (gt zs k))) (fun a _ => (intOf a).toNat)
            case atStart => exact ⟨gt zs k, 0, r1.1, r1.2, rfl, rfl, rfl⟩
            case round =>
              obtain ⟨q, c, hq0, hq1, rfl, rfl, hs⟩ := hrel
              have hc : c ≤ 1000 := by have := hs.out; omega
              by_cases hlt : 1 < q
              · have hst := hide (halves_step hlt)
                go_wp2_with fail
                go_round
                case rel => exact ⟨q / 2, c + 1, by omega, by omega, rfl, by go_num, by have := hs.out; have := hst.out; show halves (q / 2) + (c + 1) = halves (gt zs k); omega⟩
                case measure => simp [intOf]; omega
              · have hst := hide (halves_small (m := q) (by omega))
                obtain rfl : c = halves (gt zs k) := by have := hs.out; have := hst.out; omega
                clear hs hst
                by_cases hgt : mostTo zs k < halves (gt zs k)
                · have e1 := hide (best_step_yes hgt).1
                  have e2 := hide (best_step_yes hgt).2
                  go_wp2_with fail
                  go_round
                  case rel => exact ⟨k + 1, by omega, by go_num, by rw [e1.out], by rw [e2.out]⟩
                  case measure => simp [intOf]; omega
                · have e1 := hide (best_step_no hgt).1
                  have e2 := hide (best_step_no hgt).2
                  go_wp2_with fail
                  go_round
                  case rel => exact ⟨k + 1, by omega, by go_num, by rw [e1.out], by rw [e2.out]⟩
                  case measure => simp [intOf]; omega
          · obtain rfl : k = zs.length := by omega
            clear hx
            go_wp2_with fail
            go_ret
            exact ⟨ret_int hf.out.symm, Below.refl _ _⟩

end Go.Proofs.Ytjifdheaeopdfaa
