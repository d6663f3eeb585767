/- Contracts of FreeTogether. -/
import Derived.Test.YtkjclpbemdilbaaFree
import Derived.WalkKit
import Derived.ProofKit
import Derived.Handy
import Derived.OpenShut
import Derived.ShutString
import Derived.ChangeOld
import Derived.Below
import Derived.BigQuiet
import Derived.Deep.QuietTactic
import Derived.Deep.Draws
import Derived.Deep.DeepCutAuto
import Derived.Deep.DeepFit
import Derived.Deep.LoopGhost
import Derived.Outline
import Derived.WalkSpells
import Derived.WalkLawsBesides
import Derived.WalkSmall
import Derived.Laws.OwnMore
import Derived.OneCell
import Derived.Laws.Rows
import Derived.Maps.AppendAt
import Derived.StillTailTactics
import Derived.Lib.SmallJoins
import Derived.Deep.RegionWith
import Derived.Deep.RegionHeld3
import Derived.RegionTactic
import Derived.Deep.Matrix
import Derived.Deep.Fields
import Derived.ChangeSame
namespace Go.Proofs.Ytkjclpbemdilbaa
open Go.RowKit

set_option maxHeartbeats 2000000 in
theorem impl_FreeTogether (v : Value) (rows : List (List Int)) (n : Int) (B : Nat) (w : World) (ho : OwM w B v rows) (hl : OkM rows) (hn64 : I64 n) :
    Calls Try.prog 18 #[v, .int .i64 n] w fun e w' => e = .returned (triV (freeT rows n)) ∧ Nx w w' := by
  have h := ho.reads
  have K := hide (implQ_HallOk v rows w h hl)
  cases hg : gridOk rows 8 10 (-1) 200 with
  | false =>
    have hf := hide (show freeT rows n = none from by simp [freeT, hg])
    rw [hg] at K
    go_enter Try.func18, Try.ntmps18
    go_wp2_with (go_at_call 13; fail)
    refine (unhide K).mono ?_
    rintro e w1 ⟨rfl, m, rfl⟩
    go_wp2_with fail
    go_ret3
    exact ⟨by rw [hf.out]; rfl, Nx.drewN (Below.refl _ _) _⟩
  | true =>
    rw [hg] at K
    cases h1 : inR n 1 10 with
    | false =>
      have hf := hide (show freeT rows n = none from by simp [freeT, h1])
      go_enter Try.func18, Try.ntmps18
      go_wp2_with (go_at_call 13; fail)
      refine (unhide K).mono ?_
      rintro e w1 ⟨rfl, m, rfl⟩
      go_wp2_with (go_at_call 37; refine (within_any _ _ _ _).mono ?_; rintro e w' ⟨rfl, rfl⟩)
      go_ret3
      exact ⟨by rw [hf.out]; rfl, Nx.drewN (Below.refl _ _) _⟩
    | true =>
      have bn := inR_iff.1 h1
      obtain ⟨N, rfl⟩ := Int.eq_ofNat_of_zero_le (show 0 ≤ n by omega)
      have hf := hide (show freeT rows (N : Int) = fTo (rowFree (g2 rows) (rowAt rows 0).length N) rows.length from by simp [freeT, hg, h1])
      obtain ⟨hG, hh, hw⟩ := gridOk_grid hg
      have hr := h.grid hG (by omega) (by omega)
      obtain ⟨b, off, c, rb, ro, rc, rfl, hrow, hcell⟩ := hr
      have hcap := hide (fun (y : Nat) (hy : y < rows.length) => ho.cap hy (hrow y hy))
      have p1 : rows.length ≤ 8 := by omega
      have p2 : (rowAt rows 0).length ≤ 10 := by omega
      have p3 : 1 ≤ (rowAt rows 0).length := by omega
      clear hG hh hw hg h hl ho hn64
      generalize rows.length = hh at *
      generalize (rowAt rows 0).length = ww at *
      generalize g2 rows = f at *
      have Hrow := hide hrow
      have Hcell := hide hcell
      clear hrow hcell
      go_enter Try.func18, Try.ntmps18
      go_wp2_with (go_at_call 13; fail)
      refine (unhide K).mono ?_
      rintro e w1 ⟨rfl, m, rfl⟩
      clear K
      go_wp2_with (go_at_call 37; refine (within_any _ _ _ _).mono ?_; rintro e w' ⟨rfl, rfl⟩)
      clear h1
      go_loop [20] (fun i => ∃ y : Nat, y ≤ hh ∧ i = .int .i64 y ∧ Hid (∀ j, j < y → rowFree f ww N j = none)) (fun i => hh - (intOf i).toNat)
      case atStart => exact ⟨0, by omega, rfl, fun j hj => absurd hj (by omega)⟩
      case round =>
        obtain ⟨y, hy, rfl, hall⟩ := hrel
        by_cases hlt : y < hh
        · have k1 := Hrow.out y hlt
          have hcy := hcap.out y hlt
          go_wp2_with fail
          go_loop [27] (fun i => ∃ x : Nat, x ≤ ww ∧ i = .int .i64 x ∧ Hid (∀ j, j < x → freeAt f ww N y j = false)) (fun i => ww - (intOf i).toNat)
          case atStart => exact ⟨0, by omega, rfl, fun j hj => absurd hj (by omega)⟩
          case round =>
            obtain ⟨x, hx, rfl, hin⟩ := hrel
            by_cases hxl : x < ww
            · have e0 : areFreeB (f y) ww (x : Int) (N : Int) = freeAt f ww N y x := by
                simp only [areFreeB, freeAt, Int.toNat_natCast]
                rw [decide_eq_true (p := (0 : Int) ≤ (x : Int)) (by omega), Bool.true_and]
                congr 1
                rw [Bool.eq_iff_iff]; simp only [decide_eq_true_eq]; omega
              have KA := hide (fun W (hW : ∀ j, j < ww → World.cell? W ⟨rb y, ro y + j, none⟩ = some (.int .i64 (f y j))) => areFree_any (rb y) (ro y) ww (rc y) (f y) (x : Int) (N : Int) W p3 (by omega) hcy hW (by omega) (by omega) (by unfold I64; omega))
              rw [e0] at KA
              have KB := hide (KA.out (w.drewN m) (fun j hj => Hcell.out y j hlt hj))
              clear KA e0
              cases hfr : freeAt f ww N y x with
              | true =>
                have hfin := hide (fTo_yes (n := hh) hlt hall.out (rowFree_yes hxl hfr hin.out))
                rw [hfr] at KB
                go_wp2_with (go_at_call 38; refine (unhide KB).mono ?_; rintro e w' ⟨rfl, rfl⟩)
                go_ret3
                exact ⟨by rw [hf.out, hfin.out]; rfl, Nx.drewN (Below.refl _ _) _⟩
              | false =>
                have R : Hid (∀ j, j < x + 1 → freeAt f ww N y j = false) := fun j hj => by
                  rcases Nat.lt_or_ge j x with h | h
                  · exact hin.out j h
                  · obtain rfl : j = x := by omega
                    exact hfr
                rw [hfr] at KB
                go_wp2_with (go_at_call 38; refine (unhide KB).mono ?_; rintro e w' ⟨rfl, rfl⟩)
                go_round
                case rel => exact ⟨x + 1, by omega, by go_num, R.out⟩
                case measure => simp [intOf]; omega
            · obtain rfl : x = ww := by omega
              have R : Hid (∀ j, j < y + 1 → rowFree f x N j = none) := fun j hj => by
                rcases Nat.lt_or_ge j y with h | h
                · exact hall.out j h
                · obtain rfl : j = y := by omega
                  exact rowFree_no hin.out
              go_wp2_with fail
              go_round
              case rel => exact ⟨y + 1, by omega, by go_num, R.out⟩
              case measure => simp [intOf]; omega
        · obtain rfl : y = hh := by omega
          have hfin := hide (fTo_none hall.out)
          go_wp2_with fail
          go_ret3
          exact ⟨by rw [hf.out, hfin.out]; rfl, Nx.drewN (Below.refl _ _) _⟩

set_option maxHeartbeats 4000000 in
theorem spec_FreeTogether (v : Value) (rows : List (List Int)) (n : Int) (w : World) (h : RdM w v rows) (hl : OkM rows) (_ : I64 n) :
    Calls Try.prog 17 #[v, .int .i64 n] w fun e w' => e = .returned (triV (freeT rows n)) ∧ Nx w w' := by
  have K := hide (specQ_HallOk v rows w h hl)
  cases hg : gridOk rows 8 10 (-1) 200 with
  | false =>
    have hf := hide (show freeT rows n = none from by simp [freeT, hg])
    rw [hg] at K
    go_enter Try.func17, Try.ntmps17
    go_wp2_with (go_at_call 11; fail)
    refine (unhide K).mono ?_
    rintro e w1 ⟨rfl, m, rfl⟩
    go_wp2_with fail
    go_ret3
    exact ⟨by rw [hf.out]; rfl, Nx.drewN (Below.refl _ _) _⟩
  | true =>
    rw [hg] at K
    cases h1 : inR n 1 10 with
    | false =>
      have hf := hide (show freeT rows n = none from by simp [freeT, h1])
      go_enter Try.func17, Try.ntmps17
      go_wp2_with (go_at_call 11; fail)
      refine (unhide K).mono ?_
      rintro e w1 ⟨rfl, m, rfl⟩
      go_wp2_with (go_at_call 35; refine (l01In_any _ _ _ _).mono ?_; rintro e w' ⟨rfl, rfl⟩)
      go_ret3
      exact ⟨by rw [hf.out]; rfl, Nx.drewN (Below.refl _ _) _⟩
    | true =>
      have bn := inR_iff.1 h1
      obtain ⟨N, rfl⟩ := Int.eq_ofNat_of_zero_le (show 0 ≤ n by omega)
      have hN1 : 1 ≤ N := by omega
      have hN2 : N ≤ 10 := by omega
      have hf := hide (show freeT rows (N : Int) = fTo (rowFree (g2 rows) (rowAt rows 0).length N) rows.length from by simp [freeT, hg, h1])
      obtain ⟨hG, hh, hw⟩ := gridOk_grid hg
      have hB := hide hG.bd
      have hr := h.grid hG (by omega) (by omega)
      obtain ⟨b, off, c, rb, ro, rc, rfl, hrow, hcell⟩ := hr
      have p1 : rows.length ≤ 8 := by omega
      have p2 : (rowAt rows 0).length ≤ 10 := by omega
      clear hG hh hw hg h hl bn
      generalize rows.length = hh at *
      generalize (rowAt rows 0).length = ww at *
      generalize g2 rows = f at *
      have Hrow := hide hrow
      have Hcell := hide hcell
      clear hrow hcell
      go_enter Try.func17, Try.ntmps17
      go_wp2_with (go_at_call 11; fail)
      refine (unhide K).mono ?_
      rintro e w1 ⟨rfl, m, rfl⟩
      clear K
      go_wp2_with (go_at_call 35; refine (l01In_any _ _ _ _).mono ?_; rintro e w' ⟨rfl, rfl⟩)
      clear h1
      go_loop [7] (fun i => ∃ y : Nat, y ≤ hh ∧ i = .int .i64 y ∧ Hid (∀ j, j < y → rowFree f ww N j = none)) (fun i => hh - (intOf i).toNat)
      case atStart => exact ⟨0, by omega, rfl, fun j hj => absurd hj (by omega)⟩
      case round =>
        obtain ⟨y, hy, rfl, hall⟩ := hrel
        by_cases hlt : y < hh
        · have k1 := Hrow.out y hlt
          go_wp2_with fail
          go_loop [8, 9] (fun u i => ∃ x r : Nat, x ≤ ww ∧ i = .int .i64 x ∧ u = .int .i64 r ∧ r < N ∧ r ≤ x ∧ Hid ((∀ j, x - r ≤ j → j < x → f y j = -1) ∧ (r = x ∨ 0 ≤ f y (x - r - 1)) ∧ ∀ s, s + N ≤ x → freeAt f ww N y s = false)) (fun _ i => ww - (intOf i).toNat)
          case atStart => exact ⟨0, 0, by omega, rfl, rfl, by omega, by omega, fun j _ hj => absurd hj (by omega), .inl rfl, fun s hs => absurd hs (by omega)⟩
          case round =>
            obtain ⟨x, r, hx, rfl, rfl, hrN, hrx, hin⟩ := hrel
            by_cases hxl : x < ww
            · have k3 := Hcell.out y x hlt hxl
              have b3 := hB.out y x hlt hxl
              by_cases hpos : 0 ≤ f y x
              · have R : Hid ((∀ j, x + 1 - 0 ≤ j → j < x + 1 → f y j = -1) ∧ (0 = x + 1 ∨ 0 ≤ f y (x + 1 - 0 - 1)) ∧ ∀ s, s + N ≤ x + 1 → freeAt f ww N y s = false) := ⟨fun j h1 h2 => absurd h1 (by omega), .inr (by simpa using hpos), fun s hs => by
                  rcases Nat.lt_or_ge x (s + N) with h | h
                  · exact freeAt_no (j := x) (by omega) h (by omega)
                  · exact hin.out.2.2 s h⟩
                have d0 : ((0 : Int) == (N : Int)) = false := by simp; omega
                go_wp2_with fail
                go_round
                case rel => exact ⟨x + 1, 0, by omega, by go_num, rfl, by omega, by omega, R.out⟩
                case measure => simp [intOf]; omega
              · have hm1 : Hid (f y x = -1) := by show f y x = -1; omega
                by_cases hfin : r + 1 = N
                · have hfr : freeAt f ww N y (x + 1 - N) = true := freeAt_yes (by omega) fun j h1 h2 => by
                    rcases Nat.lt_or_ge j x with h | h
                    · exact hin.out.1 j (by omega) h
                    · obtain rfl : j = x := by omega
                      exact hm1.out
                  have hF := hide (fTo_yes (n := hh) hlt hall.out (rowFree_yes (by omega) hfr (fun j hj => hin.out.2.2 j (by omega))))
                  have d0 : ((r : Int) + 1 == (N : Int)) = true := by simp; omega
                  have eN : Hid ((x : Int) + 1 - (N : Int) = ((x + 1 - N : Nat) : Int)) := by show (x : Int) + 1 - (N : Int) = ((x + 1 - N : Nat) : Int); omega
                  clear hfr hfin
                  go_wp2_with fail
                  go_ret3
                  exact ⟨by rw [hf.out, hF.out]; simp only [triV]; rw [← eN.out]; rfl, Nx.drewN (Below.refl _ _) _⟩
                · have R : Hid ((∀ j, x + 1 - (r + 1) ≤ j → j < x + 1 → f y j = -1) ∧ (r + 1 = x + 1 ∨ 0 ≤ f y (x + 1 - (r + 1) - 1)) ∧ ∀ s, s + N ≤ x + 1 → freeAt f ww N y s = false) := ⟨fun j h1 h2 => by
                    rcases Nat.lt_or_ge j x with h | h
                    · exact hin.out.1 j (by omega) h
                    · obtain rfl : j = x := by omega
                      exact hm1.out, by
                    rcases hin.out.2.1 with h | h
                    · exact .inl (by omega)
                    · exact .inr (by rw [show x + 1 - (r + 1) - 1 = x - r - 1 from by omega]; exact h), fun s hs => by
                    rcases Nat.lt_or_ge x (s + N) with h | h
                    · rcases hin.out.2.1 with h2 | h2
                      · omega
                      · exact freeAt_no (j := x - r - 1) (by omega) (by omega) (by omega)
                    · exact hin.out.2.2 s h⟩
                  have d0 : ((r : Int) + 1 == (N : Int)) = false := by simp; omega
                  have hlt2 : r + 1 < N := by omega
                  clear hfin
                  go_wp2_with fail
                  go_round
                  case rel => exact ⟨x + 1, r + 1, by omega, by go_num, by go_num, by omega, by omega, R.out⟩
                  case measure => simp [intOf]; omega
            · obtain rfl : x = ww := by omega
              have R : Hid (∀ j, j < y + 1 → rowFree f x N j = none) := fun j hj => by
                rcases Nat.lt_or_ge j y with h | h
                · exact hall.out j h
                · obtain rfl : j = y := by omega
                  exact rowFree_no fun s _ => by
                    rcases Nat.lt_or_ge x (s + N) with h2 | h2
                    · exact freeAt_far h2
                    · exact hin.out.2.2 s h2
              go_wp2_with fail
              go_round
              case rel => exact ⟨y + 1, by omega, by go_num, R.out⟩
              case measure => simp [intOf]; omega
        · obtain rfl : y = hh := by omega
          have hfin := hide (fTo_none hall.out)
          go_wp2_with fail
          go_ret3
          exact ⟨by rw [hf.out, hfin.out]; rfl, Nx.drewN (Below.refl _ _) _⟩

theorem triV_form (t : Option (Nat × Nat)) : ∃ (A B : Int) (C : Bool), triV t = .tuple #[.int .i64 A, .int .i64 B, .bool C] := by
  cases t with
  | none => exact ⟨0, 0, false, rfl⟩
  | some p => exact ⟨_, _, true, rfl⟩
theorem impl_FT (v : Value) (rows : List (List Int)) (n : Int) (B : Nat) (w : World) (V : Value) (ho : OwM w B v rows) (hl : OkM rows) (hn : I64 n) (hV : triV (freeT rows n) = V) :
    Calls Try.prog 18 #[v, .int .i64 n] w fun e w' => e = .returned V ∧ Nx w w' := by
  subst hV; exact impl_FreeTogether v rows n B w ho hl hn
theorem spec_FT (v : Value) (rows : List (List Int)) (n : Int) (w : World) (V : Value) (h : RdM w v rows) (hl : OkM rows) (hn : I64 n) (hV : triV (freeT rows n) = V) :
    Calls Try.prog 17 #[v, .int .i64 n] w fun e w' => e = .returned V ∧ Nx w w' := by
  subst hV; exact spec_FreeTogether v rows n w h hl hn

end Go.Proofs.Ytkjclpbemdilbaa
