/- Contracts of CutsFor. -/
import Derived.Test.YtlkaalbhhnineaaCarve
import Derived.WalkKit
import Derived.ProofKit
import Derived.Handy
import Derived.OpenShut
import Derived.ShutString
import Derived.ChangeOld
import Derived.Below
import Derived.BigQuiet
import Derived.Deep.QuietTactic
import Derived.Deep.Draws
import Derived.Deep.DeepCutAuto
import Derived.Deep.DeepFit
import Derived.Deep.LoopGhost
import Derived.Outline
import Derived.WalkSpells
import Derived.WalkLawsBesides
import Derived.WalkSmall
import Derived.Laws.OwnMore
import Derived.OneCell
import Derived.Laws.Rows
import Derived.Maps.AppendAt
import Derived.StillTailTactics
import Derived.Lib.SmallJoins
import Derived.Deep.RegionWith
import Derived.Deep.RegionHeld3
import Derived.RegionTactic
import Derived.Deep.Matrix
import Derived.Deep.Fields
import Derived.ChangeSame
namespace Go.Proofs.Ytlkaalbhhnineaa
open Go.RowKit

set_option maxHeartbeats 2000000 in
theorem spec_CutsFor (v u : Value) (p q : List (List Int)) (w : World) (h : RdM w v p) (hl : OkM p) (h' : RdM w u q) (hl' : OkM q) :
    Calls Try.prog 22 #[v, u] w fun e w' => e = .returned (.int .i64 (cuts p q)) ∧ Nx w w' := by
  have K := hide (specQ_CanCarve v u p q w h h' hl hl')
  cases hg : carve p q with
  | false =>
    have hf := hide (show cuts p q = -1 from by simp [cuts, hg])
    rw [hg] at K
    go_enter Try.func22, Try.ntmps22
    go_wp2_with (go_at_call 18; fail)
    refine (unhide K).mono ?_
    rintro e w1 ⟨rfl, m, rfl⟩
    go_wp2_with fail
    go_ret
    exact ⟨ret_int hf.out.symm, Nx.drewN (Below.refl _ _) _⟩
  | true =>
    rw [hg] at K
    obtain ⟨h1, h2, h3, h4, _⟩ := carve_grid hg
    have hf := hide (show cuts p q = tot (cutAt p q) (rowAt p 0).length p.length from by simp [cuts, hg])
    obtain ⟨hG, hh, hw⟩ := gridOk_grid h1
    obtain ⟨hG', hh', hw'⟩ := gridOk_grid h2
    have hr := h.grid hG (by omega) (by omega)
    have hr' := h'.grid hG' (by omega) (by omega)
    clear h h' hl hl'
    have hh8 : p.length ≤ 8 := by omega
    have ww8 : (rowAt p 0).length ≤ 8 := by omega
    have hz : ∀ y x, 0 ≤ cutAt p q y x ∧ cutAt p q y x ≤ 1 := fun y x => by unfold cutAt; split <;> omega
    have Hz := hide hz
    have Hc : Hid (∀ y x, cutAt p q y x = if g2 q y x = g2 p y x then 0 else 1) := fun y x => rfl
    rw [← h3, ← h4] at hr'
    clear h1 h2 h3 hG hG' hh hw hh' hw' hg hz
    obtain ⟨b, off, c, rb, ro, rc, rfl, hrow, hcell⟩ := hr
    obtain ⟨b', off', c', rb', ro', rc', rfl, hrow', hcell'⟩ := hr'
    clear h4
    generalize p.length = hh at *
    generalize (rowAt p 0).length = ww at *
    generalize g2 p = f at *
    generalize g2 q = f' at *
    generalize cutAt p q = ct at *
    have Hrow := hide hrow
    have Hcell := hide hcell
    have Hrow' := hide hrow'
    have Hcell' := hide hcell'
    clear hrow hcell hrow' hcell'
    go_enter Try.func22, Try.ntmps22
    go_wp2_with (go_at_call 18; fail)
    refine (unhide K).mono ?_
    rintro e w1 ⟨rfl, m, rfl⟩
    clear K
    go_wp2_with fail
    go_loopw [5, 6] (fun n i wr => ∃ y m : Nat, y ≤ hh ∧ i = .int .i64 y ∧ n = .int .i64 (tot ct ww y) ∧ wr = w.drewN m) (fun _ i _ => hh - (intOf i).toNat)
    case atStart => exact ⟨0, _, by omega, rfl, rfl, rfl⟩
    case round =>
      obtain ⟨y, m, hy, rfl, rfl, rfl⟩ := hrel
      have t1 := tot_bd (f := ct) (m := 1) hy hh8 ww8 (by omega) (fun y x _ _ => Hz.out y x)
      by_cases hlt : y < hh
      · have k1 := Hrow.out y hlt
        have k2 := Hrow'.out y hlt
        have p3 : (y : Int) < (hh : Int) := by omega
        go_wp2_with fail
        go_loopw [5, 7] (fun n i wr => ∃ x m : Nat, x ≤ ww ∧ i = .int .i64 x ∧ n = .int .i64 (tot ct ww y + s1 (ct y) x) ∧ wr = w.drewN m) (fun _ i _ => ww - (intOf i).toNat)
        case atStart => exact ⟨0, _, by omega, rfl, by simp [s1], rfl⟩
        case round =>
          obtain ⟨x, m, hx, rfl, rfl, rfl⟩ := hrel
          have t2 := s1_le8 (g := ct y) (m := 1) (k := x) (by omega) (by omega) (fun j _ => Hz.out y j)
          by_cases hxl : x < ww
          · have k3 := Hcell.out y x hlt hxl
            have k4 := Hcell'.out y x hlt hxl
            have p4 : (x : Int) < (ww : Int) := by omega
            by_cases hc : f' y x = f y x
            · have e0 := hide (show ct y x = 0 from by rw [Hc.out]; exact if_pos hc)
              have d1 : (f' y x != f y x) = false := by simp [hc]
              have d2 : (f' y x == f y x) = true := by simp [hc]
              clear hc
              go_wp2_with fail
              go_quiet (fail)
              go_wp2
              go_roundw
              case rel => exact ⟨x + 1, _, by omega, by go_num, by simp only [s1]; rw [e0.out]; go_num, rfl⟩
              case measure => simp [intOf]; omega
            · have e0 := hide (show ct y x = 1 from by rw [Hc.out]; exact if_neg hc)
              have d1 : (f' y x != f y x) = true := by simp [hc]
              have d2 : (f' y x == f y x) = false := by simp [hc]
              clear hc
              go_wp2_with fail
              go_quiet (fail)
              go_wp2
              go_roundw
              case rel => exact ⟨x + 1, _, by omega, by go_num, by simp only [s1]; rw [e0.out]; go_num, rfl⟩
              case measure => simp [intOf]; omega
          · obtain rfl : x = ww := by omega
            go_wp2_with fail
            go_roundw
            case rel => exact ⟨y + 1, _, by omega, by go_num, by rw [tot_succ], rfl⟩
            case measure => simp [intOf]; omega
      · obtain rfl : y = hh := by omega
        go_wp2_with fail
        go_ret
        exact ⟨ret_int hf.out.symm, Nx.drewN (Below.refl _ _) _⟩

set_option maxHeartbeats 2000000 in
theorem impl_CutsFor (v u : Value) (p q : List (List Int)) (w : World) (h : RdM w v p) (hl : OkM p) (h' : RdM w u q) (hl' : OkM q) :
    Calls Try.prog 23 #[v, u] w fun e w' => e = .returned (.int .i64 (cuts p q)) ∧ Nx w w' := by
  have K := hide (implQ_CanCarve v u p q w h h' hl hl')
  cases hg : carve p q with
  | false =>
    have hf := hide (show cuts p q = -1 from by simp [cuts, hg])
    rw [hg] at K
    go_enter Try.func23, Try.ntmps23
    go_wp2_with (go_at_call 19; fail)
    refine (unhide K).mono ?_
    rintro e w1 ⟨rfl, m, rfl⟩
    go_wp2_with fail
    go_ret
    exact ⟨ret_int hf.out.symm, Nx.drewN (Below.refl _ _) _⟩
  | true =>
    rw [hg] at K
    obtain ⟨h1, h2, h3, h4, _⟩ := carve_grid hg
    have hf := hide (show cuts p q = tot (cutAt p q) (rowAt p 0).length p.length from by simp [cuts, hg])
    obtain ⟨hG, hh, hw⟩ := gridOk_grid h1
    obtain ⟨hG', hh', hw'⟩ := gridOk_grid h2
    have hr := h.grid hG (by omega) (by omega)
    have hr' := h'.grid hG' (by omega) (by omega)
    clear h h' hl hl'
    have hh8 : p.length ≤ 8 := by omega
    have ww8 : (rowAt p 0).length ≤ 8 := by omega
    have hz : ∀ y x, 0 ≤ cutAt p q y x ∧ cutAt p q y x ≤ 1 := fun y x => by unfold cutAt; split <;> omega
    have Hz := hide hz
    have Hc : Hid (∀ y x, cutAt p q y x = if g2 q y x = g2 p y x then 0 else 1) := fun y x => rfl
    rw [← h3, ← h4] at hr'
    clear h1 h2 h3 hG hG' hh hw hh' hw' hg hz
    obtain ⟨b, off, c, rb, ro, rc, rfl, hrow, hcell⟩ := hr
    obtain ⟨b', off', c', rb', ro', rc', rfl, hrow', hcell'⟩ := hr'
    clear h4
    generalize p.length = hh at *
    generalize (rowAt p 0).length = ww at *
    generalize g2 p = f at *
    generalize g2 q = f' at *
    generalize cutAt p q = ct at *
    have Hrow := hide hrow
    have Hcell := hide hcell
    have Hrow' := hide hrow'
    have Hcell' := hide hcell'
    clear hrow hcell hrow' hcell'
    go_enter Try.func23, Try.ntmps23
    go_wp2_with (go_at_call 19; fail)
    refine (unhide K).mono ?_
    rintro e w1 ⟨rfl, m, rfl⟩
    clear K
    go_wp2_with fail
    go_loopw [5, 14] (fun n i wr => ∃ y m : Nat, y ≤ hh ∧ i = .int .i64 y ∧ n = .int .i64 (tot ct ww y) ∧ wr = w.drewN m) (fun _ i _ => hh - (intOf i).toNat)
    case atStart => exact ⟨0, _, by omega, rfl, rfl, rfl⟩
    case round =>
      obtain ⟨y, m, hy, rfl, rfl, rfl⟩ := hrel
      have t1 := tot_bd (f := ct) (m := 1) hy hh8 ww8 (by omega) (fun y x _ _ => Hz.out y x)
      by_cases hlt : y < hh
      · have k1 := Hrow.out y hlt
        have k2 := Hrow'.out y hlt
        have p3 : (y : Int) < (hh : Int) := by omega
        go_wp2_with fail
        go_loopw [5, 22] (fun n i wr => ∃ x m : Nat, x ≤ ww ∧ i = .int .i64 x ∧ n = .int .i64 (tot ct ww y + s1 (ct y) x) ∧ wr = w.drewN m) (fun _ i _ => ww - (intOf i).toNat)
        case atStart => exact ⟨0, _, by omega, rfl, by simp [s1], rfl⟩
        case round =>
          obtain ⟨x, m, hx, rfl, rfl, rfl⟩ := hrel
          have t2 := s1_le8 (g := ct y) (m := 1) (k := x) (by omega) (by omega) (fun j _ => Hz.out y j)
          by_cases hxl : x < ww
          · have k3 := Hcell.out y x hlt hxl
            have k4 := Hcell'.out y x hlt hxl
            have p4 : (x : Int) < (ww : Int) := by omega
            by_cases hc : f' y x = f y x
            · have e0 := hide (show ct y x = 0 from by rw [Hc.out]; exact if_pos hc)
              have d1 : (f' y x != f y x) = false := by simp [hc]
              have d2 : (f' y x == f y x) = true := by simp [hc]
              clear hc
              go_wp2_with fail
              go_quiet (fail)
              go_wp2
              go_roundw
              case rel => exact ⟨x + 1, _, by omega, by go_num, by simp only [s1]; rw [e0.out]; go_num, rfl⟩
              case measure => simp [intOf]; omega
            · have e0 := hide (show ct y x = 1 from by rw [Hc.out]; exact if_neg hc)
              have d1 : (f' y x != f y x) = true := by simp [hc]
              have d2 : (f' y x == f y x) = false := by simp [hc]
              clear hc
              go_wp2_with fail
              go_quiet (fail)
              go_wp2
              go_roundw
              case rel => exact ⟨x + 1, _, by omega, by go_num, by simp only [s1]; rw [e0.out]; go_num, rfl⟩
              case measure => simp [intOf]; omega
          · obtain rfl : x = ww := by omega
            go_wp2_with fail
            go_roundw
            case rel => exact ⟨y + 1, _, by omega, by go_num, by rw [tot_succ], rfl⟩
            case measure => simp [intOf]; omega
      · obtain rfl : y = hh := by omega
        go_wp2_with fail
        go_ret
        exact ⟨ret_int hf.out.symm, Nx.drewN (Below.refl _ _) _⟩

end Go.Proofs.Ytlkaalbhhnineaa
