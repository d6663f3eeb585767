/- TourLength: impl. -/
import Derived.Test.YtemijekdcifncaaTourS
import Derived.WalkKit
import Derived.ProofKit
import Derived.Handy
import Derived.OpenShut
import Derived.ShutString
import Derived.ChangeOld
import Derived.Below
import Derived.BigQuiet
import Derived.Deep.QuietTactic
import Derived.Deep.Draws
import Derived.Deep.DeepCutAuto
import Derived.Deep.DeepFit
import Derived.Deep.LoopGhost
import Derived.Outline
import Derived.WalkSpells
import Derived.WalkLawsBesides
import Derived.WalkSmall
import Derived.Laws.OwnMore
import Derived.OneCell
import Derived.Laws.Rows
import Derived.Maps.AppendAt
import Derived.StillTailTactics
import Derived.Lib.SmallJoins
import Derived.Deep.RegionWith
import Derived.Deep.RegionHeld3
import Derived.RegionTactic
import Derived.Deep.Matrix
import Derived.Deep.Fields
import Derived.ChangeSame
namespace Go.Proofs.Ytemijekdcifncaa
open Go.RowKit

set_option maxRecDepth 100000 in
set_option maxHeartbeats 4000000 in
theorem impl_TourLength (v : Value) (rows : List (List Int)) (u : Value) (zs : List Int) (w : World) (h : RdM w v rows) (hl : OkM rows) (hu : RdI w u zs) (hzl : zs.length ≤ 1048576) :
    Calls Try.prog 27 #[v, u] w fun e w' => e = .returned (.int .i64 (tourLen rows zs)) ∧ Nx w w' := by
  have hv := hide h
  have hn := hl.1
  obtain ⟨A, c, rfl, hx⟩ := h
  have hU := hide hu
  obtain ⟨A2, c2, rfl, hx2⟩ := hu
  clear hx hx2
  have K := hide (implQ_MapOk _ rows w hv.out hl)
  clear hl
  cases h1 : mapOk rows with
  | false =>
    have hf := hide (show tourLen rows zs = -1 from by simp [tourLen, h1])
    rw [h1] at K
    go_enter Try.func27, Try.ntmps27
    go_wp2_with (go_at_call 19; fail)
    refine (unhide K).mono ?_
    rintro e w1 ⟨rfl, m, rfl⟩
    go_wp2_with fail
    go_ret
    exact ⟨ret_int hf.out.symm, Nx.drewN (Below.refl _ _) _⟩
  | true =>
    rw [h1] at K
    have hP := mapOk_iff.1 h1
    have hlen := hP.len
    cases h3 : decide (zs.length = rows.length - 1) with
    | false =>
      have hne : zs.length ≠ rows.length - 1 := of_decide_eq_false h3
      have hf := hide (show tourLen rows zs = -1 from by simp [tourLen, tourOk, hne])
      have d1 : ((zs.length : Int) != (rows.length : Int) - 1) = true := by simp; omega
      have d2 : ((zs.length : Int) == (rows.length : Int) - 1) = false := by simp; omega
      clear hP h3 hne
      go_enter Try.func27, Try.ntmps27
      go_wp2_with (go_at_call 19; fail)
      refine (unhide K).mono ?_
      rintro e w1 ⟨rfl, m, rfl⟩
      go_wp2_with fail
      go_ret
      exact ⟨ret_int hf.out.symm, Nx.drewN (Below.refl _ _) _⟩
    | true =>
    have hzeq := of_decide_eq_true h3
    have d1 : ((zs.length : Int) != (rows.length : Int) - 1) = false := by simp; omega
    have d2 : ((zs.length : Int) == (rows.length : Int) - 1) = true := by simp; omega
    clear h3
    cases h2 : tourOk rows.length zs with
    | false =>
      have hf := hide (show tourLen rows zs = -1 from by simp [tourLen, h2])
      have hst : strictL 1 ((rows.length : Int) - 1) (sortL zs) = false := by
        rw [strict_sorted, Bool.and_comm]
        simpa [tourOk, hzeq] using h2
      clear hP h2 hzeq
      go_enter Try.func27, Try.ntmps27
      go_wp2_with (go_at_call 19; fail)
      refine (unhide K).mono ?_
      rintro e w1 ⟨rfl, m, rfl⟩
      go_wp2_with (go_at_call 40; fail)
      refine (sorted_any _ _ _ (hU.out.below (Nx.drewN (Below.refl _ _) _)) hzl).mono ?_
      rintro e w1 ⟨u1, rfl, hown, hb1⟩
      have hrs := hown.reads
      clear hown
      obtain ⟨A6, c6, rfl, hx6⟩ := hrs
      have hrs := hide (show RdI w1 (.slice A6 (sortL zs).length c6) (sortL zs) from ⟨A6, c6, rfl, hx6⟩)
      clear hx6
      go_wp2_with (go_at_call 39; fail)
      refine (isStrict_any _ _ _ _ _ hrs.out (by rw [sortL_length]; exact hzl)).mono ?_
      rintro e w2 ⟨rfl, m2, rfl⟩
      rw [hst]
      have hN : Nx w (w1.drewN m2) := Nx.drewN ((Nx.drewN (Below.refl _ _) _).trans hb1) _
      clear K hb1 hrs hst
      generalize w1.drewN m2 = wz at *
      go_wp2_with fail
      go_ret
      exact ⟨ret_int hf.out.symm, hN⟩
    | true =>
      have hf := hide (show tourLen rows zs = wayTo rows zs zs.length + g2 rows (atTo zs zs.length) 0 from by simp [tourLen, h1, h2])
      obtain ⟨hzn, hzb⟩ := tourOk_iff h2
      have hz0 : 0 < zs.length := by omega
      have hz6 : zs.length ≤ 6 := by omega
      clear hzn
      have Hzb := hide hzb
      have Hlt := hide (fun k hk => atTo_lt (n := rows.length) (by omega) hzb (k := k) hk)
      have Hbd := hide hP.bd
      have Hway := hide (fun k hk => wayTo_bd (rows := rows) (by omega) hP.bd hzb (k := k) hk)
      have hsq := hide hP.2.1
      have hst : strictL 1 ((rows.length : Int) - 1) (sortL zs) = true := by
        rw [strict_sorted, Bool.and_comm]
        simpa [tourOk, hzeq] using h2
      clear h1 h2 hzb hP hzeq
      go_enter Try.func27, Try.ntmps27
      go_wp2_with (go_at_call 19; fail)
      refine (unhide K).mono ?_
      rintro e w1 ⟨rfl, m, rfl⟩
      go_wp2_with (go_at_call 40; fail)
      refine (sorted_any _ _ _ (hU.out.below (Nx.drewN (Below.refl _ _) _)) hzl).mono ?_
      rintro e w1 ⟨u1, rfl, hown, hb1⟩
      have hrs := hown.reads
      clear hown
      obtain ⟨A6, c6, rfl, hx6⟩ := hrs
      have hrs := hide (show RdI w1 (.slice A6 (sortL zs).length c6) (sortL zs) from ⟨A6, c6, rfl, hx6⟩)
      clear hx6
      go_wp2_with (go_at_call 39; fail)
      refine (isStrict_any _ _ _ _ _ hrs.out (by rw [sortL_length]; exact hzl)).mono ?_
      rintro e w2 ⟨rfl, m2, rfl⟩
      rw [hst]
      have hN : Nx w (w1.drewN m2) := Nx.drewN ((Nx.drewN (Below.refl _ _) _).trans hb1) _
      clear K hb1 hrs hst
      generalize w1.drewN m2 = wz at *
      obtain ⟨b, o, c1, rb, ro, rc, e1, hr1, hr2⟩ := (hv.out.below hN).sq rfl hsq.out (by omega)
      injection e1 with e2 e3 e4
      subst e2 e4
      clear e3
      obtain ⟨A3, c3, e5, hx3⟩ := hU.out.below hN
      obtain ⟨b0, off, rfl, hb0, hc⟩ := hx3 (by omega)
      injection e5 with e6 e7 e8
      subst e6
      clear e7 e8 hx3
      have Hr1 := hide hr1
      have Hr2 := hide hr2
      have Hc := hide hc
      clear hr1 hr2 hc
      go_wp2_with fail
      go_loop [5, 6, 31] (fun s a i => ∃ k : Nat, k ≤ zs.length ∧ i = .int .i64 k ∧ s = .int .i64 (wayTo rows zs k) ∧ a = .int .i64 (atTo zs k : Nat)) (fun _ _ i => zs.length - (intOf i).toNat)
      case atStart => exact ⟨0, Nat.zero_le _, rfl, rfl, rfl⟩
      case round =>
        clear d1 d2
        obtain ⟨k, hk, rfl, rfl, rfl⟩ := hrel
        have bw := Hway.out k hk
        have ba := Hlt.out k hk
        by_cases hlt : k < zs.length
        · have bz := Hzb.out k hlt
          have ck := Hc.out k hlt
          obtain ⟨T, hT⟩ := Int.eq_ofNat_of_zero_le (show 0 ≤ gt zs k by omega)
          have hTn : (gt zs k).toNat = T := by omega
          have hTl : T < rows.length := by omega
          have cr := Hr1.out (atTo zs k) ba
          have cc := Hr2.out (atTo zs k) T ba hTl
          have bg := Hbd.out (atTo zs k) T ba hTl
          have E1 : Hid (wayTo rows zs k + g2 rows (atTo zs k) T = wayTo rows zs (k + 1)) := by
            have e : wayTo rows zs (k + 1) = wayTo rows zs k + g2 rows (atTo zs k) (gt zs k).toNat := rfl
            rw [hTn] at e
            exact e.symm
          have E2 : Hid (atTo zs (k + 1) = T) := hTn
          rw [hT] at ck
          clear hT hTn bz
          generalize g2 rows (atTo zs k) T = g at *
          generalize atTo zs k = a at *
          generalize wayTo rows zs k = s at *
          have hab : (a : Int) < (rows.length : Int) := by omega
          have hTb : (T : Int) < (rows.length : Int) := by omega
          have hkb : (k : Int) < (zs.length : Int) := by omega
          have hwr := IntWalk.i64_in (s + g) (by omega)
          go_wp2_with fail
          go_round
          case rel => exact ⟨k + 1, by omega, by go_num, by rw [E1.out], by rw [E2.out]⟩
          case measure => simp [intOf]; omega
        · obtain rfl : k = zs.length := by omega
          have cr := Hr1.out (atTo zs zs.length) ba
          have cc := Hr2.out (atTo zs zs.length) 0 ba (by omega)
          have bg := Hbd.out (atTo zs zs.length) 0 ba (by omega)
          rw [Nat.add_zero] at cc
          generalize g2 rows (atTo zs zs.length) 0 = g at *
          generalize atTo zs zs.length = a at *
          generalize wayTo rows zs zs.length = s at *
          have hwr := IntWalk.i64_in (s + g) (by omega)
          go_wp2_with fail
          go_ret
          exact ⟨ret_int hf.out.symm, hN⟩

end Go.Proofs.Ytemijekdcifncaa
