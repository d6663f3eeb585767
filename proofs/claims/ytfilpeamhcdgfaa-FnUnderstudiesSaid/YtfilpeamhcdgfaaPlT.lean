/- Players: lessons, impl. -/
import Derived.Test.YtfilpeamhcdgfaaPlS
import Derived.WalkKit
import Derived.ProofKit
import Derived.Handy
import Derived.OpenShut
import Derived.ShutString
import Derived.ChangeOld
import Derived.Below
import Derived.BigQuiet
import Derived.Deep.QuietTactic
import Derived.Deep.Draws
import Derived.Deep.DeepCutAuto
import Derived.Deep.DeepFit
import Derived.Deep.LoopGhost
import Derived.Outline
import Derived.WalkSpells
import Derived.WalkLawsBesides
import Derived.WalkSmall
import Derived.Laws.OwnMore
import Derived.OneCell
import Derived.Laws.Rows
import Derived.Maps.AppendAt
import Derived.StillTailTactics
import Derived.Lib.SmallJoins
import Derived.Deep.RegionWith
import Derived.Deep.RegionHeld3
import Derived.RegionTactic
import Derived.Deep.Matrix
import Derived.Deep.Fields
import Derived.ChangeSame
namespace Go.Proofs.Ytfilpeamhcdgfaa
open Go.RowKit

set_option maxHeartbeats 2000000 in
theorem impl_TeachPuppet (v : Value) (ps : List Plr) (k x : Int) (w : World) (h : RdP w v ps) (hl : FitP ps) (_ : I64 k) (_ : I64 x) :
    Calls Try.prog 23 #[v, .int .i64 k, .int .i64 x] w fun e w' => ∃ u, e = .returned (.tuple #[u, .bool (teachB ps k x)]) ∧ OwP w' w.heap.size u (teachP ps k x) ∧ Nx w w' := by
  have hv := hide h
  obtain ⟨A, c, rfl, hx⟩ := h
  clear hx
  have hn := hl.1
  have hrow := hide (fun i hi => hl.row (k := i) hi)
  cases h1 : playersOk ps with
  | false =>
    have hf := hide (show teachB ps k x = false ∧ teachP ps k x = ps from by
      have : teachB ps k x = false := by simp [teachB, h1]
      exact ⟨this, by simp [teachP, this]⟩)
    go_enter Try.func23, Try.ntmps23
    go_wp2_with (go_at_call 39; fail)
    refine (copyPlayers_any _ ps w hv.out hl).mono ?_
    rintro e w1 ⟨u, rfl, hu, b1⟩
    have HV1 := hide (hv.out.below b1)
    have HB1 := hide b1
    have HU1 := hide hu
    clear b1 hu
    go_wp2_with (go_at_call 40; fail)
    refine (impl_PlayersOk _ ps w1 HV1.out hl).mono ?_
    rintro e w2 ⟨rfl, b2⟩
    have HU2 := hide (HU1.out.below b2)
    have HB2 := hide (HB1.out.trans b2)
    rw [h1]
    clear b2 HU1 HB1 HV1
    go_wp2_with (fail)
    go_ret2
    exact ⟨_, by rw [hf.out.1]; rfl, by rw [hf.out.2]; exact HU2.out, HB2.out⟩
  | true =>
    cases h2 : inR k 0 ((ps.length : Int) - 1) with
    | false =>
      have hf := hide (show teachB ps k x = false ∧ teachP ps k x = ps from by
        have : teachB ps k x = false := by simp [teachB, h1, h2]
        exact ⟨this, by simp [teachP, this]⟩)
      go_enter Try.func23, Try.ntmps23
      go_wp2_with (go_at_call 39; fail)
      refine (copyPlayers_any _ ps w hv.out hl).mono ?_
      rintro e w1 ⟨u, rfl, hu, b1⟩
      have HV1 := hide (hv.out.below b1)
      have HB1 := hide b1
      have HU1 := hide hu
      clear b1 hu
      go_wp2_with (go_at_call 40; fail)
      refine (impl_PlayersOk _ ps w1 HV1.out hl).mono ?_
      rintro e w2 ⟨rfl, b2⟩
      have HU2 := hide (HU1.out.below b2)
      have HB2 := hide (HB1.out.trans b2)
      rw [h1]
      clear b2 HU1 HB1 HV1
      go_wp2_with ((go_at_call 41; refine (within_any _ _ _ _).mono ?_; rintro e w' ⟨rfl, rfl⟩; first | rw [h2]))
      go_ret2
      exact ⟨_, by rw [hf.out.1]; rfl, by rw [hf.out.2]; exact HU2.out, HB2.out⟩
    | true =>
      cases h3 : inR x 0 6 with
      | false =>
        have hf := hide (show teachB ps k x = false ∧ teachP ps k x = ps from by
          have : teachB ps k x = false := by simp [teachB, h1, h2, h3]
          exact ⟨this, by simp [teachP, this]⟩)
        go_enter Try.func23, Try.ntmps23
        go_wp2_with (go_at_call 39; fail)
        refine (copyPlayers_any _ ps w hv.out hl).mono ?_
        rintro e w1 ⟨u, rfl, hu, b1⟩
        have HV1 := hide (hv.out.below b1)
        have HB1 := hide b1
        have HU1 := hide hu
        clear b1 hu
        go_wp2_with (go_at_call 40; fail)
        refine (impl_PlayersOk _ ps w1 HV1.out hl).mono ?_
        rintro e w2 ⟨rfl, b2⟩
        have HU2 := hide (HU1.out.below b2)
        have HB2 := hide (HB1.out.trans b2)
        rw [h1]
        clear b2 HU1 HB1 HV1
        go_wp2_with ((go_at_call 41; refine (within_any _ _ _ _).mono ?_; rintro e w' ⟨rfl, rfl⟩; first | rw [h2] | rw [h3]))
        go_ret2
        exact ⟨_, by rw [hf.out.1]; rfl, by rw [hf.out.2]; exact HU2.out, HB2.out⟩
      | true =>
        by_cases h4 : x ∈ kn ps k.toNat
        · have b1 := inR_iff.1 h2
          obtain ⟨K, rfl⟩ := Int.eq_ofNat_of_zero_le b1.1
          have hK : K < ps.length := by omega
          have hKi : (K : Int) < (ps.length : Int) := by omega
          have b3 := inR_iff.1 h3
          clear b1
          have hf := hide (show teachB ps (K : Int) x = false ∧ teachP ps (K : Int) x = ps from by
            have : teachB ps (K : Int) x = false := by simpa [teachB, h1, h2, h3] using h4
            exact ⟨this, by simp [teachP, this]⟩)
          obtain ⟨b0, off, rfl, hb0, hc⟩ := hv.out.cells (by omega)
          obtain ⟨⟨A1, c1, hk0, hrk⟩, hf0⟩ := hc K hK
          have Hk0 := hide hk0
          have Hrk := hide hrk
          clear hc hk0 hrk hf0
          have hix : 0 ≤ idxL (kn ps K) x := by
            have := idxL_neg (zs := kn ps K) (n := x)
            rcases Int.lt_or_le (idxL (kn ps K) x) 0 with h | h
            · exact absurd h4 (this.1 h)
            · exact h
          clear h4
          go_enter Try.func23, Try.ntmps23
          go_wp2_with (go_at_call 39; fail)
          refine (copyPlayers_any _ ps w hv.out hl).mono ?_
          rintro e w1 ⟨u, rfl, hu, b1⟩
          have HV1 := hide (hv.out.below b1)
          have HB1 := hide b1
          have HU1 := hide hu
          clear b1 hu
          go_wp2_with (go_at_call 40; fail)
          refine (impl_PlayersOk _ ps w1 HV1.out hl).mono ?_
          rintro e w2 ⟨rfl, b2⟩
          have HU2 := hide (HU1.out.below b2)
          have HB2 := hide (HB1.out.trans b2)
          rw [h1]
          clear b2 HU1 HB1 HV1
          have q0 := (HB2.out.cells b0 (off + K * 2) hb0).trans Hk0.out
          go_wp2_with (first | (go_at_call 41; refine (within_any _ _ _ _).mono ?_; rintro e w' ⟨rfl, rfl⟩; first | rw [h2] | rw [h3]) | (go_at_call 43; refine (indexOf_any _ (kn ps K) x _ (Hrk.out.below HB2.out) (hrow.out K hK)).mono ?_; rintro e w' ⟨rfl, rfl⟩))
          go_ret2
          exact ⟨_, by rw [hf.out.1]; rfl, by rw [hf.out.2]; exact HU2.out, HB2.out⟩
        · have b1 := inR_iff.1 h2
          obtain ⟨K, rfl⟩ := Int.eq_ofNat_of_zero_le b1.1
          have hK : K < ps.length := by omega
          have hKi : (K : Int) < (ps.length : Int) := by omega
          have b3 := inR_iff.1 h3
          clear b1
          have hf := hide (show teachB ps (K : Int) x = true ∧ teachP ps (K : Int) x = ps.set K (putL (kn ps K) x, fr ps K) from by
            have : teachB ps (K : Int) x = true := by simpa [teachB, h1, h2, h3] using h4
            exact ⟨this, by simp [teachP, this]⟩)
          obtain ⟨b0, off, rfl, hb0, hc⟩ := hv.out.cells (by omega)
          obtain ⟨⟨A1, c1, hk0, hrk⟩, hf0⟩ := hc K hK
          have Hk0 := hide hk0
          have Hrk := hide hrk
          clear hc hk0 hrk hf0
          have hix : ¬ 0 ≤ idxL (kn ps K) x := by
            have := (idxL_neg (zs := kn ps K) (n := x)).2 h4
            omega
          clear h4
          go_enter Try.func23, Try.ntmps23
          go_wp2_with (go_at_call 39; fail)
          refine (copyPlayers_any _ ps w hv.out hl).mono ?_
          rintro e w1 ⟨u, rfl, hu, b1⟩
          have HV1 := hide (hv.out.below b1)
          have HB1 := hide b1
          have HU1 := hide hu
          obtain ⟨g, cap, rfl, hgB, hgl⟩ := OwPN.open_ hu (by omega)
          clear b1 hu
          go_wp2_with (go_at_call 40; fail)
          refine (impl_PlayersOk _ ps w1 HV1.out hl).mono ?_
          rintro e w2 ⟨rfl, b2⟩
          have HU2 := hide (HU1.out.below b2)
          have HB2 := hide (HB1.out.trans b2)
          rw [h1]
          clear b2 HU1 HB1 HV1
          have q0 := (HB2.out.cells b0 (off + K * 2) hb0).trans Hk0.out
          go_wp2_with (first | (go_at_call 41; refine (within_any _ _ _ _).mono ?_; rintro e w' ⟨rfl, rfl⟩; first | rw [h2] | rw [h3]) | (go_at_call 43; refine (indexOf_any _ (kn ps K) x _ (Hrk.out.below HB2.out) (hrow.out K hK)).mono ?_; rintro e w' ⟨rfl, rfl⟩) | (go_at_call 44; fail))
          refine (put_any _ (kn ps K) x w2 (Hrk.out.below HB2.out) (hrow.out K hK)).mono ?_
          rintro e w4 ⟨r, rfl, hr, b4⟩
          have hU4 := HU2.out.below b4
          have q1 := (OwPN.cells hU4 hK).1
          obtain ⟨r0, q1, _⟩ := q1
          have q2 := OwPN.frozenAt hU4 (K * 2)
          have R := hide (OwPN.put HU2.out b4 hr HB2.out.size hK).toP
          have RB := hide ((HB2.out.trans b4).setCell (p := ⟨g, K * 2, none⟩) hgB r)
          obtain ⟨Ar, cr, rfl, _⟩ := hr.open_
          clear HU2 HB2 hU4 b4 hr q0
          go_wp2_with fail
          go_ret2
          exact ⟨_, by rw [hf.out.1]; rfl, by rw [hf.out.2]; exact R.out, RB.out⟩

end Go.Proofs.Ytfilpeamhcdgfaa
