/- Players: without one. -/
import Derived.Test.YtfilpeamhcdgfaaPlY
import Derived.Test.YtfilpeamhcdgfaaCsF
import Derived.Test.YtfilpeamhcdgfaaCsG
import Derived.WalkKit
import Derived.ProofKit
import Derived.Handy
import Derived.OpenShut
import Derived.ShutString
import Derived.ChangeOld
import Derived.Below
import Derived.BigQuiet
import Derived.Deep.QuietTactic
import Derived.Deep.Draws
import Derived.Deep.DeepCutAuto
import Derived.Deep.DeepFit
import Derived.Deep.LoopGhost
import Derived.Outline
import Derived.WalkSpells
import Derived.WalkLawsBesides
import Derived.WalkSmall
import Derived.Laws.OwnMore
import Derived.OneCell
import Derived.Laws.Rows
import Derived.Maps.AppendAt
import Derived.StillTailTactics
import Derived.Lib.SmallJoins
import Derived.Deep.RegionWith
import Derived.Deep.RegionHeld3
import Derived.RegionTactic
import Derived.Deep.Matrix
import Derived.Deep.Fields
import Derived.ChangeSame
namespace Go.Proofs.Ytfilpeamhcdgfaa
open Go.RowKit

set_option maxHeartbeats 2000000 in
theorem impl_WithoutPlayer (v : Value) (ps : List Plr) (k : Int) (w : World) (h : RdP w v ps) (hl : FitP ps) (_ : I64 k) :
    Calls Try.prog 20 #[v, .int .i64 k] w fun e w' => ∃ u, e = .returned (.tuple #[u, .bool (illB ps k)]) ∧ OwP w' w.heap.size u (illP ps k) ∧ Nx w w' := by
  have hv := hide h
  obtain ⟨A, c, rfl, hx⟩ := h
  clear hx
  have hn := hl.1
  cases h1 : playersOk ps with
  | false =>
    have hf := hide (show illB ps k = false ∧ illP ps k = ps from by simp [illB, illP, h1])
    go_enter Try.func20, Try.ntmps20
    go_wp2_with (go_at_call 39; fail)
    refine (copyPlayers_any _ ps w hv.out hl).mono ?_
    rintro e w1 ⟨u, rfl, hu, b1⟩
    have HV1 := hide (hv.out.below b1)
    have HB1 := hide b1
    have HU1 := hide hu
    clear b1 hu
    go_wp2_with (go_at_call 40; fail)
    refine (impl_PlayersOk _ ps w1 HV1.out hl).mono ?_
    rintro e w2 ⟨rfl, b2⟩
    have HU2 := hide (HU1.out.below b2)
    have HB2 := hide (HB1.out.trans b2)
    rw [h1]
    clear b2 h1 HU1 HB1 HV1
    go_wp2_with (fail)
    go_ret2
    exact ⟨_, by rw [hf.out.1]; rfl, by rw [hf.out.2]; exact HU2.out, HB2.out⟩
  | true =>
    cases h2 : inR k 0 ((ps.length : Int) - 1) with
    | false =>
      have hf := hide (show illB ps k = false ∧ illP ps k = ps from by simp [illB, illP, h1, h2])
      go_enter Try.func20, Try.ntmps20
      go_wp2_with (go_at_call 39; fail)
      refine (copyPlayers_any _ ps w hv.out hl).mono ?_
      rintro e w1 ⟨u, rfl, hu, b1⟩
      have HV1 := hide (hv.out.below b1)
      have HB1 := hide b1
      have HU1 := hide hu
      clear b1 hu
      go_wp2_with (go_at_call 40; fail)
      refine (impl_PlayersOk _ ps w1 HV1.out hl).mono ?_
      rintro e w2 ⟨rfl, b2⟩
      have HU2 := hide (HU1.out.below b2)
      have HB2 := hide (HB1.out.trans b2)
      rw [h1]
      clear b2 h1 HU1 HB1 HV1
      go_wp2_with (go_at_call 41; refine (within_any _ _ _ _).mono ?_; rintro e w' ⟨rfl, rfl⟩; rw [h2])
      go_ret2
      exact ⟨_, by rw [hf.out.1]; rfl, by rw [hf.out.2]; exact HU2.out, HB2.out⟩
    | true =>
      have b1 := inR_iff.1 h2
      obtain ⟨K, rfl⟩ := Int.eq_ofNat_of_zero_le b1.1
      have hK : K < ps.length := by omega
      have hKi : (K : Int) < (ps.length : Int) := by omega
      have hf := hide (show illB ps (K : Int) = true ∧ illP ps (K : Int) = ill ps K from by simp [illB, illP, h1, h2])
      clear b1
      go_enter Try.func20, Try.ntmps20
      go_wp2_with (go_at_call 39; fail)
      refine (copyPlayers_any _ ps w hv.out hl).mono ?_
      rintro e w1 ⟨u, rfl, hu, b1⟩
      have HV1 := hide (hv.out.below b1)
      have HB1 := hide b1
      have HU1 := hide hu
      obtain ⟨g, cap, rfl, hgB, hgl⟩ := OwPN.open_ hu (by omega)
      clear b1 hu
      go_wp2_with (go_at_call 40; fail)
      refine (impl_PlayersOk _ ps w1 HV1.out hl).mono ?_
      rintro e w2 ⟨rfl, b2⟩
      have HU2 := hide (HU1.out.below b2)
      have HB2 := hide (HB1.out.trans b2)
      rw [h1]
      clear b2 h1 HU1 HB1 HV1
      have q1 := (OwPN.cells HU2.out hK).2
      have q2 := OwPN.frozenAt HU2.out (K * 2 + 1)
      have R := hide ((OwPN.free HU2.out hK 0).toP)
      have RB := hide (HB2.out.setCell (p := ⟨g, K * 2 + 1, none⟩) hgB (.int .i64 0))
      clear HU2 HB2
      go_wp2_with (go_at_call 41; refine (within_any _ _ _ _).mono ?_; rintro e w' ⟨rfl, rfl⟩; rw [h2])
      go_ret2
      exact ⟨_, by rw [hf.out.1]; rfl, by rw [hf.out.2]; exact R.out, RB.out⟩
set_option maxHeartbeats 2000000 in
theorem spec_WithoutPlayer (v : Value) (ps : List Plr) (k : Int) (w : World) (h : RdP w v ps) (hl : FitP ps) (_ : I64 k) :
    Calls Try.prog 28 #[v, .int .i64 k] w fun e w' => ∃ u, e = .returned (.tuple #[u, .bool (illB ps k)]) ∧ OwP w' w.heap.size u (illP ps k) ∧ Nx w w' := by
  have hv := hide h
  obtain ⟨A, c, rfl, hx⟩ := h
  clear hx
  have hn := hl.1
  cases h1 : playersOk ps with
  | false =>
    have hf := hide (show illB ps k = false ∧ illP ps k = ps from by simp [illB, illP, h1])
    go_enter Try.func28, Try.ntmps28
    go_wp2_with (go_at_call 48; fail)
    refine (l17Copy_any _ ps w hv.out hl).mono ?_
    rintro e w1 ⟨u, rfl, hu, b1⟩
    have HV1 := hide (hv.out.below b1)
    have HB1 := hide b1
    have HU1 := hide hu
    clear b1 hu
    go_wp2_with (go_at_call 36; fail)
    refine (spec_PlayersOk _ ps w1 HV1.out hl).mono ?_
    rintro e w2 ⟨rfl, m, rfl⟩
    have HU2 := hide (HU1.out.below (Nx.drewN (Below.refl _ _) m))
    have HB2 := hide (Nx.drewN HB1.out m)
    rw [h1]
    clear h1 HU1 HB1 HV1
    generalize w1.drewN m = w2 at HU2 HB2 ⊢
    go_wp2_with (fail)
    go_ret2
    exact ⟨_, by rw [hf.out.1]; rfl, by rw [hf.out.2]; exact HU2.out, HB2.out⟩
  | true =>
    cases h2 : inR k 0 ((ps.length : Int) - 1) with
    | false =>
      have hf := hide (show illB ps k = false ∧ illP ps k = ps from by simp [illB, illP, h1, h2])
      go_enter Try.func28, Try.ntmps28
      go_wp2_with (go_at_call 48; fail)
      refine (l17Copy_any _ ps w hv.out hl).mono ?_
      rintro e w1 ⟨u, rfl, hu, b1⟩
      have HV1 := hide (hv.out.below b1)
      have HB1 := hide b1
      have HU1 := hide hu
      clear b1 hu
      go_wp2_with (go_at_call 36; fail)
      refine (spec_PlayersOk _ ps w1 HV1.out hl).mono ?_
      rintro e w2 ⟨rfl, m, rfl⟩
      have HU2 := hide (HU1.out.below (Nx.drewN (Below.refl _ _) m))
      have HB2 := hide (Nx.drewN HB1.out m)
      rw [h1]
      clear h1 HU1 HB1 HV1
      generalize w1.drewN m = w2 at HU2 HB2 ⊢
      go_wp2_with (go_at_call 49; refine (l01In_any _ _ _ _).mono ?_; rintro e w' ⟨rfl, rfl⟩; rw [h2])
      go_ret2
      exact ⟨_, by rw [hf.out.1]; rfl, by rw [hf.out.2]; exact HU2.out, HB2.out⟩
    | true =>
      have b1 := inR_iff.1 h2
      obtain ⟨K, rfl⟩ := Int.eq_ofNat_of_zero_le b1.1
      have hK : K < ps.length := by omega
      have hKi : (K : Int) < (ps.length : Int) := by omega
      have hf := hide (show illB ps (K : Int) = true ∧ illP ps (K : Int) = ill ps K from by simp [illB, illP, h1, h2])
      clear b1
      go_enter Try.func28, Try.ntmps28
      go_wp2_with (go_at_call 48; fail)
      refine (l17Copy_any _ ps w hv.out hl).mono ?_
      rintro e w1 ⟨u, rfl, hu, b1⟩
      have HV1 := hide (hv.out.below b1)
      have HB1 := hide b1
      have HU1 := hide hu
      obtain ⟨g, cap, rfl, hgB, hgl⟩ := OwPN.open_ hu (by omega)
      clear b1 hu
      go_wp2_with (go_at_call 36; fail)
      refine (spec_PlayersOk _ ps w1 HV1.out hl).mono ?_
      rintro e w2 ⟨rfl, m, rfl⟩
      have HU2 := hide (HU1.out.below (Nx.drewN (Below.refl _ _) m))
      have HB2 := hide (Nx.drewN HB1.out m)
      rw [h1]
      clear h1 HU1 HB1 HV1
      generalize w1.drewN m = w2 at HU2 HB2 ⊢
      have q1 := (OwPN.cells HU2.out hK).2
      have q2 := OwPN.frozenAt HU2.out (K * 2 + 1)
      have R := hide ((OwPN.free HU2.out hK 0).toP)
      have RB := hide (HB2.out.setCell (p := ⟨g, K * 2 + 1, none⟩) hgB (.int .i64 0))
      clear HU2 HB2
      go_wp2_with (go_at_call 49; refine (l01In_any _ _ _ _).mono ?_; rintro e w' ⟨rfl, rfl⟩; rw [h2])
      go_ret2
      exact ⟨_, by rw [hf.out.1]; rfl, by rw [hf.out.2]; exact R.out, RB.out⟩
theorem kn_illP (ps : List Plr) (k : Int) (j : Nat) : kn (illP ps k) j = kn ps j := by
  unfold illP
  split
  · unfold ill
    by_cases e : j = k.toNat
    · subst e
      by_cases h : k.toNat < ps.length
      · rw [kn_set_same h]
      · rw [List.set_eq_of_length_le (by omega)]
    · rw [kn_set_other e]
  · rfl
theorem illP_length (ps : List Plr) (k : Int) : (illP ps k).length = ps.length := by
  unfold illP ill
  split <;> simp
theorem sumP_congr {ps qs : List Plr} (h : ∀ j, (kn ps j).length = (kn qs j).length) (n : Nat) : sumP ps n = sumP qs n := by
  induction n with
  | zero => rfl
  | succ n ih => simp only [sumP]; rw [ih, h]
theorem FitP.ill {ps : List Plr} (h : FitP ps) (k : Int) : FitP (illP ps k) := by
  unfold FitP
  rw [illP_length, sumP_congr (qs := ps) (fun j => by rw [kn_illP])]
  exact h
set_option maxHeartbeats 1000000 in
theorem canPlay_any (v : Value) (ps : List Plr) (u : Value) (pu : List Int) (w : World) (h : RdP w v ps) (hl : FitP ps) (hu : RdI w u pu) (hul : pu.length ≤ 1048576) :
    Calls Try.prog 30 #[v, u] w fun e w' => e = .returned (.bool (canP ps pu)) ∧ Nx w w' := by
  have hv := hide h
  have hw := hide hu
  obtain ⟨A, c, rfl, hx⟩ := h
  obtain ⟨Ap, cp, rfl, hx2⟩ := hu
  clear hx hx2
  go_enter Try.func30, Try.ntmps30
  go_wp2_with (go_at_call 50; fail)
  refine (impl_FirstCasting _ ps _ pu w hv.out hl hw.out hul).mono ?_
  rintro e w1 ⟨r, rfl, b1⟩
  have HB := hide b1
  clear b1
  go_wp2_with fail
  go_ret
  exact ⟨rfl, HB.out⟩
set_option maxHeartbeats 1000000 in
theorem l17Can_any (v : Value) (ps : List Plr) (u : Value) (pu : List Int) (w : World) (h : RdP w v ps) (hl : FitP ps) (hu : RdI w u pu) (hul : pu.length ≤ 1048576) :
    Calls Try.prog 27 #[v, u] w fun e w' => e = .returned (.bool (canP ps pu)) ∧ Nx w w' := by
  have hv := hide h
  have hw := hide hu
  obtain ⟨A, c, rfl, hx⟩ := h
  obtain ⟨Ap, cp, rfl, hx2⟩ := hu
  clear hx hx2
  go_enter Try.func27, Try.ntmps27
  go_wp2_with (go_at_call 19; fail)
  refine (spec_FirstCasting _ ps _ pu w hv.out hl hw.out hul).mono ?_
  rintro e w1 ⟨r, rfl, b1⟩
  have HB := hide b1
  clear b1
  go_wp2_with fail
  go_ret
  exact ⟨rfl, HB.out⟩
set_option maxHeartbeats 1000000 in
theorem without_any (v : Value) (ps : List Plr) (u : Value) (pu : List Int) (k : Int) (w : World) (h : RdP w v ps) (hl : FitP ps) (hu : RdI w u pu) (hul : pu.length ≤ 1048576) (hk : I64 k) :
    Calls Try.prog 31 #[v, u, .int .i64 k] w fun e w' => e = .returned (.bool (canP (illP ps k) pu)) ∧ Nx w w' := by
  have hv := hide h
  have hw := hide hu
  obtain ⟨A, c, rfl, hx⟩ := h
  obtain ⟨Ap, cp, rfl, hx2⟩ := hu
  clear hx hx2
  go_enter Try.func31, Try.ntmps31
  go_wp2_with (go_at_call 20; fail)
  refine (impl_WithoutPlayer _ ps k w hv.out hl hk).mono ?_
  rintro e w1 ⟨r, rfl, ho, b1⟩
  have HO := hide ho.reads
  have HB := hide b1
  clear b1 ho
  go_wp2_with (go_at_call 30; fail)
  refine (canPlay_any _ (illP ps k) _ pu w1 HO.out (hl.ill k) (hw.out.below HB.out) hul).mono ?_
  rintro e w2 ⟨rfl, b2⟩
  have HB2 := hide (HB.out.trans b2)
  clear b2
  go_wp2_with fail
  go_ret
  exact ⟨rfl, HB2.out⟩

end Go.Proofs.Ytfilpeamhcdgfaa
