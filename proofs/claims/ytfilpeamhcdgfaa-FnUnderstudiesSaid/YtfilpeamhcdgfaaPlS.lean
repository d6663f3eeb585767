/- Players: safe casts. -/
import Derived.Test.YtfilpeamhcdgfaaPlI
import Derived.WalkKit
import Derived.ProofKit
import Derived.Handy
import Derived.OpenShut
import Derived.ShutString
import Derived.ChangeOld
import Derived.Below
import Derived.BigQuiet
import Derived.Deep.QuietTactic
import Derived.Deep.Draws
import Derived.Deep.DeepCutAuto
import Derived.Deep.DeepFit
import Derived.Deep.LoopGhost
import Derived.Outline
import Derived.WalkSpells
import Derived.WalkLawsBesides
import Derived.WalkSmall
import Derived.Laws.OwnMore
import Derived.OneCell
import Derived.Laws.Rows
import Derived.Maps.AppendAt
import Derived.StillTailTactics
import Derived.Lib.SmallJoins
import Derived.Deep.RegionWith
import Derived.Deep.RegionHeld3
import Derived.RegionTactic
import Derived.Deep.Matrix
import Derived.Deep.Fields
import Derived.ChangeSame
namespace Go.Proofs.Ytfilpeamhcdgfaa
open Go.RowKit

theorem canF_mono {ps qs : List Plr} {pu : List Int} (hk : ∀ p, kn ps p = kn qs p) (hl : ps.length = qs.length) : ∀ (f : Nat) (fs gs : List Int), fs.length = ps.length → gs.length = ps.length → (∀ p, p < ps.length → gt fs p ≤ gt gs p) → canF ps pu f fs = true → canF qs pu f gs = true := by
  intro f
  induction f with
  | zero => intros; rfl
  | succ f ih =>
    intro fs gs h1 h2 h3 h
    simp only [canF, List.any_eq_true, List.mem_range, Bool.and_eq_true, decide_eq_true_eq] at h ⊢
    obtain ⟨p, hp, ⟨h4, h5⟩, h6⟩ := h
    have h7 := h3 p hp
    refine ⟨p, by omega, ⟨by omega, by rw [← hk]; exact h5⟩, ih _ _ (by rw [List.length_set, h1]) (by rw [List.length_set, h2]) (fun q hq => ?_) h6⟩
    rw [gt_set_at _ (by omega), gt_set_at _ (by omega)]
    split
    · omega
    · exact h3 q hq
theorem canP_ill {ps : List Plr} {pu : List Int} {k : Nat} (hok : playersOk ps = true) (hs : strictL 0 6 pu = true) (h : canP (illP ps (k : Int)) pu = true) : canP ps pu = true := by
  simp only [canP, Bool.and_eq_true] at h ⊢
  refine ⟨⟨hok, hs⟩, canF_mono (fun p => kn_illP ps k p) (illP_length ps k) _ _ _ (frL_length _) (by rw [frL_length, illP_length]) (fun p hp => ?_) h.2⟩
  have hp' : p < ps.length := by rwa [illP_length] at hp
  rw [gt_frL hp, gt_frL hp']
  have h0 := ((playersOk_iff.1 hok).1 p hp').2
  unfold illP
  split
  · unfold ill
    rw [Int.toNat_natCast]
    by_cases e : p = k
    · subst e
      rw [fr_set_same hp']
      omega
    · rw [fr_set_other e]; exact Int.le_refl _
  · exact Int.le_refl _
theorem safeP_no0 {ps : List Plr} {pu : List Int} (h : canP ps pu = false) : safeP ps pu = false := by simp [safeP, h]
theorem safeP_noK {ps : List Plr} {pu : List Int} {k : Nat} (hk : k < ps.length) (h : canP (illP ps (k : Int)) pu = false) : safeP ps pu = false := by
  rw [Bool.eq_false_iff]
  intro ht
  simp only [safeP, Bool.and_eq_true, List.all_eq_true, List.mem_range] at ht
  rw [ht.2 k hk] at h
  cases h
theorem safeP_yes {ps : List Plr} {pu : List Int} (h : canP ps pu = true) (h2 : ∀ k, k < ps.length → canP (illP ps (k : Int)) pu = true) : safeP ps pu = true := by
  simp only [safeP, Bool.and_eq_true, List.all_eq_true, List.mem_range]
  exact ⟨h, h2⟩
theorem safeP_yesS {ps : List Plr} {pu : List Int} (hok : playersOk ps = true) (hs : strictL 0 6 pu = true) (h2 : ∀ k, k < ps.length → canP (illP ps (k : Int)) pu = true) : safeP ps pu = true :=
  safeP_yes (canP_ill hok hs (h2 0 (by have := (playersOk_iff.1 hok).2; omega))) h2
theorem canP_parts {ps : List Plr} {pu : List Int} (h : canP ps pu = true) : playersOk ps = true ∧ strictL 0 6 pu = true := by
  simp only [canP, Bool.and_eq_true] at h
  exact h.1
theorem safeP_parts {ps : List Plr} {pu : List Int} (h : safeP ps pu = true) : playersOk ps = true ∧ strictL 0 6 pu = true := by
  simp only [safeP, Bool.and_eq_true] at h
  exact canP_parts h.1
set_option maxHeartbeats 2000000 in
theorem impl_IsSafe (v : Value) (ps : List Plr) (u : Value) (pu : List Int) (w : World) (h : RdP w v ps) (hl : FitP ps) (hu : RdI w u pu) (hul : pu.length ≤ 1048576) :
    Calls Try.prog 18 #[v, u] w fun e w' => e = .returned (.bool (safeP ps pu)) ∧ Nx w w' := by
  have hv := hide h
  have hw := hide hu
  have hn := hl.1
  obtain ⟨A, c, rfl, hx⟩ := h
  obtain ⟨Ap, cp, rfl, hx2⟩ := hu
  clear hx hx2
  cases h1 : canP ps pu with
  | false =>
    have hf := hide (safeP_no0 h1)
    go_enter Try.func18, Try.ntmps18
    go_wp2_with (go_at_call 30; fail)
    refine (canPlay_any _ ps _ pu w hv.out hl hw.out hul).mono ?_
    rintro e w1 ⟨rfl, b1⟩
    rw [h1]
    have HB := hide b1
    clear b1 h1
    go_wp2_with fail
    go_ret
    exact ⟨ret_bool hf.out.symm, HB.out⟩
  | true =>
    have Hc := hide h1
    go_enter Try.func18, Try.ntmps18
    go_wp2_with (go_at_call 30; fail)
    refine (canPlay_any _ ps _ pu w hv.out hl hw.out hul).mono ?_
    rintro e w1 ⟨rfl, b1⟩
    rw [h1]
    have HB := hide b1
    clear b1 h1
    go_wp2_with fail
    go_loopw [12] (fun i wr => ∃ k : Nat, k ≤ ps.length ∧ i = .int .i64 (k : Int) ∧ Nx w wr ∧ Hid (∀ j, j < k → canP (illP ps (j : Int)) pu = true)) (fun i _ => ps.length - (intOf i).toNat)
    case atStart => exact ⟨0, Nat.zero_le _, rfl, HB.out, fun j hj => absurd hj (by omega)⟩
    case round =>
      clear HB
      obtain ⟨k, hk, rfl, hb, hall⟩ := hrel
      have HB := hide hb
      clear hb
      by_cases hlt : k < ps.length
      · have hki : (k : Int) < (ps.length : Int) := by omega
        go_wp2_with (go_at_call 31; fail)
        refine (without_any _ ps _ pu (k : Int) wr (hv.out.below HB.out) hl (hw.out.below HB.out) hul (by unfold I64; omega)).mono ?_
        rintro e w2 ⟨rfl, b2⟩
        have HB2 := hide (HB.out.trans b2)
        clear b2
        cases h2 : canP (illP ps (k : Int)) pu with
        | false =>
          have hf := hide (safeP_noK hlt h2)
          clear h2
          go_wp2_with fail
          go_ret
          exact ⟨ret_bool hf.out.symm, HB2.out⟩
        | true =>
          have R : Hid (∀ j, j < k + 1 → canP (illP ps (j : Int)) pu = true) := fun j hj => by
            rcases Nat.lt_or_ge j k with h | h
            · exact hall.out j h
            · obtain rfl : j = k := by omega
              exact h2
          clear h2
          go_wp2_with fail
          go_roundw
          case rel => exact ⟨k + 1, by omega, by go_num, HB2.out, R⟩
          case measure => simp [intOf]; omega
      · obtain rfl : k = ps.length := by omega
        have hf := hide (safeP_yes Hc.out hall.out)
        go_wp2_with fail
        go_ret
        exact ⟨ret_bool hf.out.symm, HB.out⟩
set_option maxHeartbeats 1000000 in
theorem l14Ok_any (v : Value) (ps : List Plr) (u : Value) (pu : List Int) (w : World) (h : RdP w v ps) (hl : FitP ps) (hu : RdI w u pu) (hul : pu.length ≤ 1048576) :
    Calls Try.prog 45 #[v, u] w fun e w' => e = .returned (.bool (playersOk ps && strictL 0 6 pu)) ∧ ∃ m, w' = w.drewN m := by
  have hv := hide h
  have hw := hide hu
  obtain ⟨A, c, rfl, hx⟩ := h
  obtain ⟨Ap, cp, rfl, hx2⟩ := hu
  clear hx hx2
  cases h1 : playersOk ps with
  | false =>
    go_enter Try.func45, Try.ntmps45
    go_wp2_with (go_at_call 36; fail)
    refine (spec_PlayersOk _ ps w hv.out hl).mono ?_
    rintro e w1 ⟨rfl, m, rfl⟩
    rw [h1]
    clear h1
    go_wp2_with fail
    go_ret
    exact ⟨rfl, m, rfl⟩
  | true =>
    go_enter Try.func45, Try.ntmps45
    go_wp2_with (go_at_call 36; fail)
    refine (spec_PlayersOk _ ps w hv.out hl).mono ?_
    rintro e w1 ⟨rfl, m, rfl⟩
    rw [h1]
    clear h1
    go_wp2_with (go_at_call 37; fail)
    refine (l11Rising_any _ pu _ (hw.out.below (Nx.drewN (Below.refl _ _) m)) hul).mono ?_
    rintro e w2 ⟨rfl, m2, rfl⟩
    go_wp2_with fail
    go_ret
    exact ⟨by simp, _, rfl⟩
set_option maxHeartbeats 2000000 in
theorem spec_IsSafe (v : Value) (ps : List Plr) (u : Value) (pu : List Int) (w : World) (h : RdP w v ps) (hl : FitP ps) (hu : RdI w u pu) (hul : pu.length ≤ 1048576) :
    Calls Try.prog 24 #[v, u] w fun e w' => e = .returned (.bool (safeP ps pu)) ∧ Nx w w' := by
  have hv := hide h
  have hw := hide hu
  have hn := hl.1
  obtain ⟨A, c, rfl, hx⟩ := h
  obtain ⟨Ap, cp, rfl, hx2⟩ := hu
  clear hx hx2
  cases h1 : (playersOk ps && strictL 0 6 pu) with
  | false =>
    have hf := hide (show safeP ps pu = false from by
      rw [Bool.eq_false_iff]
      intro ht
      have := safeP_parts ht
      rw [this.1, this.2] at h1
      cases h1)
    go_enter Try.func24, Try.ntmps24
    go_wp2_with (go_at_call 45; fail)
    refine (l14Ok_any _ ps _ pu w hv.out hl hw.out hul).mono ?_
    rintro e w1 ⟨rfl, m, rfl⟩
    rw [h1]
    clear h1
    go_wp2_with fail
    go_ret
    exact ⟨ret_bool hf.out.symm, Nx.drewN (Below.refl _ _) m⟩
  | true =>
    have Hc := hide (show playersOk ps = true ∧ strictL 0 6 pu = true from by simpa using h1)
    go_enter Try.func24, Try.ntmps24
    go_wp2_with (go_at_call 45; fail)
    refine (l14Ok_any _ ps _ pu w hv.out hl hw.out hul).mono ?_
    rintro e w1 ⟨rfl, m, rfl⟩
    rw [h1]
    have HB := hide (Nx.drewN (Below.refl w.heap.size w) m)
    clear h1
    go_wp2_with fail
    go_loopw [5] (fun i wr => ∃ k : Nat, k ≤ ps.length ∧ i = .int .i64 (k : Int) ∧ Nx w wr ∧ Hid (∀ j, j < k → canP (illP ps (j : Int)) pu = true)) (fun i _ => ps.length - (intOf i).toNat)
    case atStart => exact ⟨0, Nat.zero_le _, rfl, HB.out, fun j hj => absurd hj (by omega)⟩
    case round =>
      clear HB
      obtain ⟨k, hk, rfl, hb, hall⟩ := hrel
      have HB := hide hb
      clear hb
      by_cases hlt : k < ps.length
      · have hki : (k : Int) < (ps.length : Int) := by omega
        go_wp2_with (go_at_call 28; fail)
        refine (spec_WithoutPlayer _ ps (k : Int) wr (hv.out.below HB.out) hl (by unfold I64; omega)).mono ?_
        rintro e w2 ⟨r, rfl, ho, b2⟩
        have HB2 := hide (HB.out.trans b2)
        have HO := hide ho.reads
        clear b2 ho
        go_wp2_with (go_at_call 27; fail)
        refine (l17Can_any _ (illP ps (k : Int)) _ pu w2 HO.out (hl.ill k) (hw.out.below HB2.out) hul).mono ?_
        rintro e w3 ⟨rfl, b3⟩
        have HB3 := hide (HB2.out.trans b3)
        clear b3 HO
        cases h2 : canP (illP ps (k : Int)) pu with
        | false =>
          have hf := hide (safeP_noK hlt h2)
          clear h2
          go_wp2_with fail
          go_ret
          exact ⟨ret_bool hf.out.symm, HB3.out⟩
        | true =>
          have R : Hid (∀ j, j < k + 1 → canP (illP ps (j : Int)) pu = true) := fun j hj => by
            rcases Nat.lt_or_ge j k with h | h
            · exact hall.out j h
            · obtain rfl : j = k := by omega
              exact h2
          clear h2
          go_wp2_with fail
          go_roundw
          case rel => exact ⟨k + 1, by omega, by go_num, HB3.out, R⟩
          case measure => simp [intOf]; omega
      · obtain rfl : k = ps.length := by omega
        have hf := hide (safeP_yesS Hc.out.1 Hc.out.2 hall.out)
        go_wp2_with fail
        go_ret
        exact ⟨ret_bool hf.out.symm, HB.out⟩

end Go.Proofs.Ytfilpeamhcdgfaa
