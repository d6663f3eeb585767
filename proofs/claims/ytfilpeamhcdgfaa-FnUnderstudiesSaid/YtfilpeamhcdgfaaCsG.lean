/- FirstCasting: spec. -/
import Derived.Test.YtfilpeamhcdgfaaCsS
import Derived.WalkKit
import Derived.ProofKit
import Derived.Handy
import Derived.OpenShut
import Derived.ShutString
import Derived.ChangeOld
import Derived.Below
import Derived.BigQuiet
import Derived.Deep.QuietTactic
import Derived.Deep.Draws
import Derived.Deep.DeepCutAuto
import Derived.Deep.DeepFit
import Derived.Deep.LoopGhost
import Derived.Outline
import Derived.WalkSpells
import Derived.WalkLawsBesides
import Derived.WalkSmall
import Derived.Laws.OwnMore
import Derived.OneCell
import Derived.Laws.Rows
import Derived.Maps.AppendAt
import Derived.StillTailTactics
import Derived.Lib.SmallJoins
import Derived.Deep.RegionWith
import Derived.Deep.RegionHeld3
import Derived.RegionTactic
import Derived.Deep.Matrix
import Derived.Deep.Fields
import Derived.ChangeSame
namespace Go.Proofs.Ytfilpeamhcdgfaa
open Go.RowKit

theorem zeros_eq (n : Nat) : (madeCells #[Value.int .i64 0] n).toList = ((List.range n).map fun _ => (0 : Int)).map (Value.int .i64) := by
  rw [toList_madeCells_one]
  simp [List.map_const']
theorem gt_zeros (n p : Nat) : gt ((List.range n).map fun _ => (0 : Int)) p = 0 := by
  unfold gt
  rcases Nat.lt_or_ge p n with h | h
  · simp [h]
  · simp [List.getD, h]
theorem Hands.start {ps : List Plr} (hok : playersOk ps = true) : Hands ps (frL ps) ((List.range ps.length).map fun _ => (0 : Int)) := by
  refine ⟨frL_length ps, by simp, fun p hp => ?_⟩
  have h := ((playersOk_iff.1 hok).1 p hp).2
  rw [gt_frL hp, gt_zeros]
  omega
set_option maxHeartbeats 2000000 in
theorem spec_FirstCasting (v : Value) (ps : List Plr) (u : Value) (pu : List Int) (w : World) (h : RdP w v ps) (hl : FitP ps) (hu : RdI w u pu) (hul : pu.length ≤ 1048576) :
    Calls Try.prog 19 #[v, u] w fun e w' => ∃ r, e = .returned (.tuple #[r, .bool (canP ps pu)]) ∧ Nx w w' := by
  have hv := hide h
  have hw := hide hu
  obtain ⟨A, c, rfl, hx⟩ := h
  obtain ⟨Ap, cp, rfl, hx2⟩ := hu
  clear hx hx2
  cases h1 : playersOk ps with
  | false =>
    have hf := hide (show canP ps pu = false from by simp [canP, h1])
    go_enter Try.func19, Try.ntmps19
    go_wp2_with (go_at_call 36; fail)
    refine (spec_PlayersOk _ ps w hv.out hl).mono ?_
    rintro e w1 ⟨rfl, m, rfl⟩
    rw [h1]
    have HB := hide ((Nx.drewN (Below.refl w.heap.size w) m).trans (Nx.made (w.drewN m) (.cells #[] 3)))
    clear h1
    go_wp2_with fail
    go_ret2
    exact ⟨_, by rw [hf.out]; rfl, HB.out⟩
  | true =>
    cases h2 : strictL 0 6 pu with
    | false =>
      have hf := hide (show canP ps pu = false from by simp [canP, h2])
      go_enter Try.func19, Try.ntmps19
      go_wp2_with (go_at_call 36; fail)
      refine (spec_PlayersOk _ ps w hv.out hl).mono ?_
      rintro e w1 ⟨rfl, m, rfl⟩
      rw [h1]
      clear h1
      go_wp2_with (go_at_call 37; fail)
      refine (l11Rising_any _ pu _ (hw.out.below (Nx.drewN (Below.refl _ _) m)) hul).mono ?_
      rintro e w2 ⟨rfl, m2, rfl⟩
      rw [h2]
      have HB := hide ((Nx.drewN (Nx.drewN (Below.refl w.heap.size w) m) m2).trans (Nx.made ((w.drewN m).drewN m2) (.cells #[] 3)))
      clear h2
      generalize (w.drewN m).drewN m2 = w2 at HB ⊢
      go_wp2_with fail
      go_ret2
      exact ⟨_, by rw [hf.out]; rfl, HB.out⟩
    | true =>
      have hf := hide (show canP ps pu = canF ps pu pu.length (frL ps) from by simp [canP, h1, h2])
      have Hok := hide h1
      have hpn := (playersOk_iff.1 h1).2
      obtain ⟨i0, hi, hz0, hz1, hz2⟩ := info_parts intInfo
      have HI := hide (And.intro hi (And.intro hz0 (And.intro hz1 hz2)))
      clear hi hz0 hz1 hz2
      go_enter Try.func19, Try.ntmps19
      go_wp2_with (go_at_call 36; fail)
      refine (spec_PlayersOk _ ps w hv.out hl).mono ?_
      rintro e w1 ⟨rfl, m, rfl⟩
      rw [h1]
      clear h1
      go_wp2_with (go_at_call 37; fail)
      refine (l11Rising_any _ pu _ (hw.out.below (Nx.drewN (Below.refl _ _) m)) hul).mono ?_
      rintro e w2 ⟨rfl, m2, rfl⟩
      rw [h2]
      have HB := hide (Nx.drewN (Nx.drewN (Below.refl w.heap.size w) m) m2)
      clear h2
      generalize (w.drewN m).drewN m2 = w2 at HB ⊢
      have ho := OwI.made0 w2
      have hb := Nx.made w2 (.cells #[] 3)
      have hz := HB.out.size
      obtain ⟨hi, hz0, hz1, hz2⟩ := HI.out
      go_wp2_with (at_make; refine wpList_make_full _ rfl _ _ 23 rfl (w2.alloc (.cells #[] 3)).heap.size 3 i0 (.int .i64 0) 1 Try.underlying23 hi hz0 hz1 .i64 .i64 _ _ ps.length rfl rfl rfl rfl ?c1 ?c2 ?c3 ?_)
      case c1 => rw [hz2]; omega
      case c2 => unfold maxLen; omega
      case c3 => exact Nat.le_refl _
      intro w3 hown3 hg3
      rw [zeros_eq] at hown3
      have e1 : (w2.alloc (.cells #[] 3)).heap.size = w2.heap.size + 1 := by simp
      have hb3 : Nx (w2.alloc (.cells #[] 3)) w3 := (Below.refl _ _).grown hg3 (Nat.le_refl _) (by intro k hk; cases hk)
      have hL3 : OwN w3 w2.heap.size (.slice (some ⟨w2.heap.size + 1, 0, none⟩) ps.length ps.length) ps.length ((List.range ps.length).map fun _ => (0 : Int)) := owns_mono hown3 (by omega)
      have ho3 := ho.below hb3
      have HB3 := hide ((HB.out.trans hb).trans hb3)
      have HL3 := hide hL3
      have HO3 := hide ho3
      clear hi hz0 hz1 hz2 hown3 hg3 hb3 hL3 ho3 ho hb
      go_wp2_with (go_at_call 38; fail)
      refine (search_any hv.out hl Hok.out hw.out hul hz pu.length (frL ps) _ [] _ w3 (by simp) (Hands.start Hok.out) HO3.out (by simp [Value.ownBlock]) HL3.out HB3.out).mono ?_
      rintro e w4 ⟨r, rfl, hL4, hg4⟩
      have HB4 := hide (HB3.out.grownAt hg4 (by omega))
      clear hL4 hg4 HB3 HL3 HO3
      go_wp2_with fail
      go_ret2
      exact ⟨_, by rw [hf.out]; rfl, HB4.out⟩

end Go.Proofs.Ytfilpeamhcdgfaa
