/- The fewest costumes. -/
import Derived.Test.YtmleamknongknaaWidS
import Derived.WalkKit
import Derived.ProofKit
import Derived.Handy
import Derived.OpenShut
import Derived.ShutString
import Derived.ChangeOld
import Derived.Below
import Derived.BigQuiet
import Derived.Deep.QuietTactic
import Derived.Deep.Draws
import Derived.Deep.DeepCutAuto
import Derived.Deep.DeepFit
import Derived.Deep.LoopGhost
import Derived.Outline
import Derived.WalkSpells
import Derived.WalkLawsBesides
import Derived.WalkSmall
import Derived.Laws.OwnMore
import Derived.OneCell
import Derived.Laws.Rows
import Derived.Maps.AppendAt
import Derived.StillTailTactics
import Derived.Lib.SmallJoins
import Derived.Deep.RegionWith
import Derived.Deep.RegionHeld3
import Derived.RegionTactic
import Derived.Deep.Matrix
import Derived.Deep.Fields
import Derived.ChangeSame
namespace Go.Proofs.Ytmleamknongknaa
open Go.RowKit

set_option maxHeartbeats 1000000 in
theorem spec_FewestCostumes (v : Value) (zs : List Int) (e : Int) (w : World) (h : RdI w v zs) (hl : zs.length ≤ 1048576) (he : I64 e) :
    Calls Try.prog 23 #[v, .int .i64 e] w fun en w' => en = .returned (.int .i64 (fewC zs e)) ∧ Nx w w' := by
  have hv := h
  obtain ⟨A, c, rfl, hx⟩ := h
  clear hx
  go_enter Try.func23, Try.ntmps23
  go_wp2_with (go_at_call 39; fail)
  refine (spec_okC _ _ _ _ hv hl).mono ?_
  rintro en w1 ⟨rfl, rfl⟩
  cases h1 : okC zs e with
  | false =>
    have hf := hide (show fewC zs e = -1 from by simp [fewC, h1])
    go_wp2_with fail
    go_ret
    exact ⟨ret_int hf.out.symm, Below.refl _ _⟩
  | true =>
    have hf := hide (show fewC zs e = ((widthsL zs e).length : Int) from by simp [fewC, h1])
    have hlen := WidthsFor_len zs e hl
    clear h1
    go_wp2_with (go_at_call 27; fail)
    refine (spec_WidthsFor _ _ _ _ hv hl he).mono ?_
    rintro en w1 ⟨u, rfl, hown, hb⟩
    obtain ⟨A5, c5, rfl, hx5⟩ := hown.reads
    clear hx5 hown hv
    generalize widthsL zs e = L at *
    go_wp2_with fail
    go_ret
    exact ⟨ret_int hf.out.symm, hb⟩
set_option maxHeartbeats 1000000 in
theorem impl_FewestCostumes (v : Value) (zs : List Int) (e : Int) (w : World) (h : RdI w v zs) (hl : zs.length ≤ 1048576) (he : I64 e) :
    Calls Try.prog 25 #[v, .int .i64 e] w fun en w' => en = .returned (.int .i64 (fewC zs e)) ∧ Nx w w' := by
  have hv := h
  obtain ⟨A, c, rfl, hx⟩ := h
  clear hx
  have hlen := WidthsFor_len zs e hl
  by_cases h1 : zs.length ≤ 30
  · cases h2 : allW 1 200 zs with
    | false =>
      have hf := hide (show fewC zs e = -1 from by simp [fewC, okC, h2])
      go_enter Try.func25, Try.ntmps25
      go_wp2_with (first | (go_at_call 38; refine (within_any _ _ _ _).mono ?_; rintro e w' ⟨rfl, rfl⟩) | (go_at_call 37; refine (allWithin_any _ _ _ _ _ hv hl).mono ?_; rintro e w' ⟨rfl, rfl⟩))
      go_ret
      exact ⟨ret_int hf.out.symm, Below.refl _ _⟩
    | true =>
      cases h3 : inR e 0 50 with
      | false =>
        have hf := hide (show fewC zs e = -1 from by simp [fewC, okC, h3])
        go_enter Try.func25, Try.ntmps25
        go_wp2_with (first | (go_at_call 38; refine (within_any _ _ _ _).mono ?_; rintro e w' ⟨rfl, rfl⟩) | (go_at_call 37; refine (allWithin_any _ _ _ _ _ hv hl).mono ?_; rintro e w' ⟨rfl, rfl⟩))
        go_ret
        exact ⟨ret_int hf.out.symm, Below.refl _ _⟩
      | true =>
        have hf := hide (show fewC zs e = ((widthsL zs e).length : Int) from by simp [fewC, okC, h1, h2, h3])
        go_enter Try.func25, Try.ntmps25
        go_wp2_with (first | (go_at_call 38; refine (within_any _ _ _ _).mono ?_; rintro e w' ⟨rfl, rfl⟩) | (go_at_call 37; refine (allWithin_any _ _ _ _ _ hv hl).mono ?_; rintro e w' ⟨rfl, rfl⟩) | (go_at_call 28; fail))
        refine (impl_WidthsFor _ _ _ _ hv hl he).mono ?_
        rintro en w1 ⟨u, rfl, hown, hb⟩
        obtain ⟨A5, c5, rfl, hx5⟩ := hown.reads
        clear hx5 hown hv
        generalize widthsL zs e = L at *
        go_wp2_with fail
        go_ret
        exact ⟨ret_int hf.out.symm, hb⟩
  · have hf := hide (show fewC zs e = -1 from by simp [fewC, okC, h1])
    go_enter Try.func25, Try.ntmps25
    go_wp2_with (first | (go_at_call 38; refine (within_any _ _ _ _).mono ?_; rintro e w' ⟨rfl, rfl⟩) | (go_at_call 37; refine (allWithin_any _ _ _ _ _ hv hl).mono ?_; rintro e w' ⟨rfl, rfl⟩))
    go_ret
    exact ⟨ret_int hf.out.symm, Below.refl _ _⟩

end Go.Proofs.Ytmleamknongknaa
