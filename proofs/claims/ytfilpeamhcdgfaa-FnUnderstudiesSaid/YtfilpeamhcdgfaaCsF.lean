/- FirstCasting: impl. -/
import Derived.Test.YtfilpeamhcdgfaaCsC
import Derived.WalkKit
import Derived.ProofKit
import Derived.Handy
import Derived.OpenShut
import Derived.ShutString
import Derived.ChangeOld
import Derived.Below
import Derived.BigQuiet
import Derived.Deep.QuietTactic
import Derived.Deep.Draws
import Derived.Deep.DeepCutAuto
import Derived.Deep.DeepFit
import Derived.Deep.LoopGhost
import Derived.Outline
import Derived.WalkSpells
import Derived.WalkLawsBesides
import Derived.WalkSmall
import Derived.Laws.OwnMore
import Derived.OneCell
import Derived.Laws.Rows
import Derived.Maps.AppendAt
import Derived.StillTailTactics
import Derived.Lib.SmallJoins
import Derived.Deep.RegionWith
import Derived.Deep.RegionHeld3
import Derived.RegionTactic
import Derived.Deep.Matrix
import Derived.Deep.Fields
import Derived.ChangeSame
namespace Go.Proofs.Ytfilpeamhcdgfaa
open Go.RowKit

set_option maxHeartbeats 2000000 in
theorem impl_FirstCasting (v : Value) (ps : List Plr) (u : Value) (pu : List Int) (w : World) (h : RdP w v ps) (hl : FitP ps) (hu : RdI w u pu) (hul : pu.length ≤ 1048576) :
    Calls Try.prog 50 #[v, u] w fun e w' => ∃ r, e = .returned (.tuple #[r, .bool (canP ps pu)]) ∧ Nx w w' := by
  have hv := hide h
  have hw := hide hu
  obtain ⟨A, c, rfl, hx⟩ := h
  obtain ⟨Ap, cp, rfl, hx2⟩ := hu
  clear hx hx2
  cases h1 : playersOk ps with
  | false =>
    have hf := hide (show canP ps pu = false from by simp [canP, h1])
    go_enter Try.func50, Try.ntmps50
    go_wp2_with (go_at_call 40; fail)
    refine (impl_PlayersOk _ ps w hv.out hl).mono ?_
    rintro e w1 ⟨rfl, b1⟩
    rw [h1]
    have HB := hide b1
    clear b1 h1
    go_wp2_with fail
    go_ret2
    exact ⟨_, by rw [hf.out]; rfl, HB.out⟩
  | true =>
    cases h2 : strictL 0 6 pu with
    | false =>
      have hf := hide (show canP ps pu = false from by simp [canP, h2])
      go_enter Try.func50, Try.ntmps50
      go_wp2_with (go_at_call 40; fail)
      refine (impl_PlayersOk _ ps w hv.out hl).mono ?_
      rintro e w1 ⟨rfl, b1⟩
      rw [h1]
      have HB := hide b1
      clear b1 h1
      go_wp2_with (go_at_call 42; fail)
      refine (arePuppets_any _ pu w1 (hw.out.below HB.out) hul).mono ?_
      rintro e w2 ⟨rfl, m, rfl⟩
      rw [h2]
      have HB2 := hide (Nx.drewN HB.out m)
      clear h2
      go_wp2_with fail
      go_ret2
      exact ⟨_, by rw [hf.out]; rfl, HB2.out⟩
    | true =>
      have hf := hide (show canP ps pu = canF ps pu pu.length (frL ps) from by simp [canP, h1, h2])
      have Hok := hide h1
      go_enter Try.func50, Try.ntmps50
      go_wp2_with (go_at_call 40; fail)
      refine (impl_PlayersOk _ ps w hv.out hl).mono ?_
      rintro e w1 ⟨rfl, b1⟩
      rw [h1]
      have HB := hide b1
      clear b1 h1
      go_wp2_with (go_at_call 42; fail)
      refine (arePuppets_any _ pu w1 (hw.out.below HB.out) hul).mono ?_
      rintro e w2 ⟨rfl, m, rfl⟩
      rw [h2]
      have HB2 := hide (Nx.drewN HB.out m)
      clear h2 HB
      generalize World.drewN w1 m = w2 at HB2 ⊢
      have e1 : (w2.alloc (.cells #[.slice none 0 0] 23)).heap.size = w2.heap.size + 1 := by simp
      have bU := (Blk.new w2 23 #[.slice none 0 0]).alloc (.cells #[.bool false] 4)
      have bB := Blk.new (w2.alloc (.cells #[.slice none 0 0] 23)) 4 #[.bool false]
      rw [e1] at bB
      have HU := hide bU
      have HBB := hide bB
      have HB3 := hide ((HB2.out.trans (Nx.made w2 (.cells #[.slice none 0 0] 23))).trans (Nx.made _ (.cells #[.bool false] 4)))
      have hz := HB2.out.size
      clear e1 bU bB
      go_wp2_with (go_at_call 56; fail)
      refine (castings_any hv.out hl hw.out hul Hok.out _ HB3.out HU.out HBB.out hz (by omega)).mono ?_
      rintro e w4 ⟨rfl, vu, q1, q2, q3⟩
      have k1 : w4.cell? ⟨w2.heap.size, 0, none⟩ = some vu := q1.cell 0
      have k2 : w4.cell? ⟨w2.heap.size + 1, 0, none⟩ = some (.bool (canF ps pu pu.length (frL ps))) := q2.cell 0
      have HQ := hide q3
      clear q1 q2 q3 HU HBB HB3
      go_wp2_with fail
      go_quiet (fail)
      go_wp2
      go_ret2
      exact ⟨_, by rw [hf.out]; rfl, Nx.drewN HQ.out _⟩

end Go.Proofs.Ytfilpeamhcdgfaa
