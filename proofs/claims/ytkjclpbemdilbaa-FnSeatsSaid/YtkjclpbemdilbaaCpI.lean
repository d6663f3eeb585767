/- Copies of rows: impl. -/
import Derived.Test.YtkjclpbemdilbaaCp
import Derived.WalkKit
import Derived.ProofKit
import Derived.Handy
import Derived.OpenShut
import Derived.ShutString
import Derived.ChangeOld
import Derived.Below
import Derived.BigQuiet
import Derived.Deep.QuietTactic
import Derived.Deep.Draws
import Derived.Deep.DeepCutAuto
import Derived.Deep.DeepFit
import Derived.Deep.LoopGhost
import Derived.Outline
import Derived.WalkSpells
import Derived.WalkLawsBesides
import Derived.WalkSmall
import Derived.Laws.OwnMore
import Derived.OneCell
import Derived.Laws.Rows
import Derived.Maps.AppendAt
import Derived.StillTailTactics
import Derived.Lib.SmallJoins
import Derived.Deep.RegionWith
import Derived.Deep.RegionHeld3
import Derived.RegionTactic
import Derived.Deep.Matrix
import Derived.Deep.Fields
import Derived.ChangeSame
namespace Go.Proofs.Ytkjclpbemdilbaa
open Go.RowKit

set_option maxHeartbeats 1000000 in
theorem copyOf_any (v : Value) (zs : List Int) (w : World) (h : RdI w v zs) (hl : zs.length ≤ 1048576) :
    Calls Try.prog 48 #[v] w fun e w' => ∃ u, e = .returned u ∧ OwI w' w.heap.size u zs ∧ Nx w w' := by
  have hv := h
  obtain ⟨A, c, rfl, hx⟩ := h
  clear hx
  have ho := OwI.made0 w
  have hb := Nx.made w (.cells #[] 3)
  have hv1 := hv.below hb
  go_enter Try.func48, Try.ntmps48
  go_wp2_with (at_builtin; refine wpList_joinI rfl (.tmp 3) (.tmp 4) rfl _ w.heap.size _ [] _ zs rfl rfl ho hv1 (by simp; omega) (by simp) ?_; intro v1 w1 hown1 hg1 hat1; have hb1 := hb.only ho hg1 (Nat.le_refl _))
  go_ret
  exact ⟨_, rfl, hown1, hb1⟩
set_option maxHeartbeats 1000000 in
theorem copyRows_any (v : Value) (rows : List (List Int)) (w : World) (h : RdM w v rows) (hl : OkM rows) :
    Calls Try.prog 42 #[v] w fun e w' => ∃ u, e = .returned u ∧ OwM w' w.heap.size u rows ∧ Nx w w' := by
  obtain ⟨A, c, rfl, hx⟩ := h
  have hn := hl.1
  have hrow := hide (fun i hi => hl.row (i := i) hi)
  have Hx := hide hx
  have G := hide (And.intro (OwM.made0 w) (Nx.made w (.cells #[] 36)))
  clear hx hl
  go_enter Try.func42, Try.ntmps42
  go_wp2_with fail
  go_loopw [3, 9] (fun u i wr => ∃ k : Nat, k ≤ rows.length ∧ i = .int .i64 k ∧ OwM wr w.heap.size u (rows.take k) ∧ Nx w wr) (fun _ i _ => rows.length - (intOf i).toNat)
  case atStart => exact ⟨0, Nat.zero_le _, rfl, G.out.1, G.out.2⟩
  case round =>
    clear G
    obtain ⟨k, hk, rfl, hown, hb⟩ := hrel
    by_cases hlt : k < rows.length
    · obtain ⟨b0, off, rfl, hb0, hc⟩ := Hx.out (by omega)
      obtain ⟨A1, c1, hck0, hr0⟩ := hc k hlt
      have hck : wr.cell? ⟨b0, off + k, none⟩ = some (.slice A1 (rowAt rows k).length c1) := (hb.cell (p := ⟨b0, off + k, none⟩) hb0).trans hck0
      have hrr := hide (hr0.below hb)
      have Hown := hide hown
      have Hb := hide hb
      have htl : (rows.take k).length ≤ 16777216 := by rw [List.length_take]; omega
      have hstep := hide (take_row hlt)
      clear hc hck0 hr0 hown hb Hx
      go_wp2_with fail
      refine (copyOf_any _ _ _ hrr.out (hrow.out k hlt)).mono ?_
      rintro e w1 ⟨r, rfl, hr, hb1⟩
      obtain ⟨Ar, cr, hre, _⟩ := hr.open_
      subst hre
      have Hr := hide hr
      have Hb1 := hide hb1
      have hz1 := Hb.out.size
      clear hr hb1
      go_wp2_with (at_builtin; refine wpList_pushM rfl (.tmp 13) (.tmp 16) rfl wr w1 w.heap.size _ (rows.take k) _ (rowAt rows k) rfl rfl Hown.out Hb1.out Hr.out htl hz1 ?_; intro v2 w2 hown2 hg2)
      have Hb2 : Nx w w2 := Below.grown (Hb.out.trans Hb1.out) hg2 (Hb.out.trans Hb1.out).size (fun k hk => Hown.out.base k hk)
      have G := hide (And.intro hown2 Hb2)
      clear hown2 Hb2 hg2
      go_roundw
      case rel => exact ⟨k + 1, by omega, by go_num, by rw [hstep.out]; exact G.out.1, G.out.2⟩
      case measure => simp [intOf]; omega
    · obtain rfl : k = rows.length := by omega
      have G := hide (And.intro hown hb)
      clear hown hb
      go_wp2_with fail
      go_ret
      exact ⟨_, rfl, by have := G.out.1; rwa [List.take_length] at this, G.out.2⟩

end Go.Proofs.Ytkjclpbemdilbaa
