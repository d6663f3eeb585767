/- Shared costumes: impl. -/
import Derived.Test.YtmleamknongknaaShP
import Derived.WalkKit
import Derived.ProofKit
import Derived.Handy
import Derived.OpenShut
import Derived.ShutString
import Derived.ChangeOld
import Derived.Below
import Derived.BigQuiet
import Derived.Deep.QuietTactic
import Derived.Deep.Draws
import Derived.Deep.DeepCutAuto
import Derived.Deep.DeepFit
import Derived.Deep.LoopGhost
import Derived.Outline
import Derived.WalkSpells
import Derived.WalkLawsBesides
import Derived.WalkSmall
import Derived.Laws.OwnMore
import Derived.OneCell
import Derived.Laws.Rows
import Derived.Maps.AppendAt
import Derived.StillTailTactics
import Derived.Lib.SmallJoins
import Derived.Deep.RegionWith
import Derived.Deep.RegionHeld3
import Derived.RegionTactic
import Derived.Deep.Matrix
import Derived.Deep.Fields
import Derived.ChangeSame
namespace Go.Proofs.Ytmleamknongknaa
open Go.RowKit

set_option maxHeartbeats 4000000 in
theorem impl_SharedCostume (v : Value) (rows : List (List Int)) (w : World) (h : RdS w v rows) (hl : rows.length ≤ 1048576) :
    Calls Try.prog 20 #[v] w fun e w' => e = .returned (sharedV rows) ∧ Nx w w' := by
  obtain ⟨A, c, hcap, rfl, hx⟩ := h
  cases h1 : inR (rows.length : Int) 1 20 with
  | false =>
    have hf := hide (shared_no (rows := rows) (by simp [sharedOk, h1]))
    clear hx
    go_enter Try.func20, Try.ntmps20
    go_wp2_with (go_at_call 38; refine (within_any _ _ _ _).mono ?_; rintro e w' ⟨rfl, rfl⟩)
    exact bodyPost_ret (v := .tuple #[Ms 0 0 0, .bool false]) (by simp [results, Try.results20, go_sem]) rfl ⟨by rw [hf.out], Nx.made w _⟩
  | true =>
    have Hx := hide hx
    have H1 := hide h1
    clear hx
    go_enter Try.func20, Try.ntmps20
    go_wp2_with (go_at_call 38; refine (within_any _ _ _ _).mono ?_; rintro e w' ⟨rfl, rfl⟩)
    clear h1
    go_loopw [17] (fun i wr => ∃ k : Nat, k ≤ rows.length ∧ i = .int .i64 k ∧ Blk wr w.heap.size 25 (msC 0 0 0) ∧ Blk wr (w.heap.size + 1) 25 (msC (mxTo rows 0 k) (mxTo rows 1 k) (mxTo rows 2 k)) ∧ Nx w wr) (fun i _ => rows.length - (intOf i).toNat)
    case atStart => exact ⟨0, Nat.zero_le _, rfl, (Blk.new w _ _).alloc _, by have := Blk.new (w.alloc (.cells (msC 0 0 0) 25)) 25 (msC 0 0 0); rw [show (w.alloc (.cells (msC 0 0 0) 25)).heap.size = w.heap.size + 1 from by simp] at this; exact this, (Nx.made w _).trans (Nx.made _ _)⟩
    case round =>
      obtain ⟨k, hk, rfl, hr, ho, hb⟩ := hrel
      by_cases hlt : k < rows.length
      · obtain ⟨b0, off, rfl, hb0, hc⟩ := Hx.out (by omega)
        have hc0 : wr.cell? ⟨b0, off + k * 3, none⟩ = some (.int .i64 (fd rows k 0)) := (hb.cell (p := ⟨b0, off + k * 3, none⟩) hb0).trans (hc k 0 hlt (by omega))
        have hc1 : wr.cell? ⟨b0, off + k * 3 + 1, none⟩ = some (.int .i64 (fd rows k 1)) := (hb.cell (p := ⟨b0, off + k * 3 + 1, none⟩) hb0).trans (hc k 1 hlt (by omega))
        have hc2 : wr.cell? ⟨b0, off + k * 3 + 2, none⟩ = some (.int .i64 (fd rows k 2)) := (hb.cell (p := ⟨b0, off + k * 3 + 2, none⟩) hb0).trans (hc k 2 hlt (by omega))
        have ho0 : wr.cell? ⟨w.heap.size + 1, 0, none⟩ = some (.int .i64 (mxTo rows 0 k)) := ho.cell 0
        have ho1 : wr.cell? ⟨w.heap.size + 1, 1, none⟩ = some (.int .i64 (mxTo rows 1 k)) := ho.cell 1
        have ho2 : wr.cell? ⟨w.heap.size + 1, 2, none⟩ = some (.int .i64 (mxTo rows 2 k)) := ho.cell 2
        have hfz := fun o => ho.frozen o
        have hk1 : (k : Int) < (rows.length : Int) := by omega
        have hsz : w.heap.size + 1 < wr.heap.size := ho.lt
        have R := hide hr
        have O := hide ho
        have HB := hide hb
        clear hc hb hr ho
        go_wp2_with fail
        go_roundw
        case rel =>
          refine ⟨k + 1, by omega, by go_num, ?_, ?_, ?_⟩
          · exact (((R.out.far (by simp) _).far (by simp) _).far (by simp) _).alloc _
          · have := (((O.out.set_ 0 (.int .i64 (max (mxTo rows 0 k) (fd rows k 0)))).set_ 1 (.int .i64 (max (mxTo rows 1 k) (fd rows k 1)))).set_ 2 (.int .i64 (max (mxTo rows 2 k) (fd rows k 2)))).alloc (.cells (msC (fd rows k 0) (fd rows k 1) (fd rows k 2)) 25)
            rw [max_if, max_if, max_if]
            exact this
          · exact Nx.trans (((HB.out.setCell (p := ⟨w.heap.size + 1, 0, none⟩) (by simp) _).setCell (p := ⟨w.heap.size + 1, 1, none⟩) (by simp) _).setCell (p := ⟨w.heap.size + 1, 2, none⟩) (by simp) _) (Nx.made _ _)
        case measure => simp [intOf]; omega
      · obtain rfl : k = rows.length := by omega
        have R := hide hr
        have O := hide ho
        have HB := hide hb
        clear hr ho hb
        go_wp2_with fail
        go_loopw [40] (fun i wq => ∃ k : Nat, k ≤ rows.length ∧ i = .int .i64 k ∧ Blk wq w.heap.size 25 (msC 0 0 0) ∧ Blk wq (w.heap.size + 1) 25 (msC (mxTo rows 0 rows.length) (mxTo rows 1 rows.length) (mxTo rows 2 rows.length)) ∧ Nx w wq ∧ Hid (∀ j, j < k → fits (mxTo rows 0 rows.length) (mxTo rows 1 rows.length) (mxTo rows 2 rows.length) (fd rows j 0) (fd rows j 1) (fd rows j 2) = true)) (fun i _ => rows.length - (intOf i).toNat)
        case atStart => exact ⟨0, Nat.zero_le _, rfl, R.out, O.out, HB.out, fun j hj => absurd hj (by omega)⟩
        case round =>
          clear R O HB
          obtain ⟨k, hk, rfl, hr, ho, hb, hall⟩ := hrel
          by_cases hlt : k < rows.length
          · obtain ⟨b0, off, rfl, hb0, hc⟩ := Hx.out (by omega)
            have hc0 : wr.cell? ⟨b0, off + k * 3, none⟩ = some (.int .i64 (fd rows k 0)) := (hb.cell (p := ⟨b0, off + k * 3, none⟩) hb0).trans (hc k 0 hlt (by omega))
            have hc1 : wr.cell? ⟨b0, off + k * 3 + 1, none⟩ = some (.int .i64 (fd rows k 1)) := (hb.cell (p := ⟨b0, off + k * 3 + 1, none⟩) hb0).trans (hc k 1 hlt (by omega))
            have hc2 : wr.cell? ⟨b0, off + k * 3 + 2, none⟩ = some (.int .i64 (fd rows k 2)) := (hb.cell (p := ⟨b0, off + k * 3 + 2, none⟩) hb0).trans (hc k 2 hlt (by omega))
            have ho0 : wr.cell? ⟨w.heap.size + 1, 0, none⟩ = some (.int .i64 (mxTo rows 0 rows.length)) := ho.cell 0
            have ho1 : wr.cell? ⟨w.heap.size + 1, 1, none⟩ = some (.int .i64 (mxTo rows 1 rows.length)) := ho.cell 1
            have ho2 : wr.cell? ⟨w.heap.size + 1, 2, none⟩ = some (.int .i64 (mxTo rows 2 rows.length)) := ho.cell 2
            have hk1 : (k : Int) < (rows.length : Int) := by omega
            have hsz : w.heap.size + 1 < wr.heap.size := ho.lt
            have hrf := fun o => hr.frozen o
            have R := hide hr
            have O := hide ho
            have HB := hide hb
            clear hc hb hr ho
            have Hno := hide (fun h => sharedOk_no (rows := rows) (k := k) hlt h)
            generalize mxTo rows 0 rows.length = a at *
            generalize mxTo rows 1 rows.length = b at *
            generalize mxTo rows 2 rows.length = cc at *
            cases hfit : fits a b cc (fd rows k 0) (fd rows k 1) (fd rows k 2) with
            | true =>
              have HF := hide hfit
              go_wp2_with (go_at_call 14; fail)
              refine (impl_FitsFor _ _ _ _ _ _ _).mono ?_
              rintro e w1 ⟨rfl, b1⟩
              rw [hfit]
              clear hfit
              go_wp2_with fail
              go_roundw
              case rel => exact ⟨k + 1, by omega, by go_num, (R.out.alloc _).below b1, (O.out.alloc _).below b1, (HB.out.trans (Nx.made _ _)).trans b1, fun j hj => by
                rcases Nat.lt_or_ge j k with h | h
                · exact hall.out j h
                · obtain rfl : j = k := by omega
                  exact HF.out⟩
              case measure => simp [intOf]; omega
            | false =>
              have HF := hide hfit
              go_wp2_with (go_at_call 14; fail)
              refine (impl_FitsFor _ _ _ _ _ _ _).mono ?_
              rintro e w1 ⟨rfl, b1⟩
              rw [hfit]
              clear hfit
              have R1 := hide ((R.out.alloc (.cells (msC (fd rows k 0) (fd rows k 1) (fd rows k 2)) 25)).below b1)
              have hr0 : w1.cell? ⟨w.heap.size, 0, none⟩ = some (.int .i64 0) := R1.out.cell 0
              have hr1 : w1.cell? ⟨w.heap.size, 1, none⟩ = some (.int .i64 0) := R1.out.cell 1
              have hr2 : w1.cell? ⟨w.heap.size, 2, none⟩ = some (.int .i64 0) := R1.out.cell 2
              have hfz := fun o => R1.out.frozen o
              have hsz1 : w.heap.size < w1.heap.size := R1.out.lt
              go_wp2_with fail
              have hf := hide (shared_no (Hno.out HF.out))
              have E : Blk _ w.heap.size 25 (msC (0) (0) (0)) := ((R1.out.set_ 0 (.int .i64 (0))).set_ 1 (.int .i64 (0))).set_ 2 (.int .i64 (0))
              have NX : Nx w _ := (((((HB.out.trans (Nx.made _ (.cells (msC (fd rows k 0) (fd rows k 1) (fd rows k 2)) 25))).trans b1)).setCell (p := ⟨w.heap.size, 0, none⟩) (Nat.le_refl _) (.int .i64 (0))).setCell (p := ⟨w.heap.size, 1, none⟩) (Nat.le_refl _) (.int .i64 (0))).setCell (p := ⟨w.heap.size, 2, none⟩) (Nat.le_refl _) (.int .i64 (0))
              generalize World.setCell _ _ _ = wf at E NX ⊢
              have e0 : wf.cell? ⟨w.heap.size, 0, none⟩ = some (.int .i64 (0)) := E.cell 0
              have e1 : wf.cell? ⟨w.heap.size, 1, none⟩ = some (.int .i64 (0)) := E.cell 1
              have e2 : wf.cell? ⟨w.heap.size, 2, none⟩ = some (.int .i64 (0)) := E.cell 2
              have ez : w.heap.size < wf.heap.size := E.lt
              exact bodyPost_ret (v := .tuple #[Ms (0) (0) (0), .bool false]) (by simp [results, Try.results20, go_sem, e0, e1, e2]) rfl ⟨by rw [hf.out], NX⟩
          · obtain rfl : k = rows.length := by omega
            have ho0 : wr.cell? ⟨w.heap.size + 1, 0, none⟩ = some (.int .i64 (mxTo rows 0 rows.length)) := ho.cell 0
            have ho1 : wr.cell? ⟨w.heap.size + 1, 1, none⟩ = some (.int .i64 (mxTo rows 1 rows.length)) := ho.cell 1
            have ho2 : wr.cell? ⟨w.heap.size + 1, 2, none⟩ = some (.int .i64 (mxTo rows 2 rows.length)) := ho.cell 2
            have hsz : w.heap.size + 1 < wr.heap.size := ho.lt
            have hrf := fun o => hr.frozen o
            have hr0 : wr.cell? ⟨w.heap.size, 0, none⟩ = some (.int .i64 0) := hr.cell 0
            have hr1 : wr.cell? ⟨w.heap.size, 1, none⟩ = some (.int .i64 0) := hr.cell 1
            have hr2 : wr.cell? ⟨w.heap.size, 2, none⟩ = some (.int .i64 0) := hr.cell 2
            have R := hide hr
            have O := hide ho
            have HB := hide hb
            clear hb hr ho
            go_wp2_with fail
            have hf := hide (shared_yes (sharedOk_yes H1.out hall.out))
            have E : Blk _ w.heap.size 25 (msC (mxTo rows 0 rows.length) (mxTo rows 1 rows.length) (mxTo rows 2 rows.length)) := ((R.out.set_ 0 (.int .i64 (mxTo rows 0 rows.length))).set_ 1 (.int .i64 (mxTo rows 1 rows.length))).set_ 2 (.int .i64 (mxTo rows 2 rows.length))
            have NX : Nx w _ := (((HB.out).setCell (p := ⟨w.heap.size, 0, none⟩) (Nat.le_refl _) (.int .i64 (mxTo rows 0 rows.length))).setCell (p := ⟨w.heap.size, 1, none⟩) (Nat.le_refl _) (.int .i64 (mxTo rows 1 rows.length))).setCell (p := ⟨w.heap.size, 2, none⟩) (Nat.le_refl _) (.int .i64 (mxTo rows 2 rows.length))
            generalize World.setCell _ _ _ = wf at E NX ⊢
            have e0 : wf.cell? ⟨w.heap.size, 0, none⟩ = some (.int .i64 (mxTo rows 0 rows.length)) := E.cell 0
            have e1 : wf.cell? ⟨w.heap.size, 1, none⟩ = some (.int .i64 (mxTo rows 1 rows.length)) := E.cell 1
            have e2 : wf.cell? ⟨w.heap.size, 2, none⟩ = some (.int .i64 (mxTo rows 2 rows.length)) := E.cell 2
            have ez : w.heap.size < wf.heap.size := E.lt
            exact bodyPost_ret (v := .tuple #[Ms (mxTo rows 0 rows.length) (mxTo rows 1 rows.length) (mxTo rows 2 rows.length), .bool true]) (by simp [results, Try.results20, go_sem, e0, e1, e2]) rfl ⟨by rw [hf.out], NX⟩

end Go.Proofs.Ytmleamknongknaa
