/- Shared costumes: spec. -/
import Derived.Test.YtmleamknongknaaShP
import Derived.WalkKit
import Derived.ProofKit
import Derived.Handy
import Derived.OpenShut
import Derived.ShutString
import Derived.ChangeOld
import Derived.Below
import Derived.BigQuiet
import Derived.Deep.QuietTactic
import Derived.Deep.Draws
import Derived.Deep.DeepCutAuto
import Derived.Deep.DeepFit
import Derived.Deep.LoopGhost
import Derived.Outline
import Derived.WalkSpells
import Derived.WalkLawsBesides
import Derived.WalkSmall
import Derived.Laws.OwnMore
import Derived.OneCell
import Derived.Laws.Rows
import Derived.Maps.AppendAt
import Derived.StillTailTactics
import Derived.Lib.SmallJoins
import Derived.Deep.RegionWith
import Derived.Deep.RegionHeld3
import Derived.RegionTactic
import Derived.Deep.Matrix
import Derived.Deep.Fields
import Derived.ChangeSame
namespace Go.Proofs.Ytmleamknongknaa
open Go.RowKit

set_option maxHeartbeats 4000000 in
theorem spec_SharedCostume (v : Value) (rows : List (List Int)) (w : World) (h : RdS w v rows) (hl : rows.length ≤ 1048576) :
    Calls Try.prog 18 #[v] w fun e w' => e = .returned (sharedV rows) ∧ Nx w w' := by
  obtain ⟨A, c, hcap, rfl, hx⟩ := h
  cases h1 : inR (rows.length : Int) 1 20 with
  | false =>
    have hf := hide (shared_no (rows := rows) (by simp [sharedOk, h1]))
    clear hx
    go_enter Try.func18, Try.ntmps18
    go_wp2_with (go_at_call 36; refine (l01In_any _ _ _ _).mono ?_; rintro e w' ⟨rfl, rfl⟩)
    exact bodyPost_ret (v := .tuple #[Ms 0 0 0, .bool false]) (by simp [results, Try.results18, go_sem]) rfl ⟨by rw [hf.out], by go_grown⟩
  | true =>
    have Hx := hide hx
    have H1 := hide h1
    clear hx
    go_enter Try.func18, Try.ntmps18
    go_wp2_with (go_at_call 36; refine (l01In_any _ _ _ _).mono ?_; rintro e w' ⟨rfl, rfl⟩)
    clear h1
    go_loopw [5] (fun i wr => ∃ k : Nat, k ≤ rows.length ∧ i = .int .i64 k ∧ Blk wr w.heap.size 25 (msC 0 0 0) ∧ Blk wr (w.heap.size + 1) 25 (msC (mxTo rows 0 k) (mxTo rows 1 k) (mxTo rows 2 k)) ∧ Nx w wr) (fun i _ => rows.length - (intOf i).toNat)
    case atStart => exact ⟨0, Nat.zero_le _, rfl, (Blk.new w _ _).alloc _, by have := Blk.new (w.alloc (.cells (msC 0 0 0) 25)) 25 (msC 0 0 0); rw [show (w.alloc (.cells (msC 0 0 0) 25)).heap.size = w.heap.size + 1 from by simp] at this; exact this, (Nx.made w _).trans (Nx.made _ _)⟩
    case round =>
      obtain ⟨k, hk, rfl, hr, ho, hb⟩ := hrel
      by_cases hlt : k < rows.length
      · obtain ⟨b0, off, rfl, hb0, hc⟩ := Hx.out (by omega)
        have Hc := hide hc
        have Hb0 := hide hb0
        have hk1 : (k : Int) < (rows.length : Int) := by omega
        have hs := hide (show msC (max (mxTo rows 0 k) (fd rows k 0)) (max (mxTo rows 1 k) (fd rows k 1)) (max (mxTo rows 2 k) (fd rows k 2)) = msC (mxTo rows 0 (k + 1)) (mxTo rows 1 (k + 1)) (mxTo rows 2 (k + 1)) from rfl)
        clear hc hb0
        generalize mxTo rows 0 k = a at *
        generalize mxTo rows 1 k = b at *
        generalize mxTo rows 2 k = cc at *
        by_cases q0 : a < fd rows k 0
        · by_cases q1 : b < fd rows k 1
          · by_cases q2 : cc < fd rows k 2
            · have c0 : wr.cell? ⟨b0, off + k * 3, none⟩ = some (.int .i64 (fd rows k 0)) := (hb.cell (p := ⟨b0, off + k * 3, none⟩) Hb0.out).trans (Hc.out k 0 hlt (by omega))
              have d0 : wr.cell? ⟨w.heap.size + 1, 0, none⟩ = some (.int .i64 a) := ho.cell 0
              have f0 := ho.frozen 0
              have s0 : w.heap.size + 1 < wr.heap.size := ho.lt
              have R0 := hide hr
              have O0 := hide ho
              have B0 := hide hb
              clear hr ho hb
              go_wp2_with fail
              go_still_tail 9, (by kernel_rfl)
              go_wp2_with fail
              have nr0 := (R0.out.far (p := ⟨w.heap.size + 1, 0, none⟩) (by simp) (.int .i64 (fd rows k 0))).drew
              have no0 := (O0.out.set_ 0 (.int .i64 (fd rows k 0))).drew
              have nb0 := Nx.drew (B0.out.setCell (p := ⟨w.heap.size + 1, 0, none⟩) (by simp) (.int .i64 (fd rows k 0)))
              clear c0 d0 f0 s0 R0 O0 B0
              generalize World.drew _ = wx0 at nr0 no0 nb0 ⊢
              have c1 : wx0.cell? ⟨b0, off + k * 3 + 1, none⟩ = some (.int .i64 (fd rows k 1)) := (nb0.cell (p := ⟨b0, off + k * 3 + 1, none⟩) Hb0.out).trans (Hc.out k 1 hlt (by omega))
              have d1 : wx0.cell? ⟨w.heap.size + 1, 1, none⟩ = some (.int .i64 b) := no0.cell 1
              have f1 := no0.frozen 1
              have s1 : w.heap.size + 1 < wx0.heap.size := no0.lt
              have R1 := hide nr0
              have O1 := hide no0
              have B1 := hide nb0
              clear nr0 no0 nb0
              go_still_tail 9, (by kernel_rfl)
              go_wp2_with fail
              have nr1 := (R1.out.far (p := ⟨w.heap.size + 1, 1, none⟩) (by simp) (.int .i64 (fd rows k 1))).drew
              have no1 := (O1.out.set_ 1 (.int .i64 (fd rows k 1))).drew
              have nb1 := Nx.drew (B1.out.setCell (p := ⟨w.heap.size + 1, 1, none⟩) (by simp) (.int .i64 (fd rows k 1)))
              clear c1 d1 f1 s1 R1 O1 B1
              generalize World.drew _ = wx1 at nr1 no1 nb1 ⊢
              have c2 : wx1.cell? ⟨b0, off + k * 3 + 2, none⟩ = some (.int .i64 (fd rows k 2)) := (nb1.cell (p := ⟨b0, off + k * 3 + 2, none⟩) Hb0.out).trans (Hc.out k 2 hlt (by omega))
              have d2 : wx1.cell? ⟨w.heap.size + 1, 2, none⟩ = some (.int .i64 cc) := no1.cell 2
              have f2 := no1.frozen 2
              have s2 : w.heap.size + 1 < wx1.heap.size := no1.lt
              have R2 := hide nr1
              have O2 := hide no1
              have B2 := hide nb1
              clear nr1 no1 nb1
              go_still_tail 9, (by kernel_rfl)
              go_wp2_with fail
              have nr2 := (R2.out.far (p := ⟨w.heap.size + 1, 2, none⟩) (by simp) (.int .i64 (fd rows k 2))).drew
              have no2 := (O2.out.set_ 2 (.int .i64 (fd rows k 2))).drew
              have nb2 := Nx.drew (B2.out.setCell (p := ⟨w.heap.size + 1, 2, none⟩) (by simp) (.int .i64 (fd rows k 2)))
              clear c2 d2 f2 s2 R2 O2 B2
              go_roundw
              case rel =>
                refine ⟨k + 1, by omega, by go_num, nr2, ?_, nb2⟩
                rw [← hs.out, show max a (fd rows k 0) = fd rows k 0 from by omega, show max b (fd rows k 1) = fd rows k 1 from by omega, show max cc (fd rows k 2) = fd rows k 2 from by omega]
                exact no2
              case measure => simp [intOf]; omega
            · have c0 : wr.cell? ⟨b0, off + k * 3, none⟩ = some (.int .i64 (fd rows k 0)) := (hb.cell (p := ⟨b0, off + k * 3, none⟩) Hb0.out).trans (Hc.out k 0 hlt (by omega))
              have d0 : wr.cell? ⟨w.heap.size + 1, 0, none⟩ = some (.int .i64 a) := ho.cell 0
              have f0 := ho.frozen 0
              have s0 : w.heap.size + 1 < wr.heap.size := ho.lt
              have R0 := hide hr
              have O0 := hide ho
              have B0 := hide hb
              clear hr ho hb
              go_wp2_with fail
              go_still_tail 9, (by kernel_rfl)
              go_wp2_with fail
              have nr0 := (R0.out.far (p := ⟨w.heap.size + 1, 0, none⟩) (by simp) (.int .i64 (fd rows k 0))).drew
              have no0 := (O0.out.set_ 0 (.int .i64 (fd rows k 0))).drew
              have nb0 := Nx.drew (B0.out.setCell (p := ⟨w.heap.size + 1, 0, none⟩) (by simp) (.int .i64 (fd rows k 0)))
              clear c0 d0 f0 s0 R0 O0 B0
              generalize World.drew _ = wx0 at nr0 no0 nb0 ⊢
              have c1 : wx0.cell? ⟨b0, off + k * 3 + 1, none⟩ = some (.int .i64 (fd rows k 1)) := (nb0.cell (p := ⟨b0, off + k * 3 + 1, none⟩) Hb0.out).trans (Hc.out k 1 hlt (by omega))
              have d1 : wx0.cell? ⟨w.heap.size + 1, 1, none⟩ = some (.int .i64 b) := no0.cell 1
              have f1 := no0.frozen 1
              have s1 : w.heap.size + 1 < wx0.heap.size := no0.lt
              have R1 := hide nr0
              have O1 := hide no0
              have B1 := hide nb0
              clear nr0 no0 nb0
              go_still_tail 9, (by kernel_rfl)
              go_wp2_with fail
              have nr1 := (R1.out.far (p := ⟨w.heap.size + 1, 1, none⟩) (by simp) (.int .i64 (fd rows k 1))).drew
              have no1 := (O1.out.set_ 1 (.int .i64 (fd rows k 1))).drew
              have nb1 := Nx.drew (B1.out.setCell (p := ⟨w.heap.size + 1, 1, none⟩) (by simp) (.int .i64 (fd rows k 1)))
              clear c1 d1 f1 s1 R1 O1 B1
              generalize World.drew _ = wx1 at nr1 no1 nb1 ⊢
              have c2 : wx1.cell? ⟨b0, off + k * 3 + 2, none⟩ = some (.int .i64 (fd rows k 2)) := (nb1.cell (p := ⟨b0, off + k * 3 + 2, none⟩) Hb0.out).trans (Hc.out k 2 hlt (by omega))
              have d2 : wx1.cell? ⟨w.heap.size + 1, 2, none⟩ = some (.int .i64 cc) := no1.cell 2
              have f2 := no1.frozen 2
              have s2 : w.heap.size + 1 < wx1.heap.size := no1.lt
              have R2 := hide nr1
              have O2 := hide no1
              have B2 := hide nb1
              clear nr1 no1 nb1
              go_still_tail 9, (by kernel_rfl)
              go_wp2_with fail
              have nr2 := (R2.out.far (p := ⟨w.heap.size + 1, 2, none⟩) (by simp) (.int .i64 (cc))).drew
              have no2 := (O2.out.set_ 2 (.int .i64 (cc))).drew
              have nb2 := Nx.drew (B2.out.setCell (p := ⟨w.heap.size + 1, 2, none⟩) (by simp) (.int .i64 (cc)))
              clear c2 d2 f2 s2 R2 O2 B2
              go_roundw
              case rel =>
                refine ⟨k + 1, by omega, by go_num, nr2, ?_, nb2⟩
                rw [← hs.out, show max a (fd rows k 0) = fd rows k 0 from by omega, show max b (fd rows k 1) = fd rows k 1 from by omega, show max cc (fd rows k 2) = cc from by omega]
                exact no2
              case measure => simp [intOf]; omega
          · by_cases q2 : cc < fd rows k 2
            · have c0 : wr.cell? ⟨b0, off + k * 3, none⟩ = some (.int .i64 (fd rows k 0)) := (hb.cell (p := ⟨b0, off + k * 3, none⟩) Hb0.out).trans (Hc.out k 0 hlt (by omega))
              have d0 : wr.cell? ⟨w.heap.size + 1, 0, none⟩ = some (.int .i64 a) := ho.cell 0
              have f0 := ho.frozen 0
              have s0 : w.heap.size + 1 < wr.heap.size := ho.lt
              have R0 := hide hr
              have O0 := hide ho
              have B0 := hide hb
              clear hr ho hb
              go_wp2_with fail
              go_still_tail 9, (by kernel_rfl)
              go_wp2_with fail
              have nr0 := (R0.out.far (p := ⟨w.heap.size + 1, 0, none⟩) (by simp) (.int .i64 (fd rows k 0))).drew
              have no0 := (O0.out.set_ 0 (.int .i64 (fd rows k 0))).drew
              have nb0 := Nx.drew (B0.out.setCell (p := ⟨w.heap.size + 1, 0, none⟩) (by simp) (.int .i64 (fd rows k 0)))
              clear c0 d0 f0 s0 R0 O0 B0
              generalize World.drew _ = wx0 at nr0 no0 nb0 ⊢
              have c1 : wx0.cell? ⟨b0, off + k * 3 + 1, none⟩ = some (.int .i64 (fd rows k 1)) := (nb0.cell (p := ⟨b0, off + k * 3 + 1, none⟩) Hb0.out).trans (Hc.out k 1 hlt (by omega))
              have d1 : wx0.cell? ⟨w.heap.size + 1, 1, none⟩ = some (.int .i64 b) := no0.cell 1
              have f1 := no0.frozen 1
              have s1 : w.heap.size + 1 < wx0.heap.size := no0.lt
              have R1 := hide nr0
              have O1 := hide no0
              have B1 := hide nb0
              clear nr0 no0 nb0
              go_still_tail 9, (by kernel_rfl)
              go_wp2_with fail
              have nr1 := (R1.out.far (p := ⟨w.heap.size + 1, 1, none⟩) (by simp) (.int .i64 (b))).drew
              have no1 := (O1.out.set_ 1 (.int .i64 (b))).drew
              have nb1 := Nx.drew (B1.out.setCell (p := ⟨w.heap.size + 1, 1, none⟩) (by simp) (.int .i64 (b)))
              clear c1 d1 f1 s1 R1 O1 B1
              generalize World.drew _ = wx1 at nr1 no1 nb1 ⊢
              have c2 : wx1.cell? ⟨b0, off + k * 3 + 2, none⟩ = some (.int .i64 (fd rows k 2)) := (nb1.cell (p := ⟨b0, off + k * 3 + 2, none⟩) Hb0.out).trans (Hc.out k 2 hlt (by omega))
              have d2 : wx1.cell? ⟨w.heap.size + 1, 2, none⟩ = some (.int .i64 cc) := no1.cell 2
              have f2 := no1.frozen 2
              have s2 : w.heap.size + 1 < wx1.heap.size := no1.lt
              have R2 := hide nr1
              have O2 := hide no1
              have B2 := hide nb1
              clear nr1 no1 nb1
              go_still_tail 9, (by kernel_rfl)
              go_wp2_with fail
              have nr2 := (R2.out.far (p := ⟨w.heap.size + 1, 2, none⟩) (by simp) (.int .i64 (fd rows k 2))).drew
              have no2 := (O2.out.set_ 2 (.int .i64 (fd rows k 2))).drew
              have nb2 := Nx.drew (B2.out.setCell (p := ⟨w.heap.size + 1, 2, none⟩) (by simp) (.int .i64 (fd rows k 2)))
              clear c2 d2 f2 s2 R2 O2 B2
              go_roundw
              case rel =>
                refine ⟨k + 1, by omega, by go_num, nr2, ?_, nb2⟩
                rw [← hs.out, show max a (fd rows k 0) = fd rows k 0 from by omega, show max b (fd rows k 1) = b from by omega, show max cc (fd rows k 2) = fd rows k 2 from by omega]
                exact no2
              case measure => simp [intOf]; omega
            · have c0 : wr.cell? ⟨b0, off + k * 3, none⟩ = some (.int .i64 (fd rows k 0)) := (hb.cell (p := ⟨b0, off + k * 3, none⟩) Hb0.out).trans (Hc.out k 0 hlt (by omega))
              have d0 : wr.cell? ⟨w.heap.size + 1, 0, none⟩ = some (.int .i64 a) := ho.cell 0
              have f0 := ho.frozen 0
              have s0 : w.heap.size + 1 < wr.heap.size := ho.lt
              have R0 := hide hr
              have O0 := hide ho
              have B0 := hide hb
              clear hr ho hb
              go_wp2_with fail
              go_still_tail 9, (by kernel_rfl)
              go_wp2_with fail
              have nr0 := (R0.out.far (p := ⟨w.heap.size + 1, 0, none⟩) (by simp) (.int .i64 (fd rows k 0))).drew
              have no0 := (O0.out.set_ 0 (.int .i64 (fd rows k 0))).drew
              have nb0 := Nx.drew (B0.out.setCell (p := ⟨w.heap.size + 1, 0, none⟩) (by simp) (.int .i64 (fd rows k 0)))
              clear c0 d0 f0 s0 R0 O0 B0
              generalize World.drew _ = wx0 at nr0 no0 nb0 ⊢
              have c1 : wx0.cell? ⟨b0, off + k * 3 + 1, none⟩ = some (.int .i64 (fd rows k 1)) := (nb0.cell (p := ⟨b0, off + k * 3 + 1, none⟩) Hb0.out).trans (Hc.out k 1 hlt (by omega))
              have d1 : wx0.cell? ⟨w.heap.size + 1, 1, none⟩ = some (.int .i64 b) := no0.cell 1
              have f1 := no0.frozen 1
              have s1 : w.heap.size + 1 < wx0.heap.size := no0.lt
              have R1 := hide nr0
              have O1 := hide no0
              have B1 := hide nb0
              clear nr0 no0 nb0
              go_still_tail 9, (by kernel_rfl)
              go_wp2_with fail
              have nr1 := (R1.out.far (p := ⟨w.heap.size + 1, 1, none⟩) (by simp) (.int .i64 (b))).drew
              have no1 := (O1.out.set_ 1 (.int .i64 (b))).drew
              have nb1 := Nx.drew (B1.out.setCell (p := ⟨w.heap.size + 1, 1, none⟩) (by simp) (.int .i64 (b)))
              clear c1 d1 f1 s1 R1 O1 B1
              generalize World.drew _ = wx1 at nr1 no1 nb1 ⊢
              have c2 : wx1.cell? ⟨b0, off + k * 3 + 2, none⟩ = some (.int .i64 (fd rows k 2)) := (nb1.cell (p := ⟨b0, off + k * 3 + 2, none⟩) Hb0.out).trans (Hc.out k 2 hlt (by omega))
              have d2 : wx1.cell? ⟨w.heap.size + 1, 2, none⟩ = some (.int .i64 cc) := no1.cell 2
              have f2 := no1.frozen 2
              have s2 : w.heap.size + 1 < wx1.heap.size := no1.lt
              have R2 := hide nr1
              have O2 := hide no1
              have B2 := hide nb1
              clear nr1 no1 nb1
              go_still_tail 9, (by kernel_rfl)
              go_wp2_with fail
              have nr2 := (R2.out.far (p := ⟨w.heap.size + 1, 2, none⟩) (by simp) (.int .i64 (cc))).drew
              have no2 := (O2.out.set_ 2 (.int .i64 (cc))).drew
              have nb2 := Nx.drew (B2.out.setCell (p := ⟨w.heap.size + 1, 2, none⟩) (by simp) (.int .i64 (cc)))
              clear c2 d2 f2 s2 R2 O2 B2
              go_roundw
              case rel =>
                refine ⟨k + 1, by omega, by go_num, nr2, ?_, nb2⟩
                rw [← hs.out, show max a (fd rows k 0) = fd rows k 0 from by omega, show max b (fd rows k 1) = b from by omega, show max cc (fd rows k 2) = cc from by omega]
                exact no2
              case measure => simp [intOf]; omega
        · by_cases q1 : b < fd rows k 1
          · by_cases q2 : cc < fd rows k 2
            · have c0 : wr.cell? ⟨b0, off + k * 3, none⟩ = some (.int .i64 (fd rows k 0)) := (hb.cell (p := ⟨b0, off + k * 3, none⟩) Hb0.out).trans (Hc.out k 0 hlt (by omega))
              have d0 : wr.cell? ⟨w.heap.size + 1, 0, none⟩ = some (.int .i64 a) := ho.cell 0
              have f0 := ho.frozen 0
              have s0 : w.heap.size + 1 < wr.heap.size := ho.lt
              have R0 := hide hr
              have O0 := hide ho
              have B0 := hide hb
              clear hr ho hb
              go_wp2_with fail
              go_still_tail 9, (by kernel_rfl)
              go_wp2_with fail
              have nr0 := (R0.out.far (p := ⟨w.heap.size + 1, 0, none⟩) (by simp) (.int .i64 (a))).drew
              have no0 := (O0.out.set_ 0 (.int .i64 (a))).drew
              have nb0 := Nx.drew (B0.out.setCell (p := ⟨w.heap.size + 1, 0, none⟩) (by simp) (.int .i64 (a)))
              clear c0 d0 f0 s0 R0 O0 B0
              generalize World.drew _ = wx0 at nr0 no0 nb0 ⊢
              have c1 : wx0.cell? ⟨b0, off + k * 3 + 1, none⟩ = some (.int .i64 (fd rows k 1)) := (nb0.cell (p := ⟨b0, off + k * 3 + 1, none⟩) Hb0.out).trans (Hc.out k 1 hlt (by omega))
              have d1 : wx0.cell? ⟨w.heap.size + 1, 1, none⟩ = some (.int .i64 b) := no0.cell 1
              have f1 := no0.frozen 1
              have s1 : w.heap.size + 1 < wx0.heap.size := no0.lt
              have R1 := hide nr0
              have O1 := hide no0
              have B1 := hide nb0
              clear nr0 no0 nb0
              go_still_tail 9, (by kernel_rfl)
              go_wp2_with fail
              have nr1 := (R1.out.far (p := ⟨w.heap.size + 1, 1, none⟩) (by simp) (.int .i64 (fd rows k 1))).drew
              have no1 := (O1.out.set_ 1 (.int .i64 (fd rows k 1))).drew
              have nb1 := Nx.drew (B1.out.setCell (p := ⟨w.heap.size + 1, 1, none⟩) (by simp) (.int .i64 (fd rows k 1)))
              clear c1 d1 f1 s1 R1 O1 B1
              generalize World.drew _ = wx1 at nr1 no1 nb1 ⊢
              have c2 : wx1.cell? ⟨b0, off + k * 3 + 2, none⟩ = some (.int .i64 (fd rows k 2)) := (nb1.cell (p := ⟨b0, off + k * 3 + 2, none⟩) Hb0.out).trans (Hc.out k 2 hlt (by omega))
              have d2 : wx1.cell? ⟨w.heap.size + 1, 2, none⟩ = some (.int .i64 cc) := no1.cell 2
              have f2 := no1.frozen 2
              have s2 : w.heap.size + 1 < wx1.heap.size := no1.lt
              have R2 := hide nr1
              have O2 := hide no1
              have B2 := hide nb1
              clear nr1 no1 nb1
              go_still_tail 9, (by kernel_rfl)
              go_wp2_with fail
              have nr2 := (R2.out.far (p := ⟨w.heap.size + 1, 2, none⟩) (by simp) (.int .i64 (fd rows k 2))).drew
              have no2 := (O2.out.set_ 2 (.int .i64 (fd rows k 2))).drew
              have nb2 := Nx.drew (B2.out.setCell (p := ⟨w.heap.size + 1, 2, none⟩) (by simp) (.int .i64 (fd rows k 2)))
              clear c2 d2 f2 s2 R2 O2 B2
              go_roundw
              case rel =>
                refine ⟨k + 1, by omega, by go_num, nr2, ?_, nb2⟩
                rw [← hs.out, show max a (fd rows k 0) = a from by omega, show max b (fd rows k 1) = fd rows k 1 from by omega, show max cc (fd rows k 2) = fd rows k 2 from by omega]
                exact no2
              case measure => simp [intOf]; omega
            · have c0 : wr.cell? ⟨b0, off + k * 3, none⟩ = some (.int .i64 (fd rows k 0)) := (hb.cell (p := ⟨b0, off + k * 3, none⟩) Hb0.out).trans (Hc.out k 0 hlt (by omega))
              have d0 : wr.cell? ⟨w.heap.size + 1, 0, none⟩ = some (.int .i64 a) := ho.cell 0
              have f0 := ho.frozen 0
              have s0 : w.heap.size + 1 < wr.heap.size := ho.lt
              have R0 := hide hr
              have O0 := hide ho
              have B0 := hide hb
              clear hr ho hb
              go_wp2_with fail
              go_still_tail 9, (by kernel_rfl)
              go_wp2_with fail
              have nr0 := (R0.out.far (p := ⟨w.heap.size + 1, 0, none⟩) (by simp) (.int .i64 (a))).drew
              have no0 := (O0.out.set_ 0 (.int .i64 (a))).drew
              have nb0 := Nx.drew (B0.out.setCell (p := ⟨w.heap.size + 1, 0, none⟩) (by simp) (.int .i64 (a)))
              clear c0 d0 f0 s0 R0 O0 B0
              generalize World.drew _ = wx0 at nr0 no0 nb0 ⊢
              have c1 : wx0.cell? ⟨b0, off + k * 3 + 1, none⟩ = some (.int .i64 (fd rows k 1)) := (nb0.cell (p := ⟨b0, off + k * 3 + 1, none⟩) Hb0.out).trans (Hc.out k 1 hlt (by omega))
              have d1 : wx0.cell? ⟨w.heap.size + 1, 1, none⟩ = some (.int .i64 b) := no0.cell 1
              have f1 := no0.frozen 1
              have s1 : w.heap.size + 1 < wx0.heap.size := no0.lt
              have R1 := hide nr0
              have O1 := hide no0
              have B1 := hide nb0
              clear nr0 no0 nb0
              go_still_tail 9, (by kernel_rfl)
              go_wp2_with fail
              have nr1 := (R1.out.far (p := ⟨w.heap.size + 1, 1, none⟩) (by simp) (.int .i64 (fd rows k 1))).drew
              have no1 := (O1.out.set_ 1 (.int .i64 (fd rows k 1))).drew
              have nb1 := Nx.drew (B1.out.setCell (p := ⟨w.heap.size + 1, 1, none⟩) (by simp) (.int .i64 (fd rows k 1)))
              clear c1 d1 f1 s1 R1 O1 B1
              generalize World.drew _ = wx1 at nr1 no1 nb1 ⊢
              have c2 : wx1.cell? ⟨b0, off + k * 3 + 2, none⟩ = some (.int .i64 (fd rows k 2)) := (nb1.cell (p := ⟨b0, off + k * 3 + 2, none⟩) Hb0.out).trans (Hc.out k 2 hlt (by omega))
              have d2 : wx1.cell? ⟨w.heap.size + 1, 2, none⟩ = some (.int .i64 cc) := no1.cell 2
              have f2 := no1.frozen 2
              have s2 : w.heap.size + 1 < wx1.heap.size := no1.lt
              have R2 := hide nr1
              have O2 := hide no1
              have B2 := hide nb1
              clear nr1 no1 nb1
              go_still_tail 9, (by kernel_rfl)
              go_wp2_with fail
              have nr2 := (R2.out.far (p := ⟨w.heap.size + 1, 2, none⟩) (by simp) (.int .i64 (cc))).drew
              have no2 := (O2.out.set_ 2 (.int .i64 (cc))).drew
              have nb2 := Nx.drew (B2.out.setCell (p := ⟨w.heap.size + 1, 2, none⟩) (by simp) (.int .i64 (cc)))
              clear c2 d2 f2 s2 R2 O2 B2
              go_roundw
              case rel =>
                refine ⟨k + 1, by omega, by go_num, nr2, ?_, nb2⟩
                rw [← hs.out, show max a (fd rows k 0) = a from by omega, show max b (fd rows k 1) = fd rows k 1 from by omega, show max cc (fd rows k 2) = cc from by omega]
                exact no2
              case measure => simp [intOf]; omega
          · by_cases q2 : cc < fd rows k 2
            · have c0 : wr.cell? ⟨b0, off + k * 3, none⟩ = some (.int .i64 (fd rows k 0)) := (hb.cell (p := ⟨b0, off + k * 3, none⟩) Hb0.out).trans (Hc.out k 0 hlt (by omega))
              have d0 : wr.cell? ⟨w.heap.size + 1, 0, none⟩ = some (.int .i64 a) := ho.cell 0
              have f0 := ho.frozen 0
              have s0 : w.heap.size + 1 < wr.heap.size := ho.lt
              have R0 := hide hr
              have O0 := hide ho
              have B0 := hide hb
              clear hr ho hb
              go_wp2_with fail
              go_still_tail 9, (by kernel_rfl)
              go_wp2_with fail
              have nr0 := (R0.out.far (p := ⟨w.heap.size + 1, 0, none⟩) (by simp) (.int .i64 (a))).drew
              have no0 := (O0.out.set_ 0 (.int .i64 (a))).drew
              have nb0 := Nx.drew (B0.out.setCell (p := ⟨w.heap.size + 1, 0, none⟩) (by simp) (.int .i64 (a)))
              clear c0 d0 f0 s0 R0 O0 B0
              generalize World.drew _ = wx0 at nr0 no0 nb0 ⊢
              have c1 : wx0.cell? ⟨b0, off + k * 3 + 1, none⟩ = some (.int .i64 (fd rows k 1)) := (nb0.cell (p := ⟨b0, off + k * 3 + 1, none⟩) Hb0.out).trans (Hc.out k 1 hlt (by omega))
              have d1 : wx0.cell? ⟨w.heap.size + 1, 1, none⟩ = some (.int .i64 b) := no0.cell 1
              have f1 := no0.frozen 1
              have s1 : w.heap.size + 1 < wx0.heap.size := no0.lt
              have R1 := hide nr0
              have O1 := hide no0
              have B1 := hide nb0
              clear nr0 no0 nb0
              go_still_tail 9, (by kernel_rfl)
              go_wp2_with fail
              have nr1 := (R1.out.far (p := ⟨w.heap.size + 1, 1, none⟩) (by simp) (.int .i64 (b))).drew
              have no1 := (O1.out.set_ 1 (.int .i64 (b))).drew
              have nb1 := Nx.drew (B1.out.setCell (p := ⟨w.heap.size + 1, 1, none⟩) (by simp) (.int .i64 (b)))
              clear c1 d1 f1 s1 R1 O1 B1
              generalize World.drew _ = wx1 at nr1 no1 nb1 ⊢
              have c2 : wx1.cell? ⟨b0, off + k * 3 + 2, none⟩ = some (.int .i64 (fd rows k 2)) := (nb1.cell (p := ⟨b0, off + k * 3 + 2, none⟩) Hb0.out).trans (Hc.out k 2 hlt (by omega))
              have d2 : wx1.cell? ⟨w.heap.size + 1, 2, none⟩ = some (.int .i64 cc) := no1.cell 2
              have f2 := no1.frozen 2
              have s2 : w.heap.size + 1 < wx1.heap.size := no1.lt
              have R2 := hide nr1
              have O2 := hide no1
              have B2 := hide nb1
              clear nr1 no1 nb1
              go_still_tail 9, (by kernel_rfl)
              go_wp2_with fail
              have nr2 := (R2.out.far (p := ⟨w.heap.size + 1, 2, none⟩) (by simp) (.int .i64 (fd rows k 2))).drew
              have no2 := (O2.out.set_ 2 (.int .i64 (fd rows k 2))).drew
              have nb2 := Nx.drew (B2.out.setCell (p := ⟨w.heap.size + 1, 2, none⟩) (by simp) (.int .i64 (fd rows k 2)))
              clear c2 d2 f2 s2 R2 O2 B2
              go_roundw
              case rel =>
                refine ⟨k + 1, by omega, by go_num, nr2, ?_, nb2⟩
                rw [← hs.out, show max a (fd rows k 0) = a from by omega, show max b (fd rows k 1) = b from by omega, show max cc (fd rows k 2) = fd rows k 2 from by omega]
                exact no2
              case measure => simp [intOf]; omega
            · have c0 : wr.cell? ⟨b0, off + k * 3, none⟩ = some (.int .i64 (fd rows k 0)) := (hb.cell (p := ⟨b0, off + k * 3, none⟩) Hb0.out).trans (Hc.out k 0 hlt (by omega))
              have d0 : wr.cell? ⟨w.heap.size + 1, 0, none⟩ = some (.int .i64 a) := ho.cell 0
              have f0 := ho.frozen 0
              have s0 : w.heap.size + 1 < wr.heap.size := ho.lt
              have R0 := hide hr
              have O0 := hide ho
              have B0 := hide hb
              clear hr ho hb
              go_wp2_with fail
              go_still_tail 9, (by kernel_rfl)
              go_wp2_with fail
              have nr0 := (R0.out.far (p := ⟨w.heap.size + 1, 0, none⟩) (by simp) (.int .i64 (a))).drew
              have no0 := (O0.out.set_ 0 (.int .i64 (a))).drew
              have nb0 := Nx.drew (B0.out.setCell (p := ⟨w.heap.size + 1, 0, none⟩) (by simp) (.int .i64 (a)))
              clear c0 d0 f0 s0 R0 O0 B0
              generalize World.drew _ = wx0 at nr0 no0 nb0 ⊢
              have c1 : wx0.cell? ⟨b0, off + k * 3 + 1, none⟩ = some (.int .i64 (fd rows k 1)) := (nb0.cell (p := ⟨b0, off + k * 3 + 1, none⟩) Hb0.out).trans (Hc.out k 1 hlt (by omega))
              have d1 : wx0.cell? ⟨w.heap.size + 1, 1, none⟩ = some (.int .i64 b) := no0.cell 1
              have f1 := no0.frozen 1
              have s1 : w.heap.size + 1 < wx0.heap.size := no0.lt
              have R1 := hide nr0
              have O1 := hide no0
              have B1 := hide nb0
              clear nr0 no0 nb0
              go_still_tail 9, (by kernel_rfl)
              go_wp2_with fail
              have nr1 := (R1.out.far (p := ⟨w.heap.size + 1, 1, none⟩) (by simp) (.int .i64 (b))).drew
              have no1 := (O1.out.set_ 1 (.int .i64 (b))).drew
              have nb1 := Nx.drew (B1.out.setCell (p := ⟨w.heap.size + 1, 1, none⟩) (by simp) (.int .i64 (b)))
              clear c1 d1 f1 s1 R1 O1 B1
              generalize World.drew _ = wx1 at nr1 no1 nb1 ⊢
              have c2 : wx1.cell? ⟨b0, off + k * 3 + 2, none⟩ = some (.int .i64 (fd rows k 2)) := (nb1.cell (p := ⟨b0, off + k * 3 + 2, none⟩) Hb0.out).trans (Hc.out k 2 hlt (by omega))
              have d2 : wx1.cell? ⟨w.heap.size + 1, 2, none⟩ = some (.int .i64 cc) := no1.cell 2
              have f2 := no1.frozen 2
              have s2 : w.heap.size + 1 < wx1.heap.size := no1.lt
              have R2 := hide nr1
              have O2 := hide no1
              have B2 := hide nb1
              clear nr1 no1 nb1
              go_still_tail 9, (by kernel_rfl)
              go_wp2_with fail
              have nr2 := (R2.out.far (p := ⟨w.heap.size + 1, 2, none⟩) (by simp) (.int .i64 (cc))).drew
              have no2 := (O2.out.set_ 2 (.int .i64 (cc))).drew
              have nb2 := Nx.drew (B2.out.setCell (p := ⟨w.heap.size + 1, 2, none⟩) (by simp) (.int .i64 (cc)))
              clear c2 d2 f2 s2 R2 O2 B2
              go_roundw
              case rel =>
                refine ⟨k + 1, by omega, by go_num, nr2, ?_, nb2⟩
                rw [← hs.out, show max a (fd rows k 0) = a from by omega, show max b (fd rows k 1) = b from by omega, show max cc (fd rows k 2) = cc from by omega]
                exact no2
              case measure => simp [intOf]; omega
      · obtain rfl : k = rows.length := by omega
        have R := hide hr
        have O := hide ho
        have HB := hide hb
        clear hr ho hb
        go_wp2_with fail
        go_loopw [6] (fun i wq => ∃ k : Nat, k ≤ rows.length ∧ i = .int .i64 k ∧ Blk wq w.heap.size 25 (msC 0 0 0) ∧ Blk wq (w.heap.size + 1) 25 (msC (mxTo rows 0 rows.length) (mxTo rows 1 rows.length) (mxTo rows 2 rows.length)) ∧ Nx w wq ∧ Hid (∀ j, j < k → fits (mxTo rows 0 rows.length) (mxTo rows 1 rows.length) (mxTo rows 2 rows.length) (fd rows j 0) (fd rows j 1) (fd rows j 2) = true)) (fun i _ => rows.length - (intOf i).toNat)
        case atStart => exact ⟨0, Nat.zero_le _, rfl, R.out, O.out, HB.out, fun j hj => absurd hj (by omega)⟩
        case round =>
          clear R O HB
          obtain ⟨k, hk, rfl, hr, ho, hb, hall⟩ := hrel
          by_cases hlt : k < rows.length
          · obtain ⟨b0, off, rfl, hb0, hc⟩ := Hx.out (by omega)
            have hc0 : wr.cell? ⟨b0, off + k * 3, none⟩ = some (.int .i64 (fd rows k 0)) := (hb.cell (p := ⟨b0, off + k * 3, none⟩) hb0).trans (hc k 0 hlt (by omega))
            have hc1 : wr.cell? ⟨b0, off + k * 3 + 1, none⟩ = some (.int .i64 (fd rows k 1)) := (hb.cell (p := ⟨b0, off + k * 3 + 1, none⟩) hb0).trans (hc k 1 hlt (by omega))
            have hc2 : wr.cell? ⟨b0, off + k * 3 + 2, none⟩ = some (.int .i64 (fd rows k 2)) := (hb.cell (p := ⟨b0, off + k * 3 + 2, none⟩) hb0).trans (hc k 2 hlt (by omega))
            have ho0 : wr.cell? ⟨w.heap.size + 1, 0, none⟩ = some (.int .i64 (mxTo rows 0 rows.length)) := ho.cell 0
            have ho1 : wr.cell? ⟨w.heap.size + 1, 1, none⟩ = some (.int .i64 (mxTo rows 1 rows.length)) := ho.cell 1
            have ho2 : wr.cell? ⟨w.heap.size + 1, 2, none⟩ = some (.int .i64 (mxTo rows 2 rows.length)) := ho.cell 2
            have hk1 : (k : Int) < (rows.length : Int) := by omega
            have R := hide hr
            have O := hide ho
            have HB := hide hb
            clear hc hb hr ho
            have Hno := hide (fun h => sharedOk_no (rows := rows) (k := k) hlt h)
            generalize mxTo rows 0 rows.length = a at *
            generalize mxTo rows 1 rows.length = b at *
            generalize mxTo rows 2 rows.length = cc at *
            go_wp2_with fail
            go_still_tail 5, (by kernel_rfl)
            cases hfit : fits a b cc (fd rows k 0) (fd rows k 1) (fd rows k 2) with
            | true =>
              have HF := hide hfit
              go_wp2_with (go_at_call 13; fail)
              refine (spec_FitsFor _ _ _ _ _ _ _).mono ?_
              rintro e w1 ⟨rfl, b1⟩
              rw [hfit]
              clear hfit
              go_wp2_with fail
              go_roundw
              case rel => exact ⟨k + 1, by omega, by go_num, R.out.drew.below b1, O.out.drew.below b1, HB.out.trans_drew b1, fun j hj => by
                rcases Nat.lt_or_ge j k with h | h
                · exact hall.out j h
                · obtain rfl : j = k := by omega
                  exact HF.out⟩
              case measure => simp [intOf]; omega
            | false =>
              have HF := hide hfit
              go_wp2_with (go_at_call 13; fail)
              refine (spec_FitsFor _ _ _ _ _ _ _).mono ?_
              rintro e w1 ⟨rfl, b1⟩
              rw [hfit]
              clear hfit
              have R1 := hide (R.out.drew.below b1)
              have hr0 : w1.cell? ⟨w.heap.size, 0, none⟩ = some (.int .i64 0) := R1.out.cell 0
              have hr1 : w1.cell? ⟨w.heap.size, 1, none⟩ = some (.int .i64 0) := R1.out.cell 1
              have hr2 : w1.cell? ⟨w.heap.size, 2, none⟩ = some (.int .i64 0) := R1.out.cell 2
              have hfz := fun o => R1.out.frozen o
              have hsz1 : w.heap.size < w1.heap.size := R1.out.lt
              go_wp2_with fail
              have hf := hide (shared_no (Hno.out HF.out))
              have E : Blk _ w.heap.size 25 (msC (0) (0) (0)) := ((R1.out.set_ 0 (.int .i64 (0))).set_ 1 (.int .i64 (0))).set_ 2 (.int .i64 (0))
              have NX : Nx w _ := (((HB.out.trans_drew b1).setCell (p := ⟨w.heap.size, 0, none⟩) (Nat.le_refl _) (.int .i64 (0))).setCell (p := ⟨w.heap.size, 1, none⟩) (Nat.le_refl _) (.int .i64 (0))).setCell (p := ⟨w.heap.size, 2, none⟩) (Nat.le_refl _) (.int .i64 (0))
              generalize World.setCell _ _ _ = wf at E NX ⊢
              have e0 : wf.cell? ⟨w.heap.size, 0, none⟩ = some (.int .i64 (0)) := E.cell 0
              have e1 : wf.cell? ⟨w.heap.size, 1, none⟩ = some (.int .i64 (0)) := E.cell 1
              have e2 : wf.cell? ⟨w.heap.size, 2, none⟩ = some (.int .i64 (0)) := E.cell 2
              have ez : w.heap.size < wf.heap.size := E.lt
              exact bodyPost_ret (v := .tuple #[Ms (0) (0) (0), .bool false]) (by simp [results, Try.results18, go_sem, e0, e1, e2]) rfl ⟨by rw [hf.out], NX⟩
          · obtain rfl : k = rows.length := by omega
            have ho0 : wr.cell? ⟨w.heap.size + 1, 0, none⟩ = some (.int .i64 (mxTo rows 0 rows.length)) := ho.cell 0
            have ho1 : wr.cell? ⟨w.heap.size + 1, 1, none⟩ = some (.int .i64 (mxTo rows 1 rows.length)) := ho.cell 1
            have ho2 : wr.cell? ⟨w.heap.size + 1, 2, none⟩ = some (.int .i64 (mxTo rows 2 rows.length)) := ho.cell 2
            have hsz : w.heap.size + 1 < wr.heap.size := ho.lt
            have hrf := fun o => hr.frozen o
            have hr0 : wr.cell? ⟨w.heap.size, 0, none⟩ = some (.int .i64 0) := hr.cell 0
            have hr1 : wr.cell? ⟨w.heap.size, 1, none⟩ = some (.int .i64 0) := hr.cell 1
            have hr2 : wr.cell? ⟨w.heap.size, 2, none⟩ = some (.int .i64 0) := hr.cell 2
            have R := hide hr
            have O := hide ho
            have HB := hide hb
            clear hb hr ho
            go_wp2_with fail
            have hf := hide (shared_yes (sharedOk_yes H1.out hall.out))
            have E : Blk _ w.heap.size 25 (msC (mxTo rows 0 rows.length) (mxTo rows 1 rows.length) (mxTo rows 2 rows.length)) := ((R.out.set_ 0 (.int .i64 (mxTo rows 0 rows.length))).set_ 1 (.int .i64 (mxTo rows 1 rows.length))).set_ 2 (.int .i64 (mxTo rows 2 rows.length))
            have NX : Nx w _ := (((HB.out).setCell (p := ⟨w.heap.size, 0, none⟩) (Nat.le_refl _) (.int .i64 (mxTo rows 0 rows.length))).setCell (p := ⟨w.heap.size, 1, none⟩) (Nat.le_refl _) (.int .i64 (mxTo rows 1 rows.length))).setCell (p := ⟨w.heap.size, 2, none⟩) (Nat.le_refl _) (.int .i64 (mxTo rows 2 rows.length))
            generalize World.setCell _ _ _ = wf at E NX ⊢
            have e0 : wf.cell? ⟨w.heap.size, 0, none⟩ = some (.int .i64 (mxTo rows 0 rows.length)) := E.cell 0
            have e1 : wf.cell? ⟨w.heap.size, 1, none⟩ = some (.int .i64 (mxTo rows 1 rows.length)) := E.cell 1
            have e2 : wf.cell? ⟨w.heap.size, 2, none⟩ = some (.int .i64 (mxTo rows 2 rows.length)) := E.cell 2
            have ez : w.heap.size < wf.heap.size := E.lt
            exact bodyPost_ret (v := .tuple #[Ms (mxTo rows 0 rows.length) (mxTo rows 1 rows.length) (mxTo rows 2 rows.length), .bool true]) (by simp [results, Try.results18, go_sem, e0, e1, e2]) rfl ⟨by rw [hf.out], NX⟩

end Go.Proofs.Ytmleamknongknaa
