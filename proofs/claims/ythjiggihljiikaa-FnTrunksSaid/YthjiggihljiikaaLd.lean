/- Loads: the walk. -/
import Derived.Test.YthjiggihljiikaaLdP
import Derived.WalkKit
import Derived.ProofKit
import Derived.Handy
import Derived.OpenShut
import Derived.ShutString
import Derived.ChangeOld
import Derived.Below
import Derived.BigQuiet
import Derived.Deep.QuietTactic
import Derived.Deep.Draws
import Derived.Deep.DeepCutAuto
import Derived.Deep.DeepFit
import Derived.Deep.LoopGhost
import Derived.Outline
import Derived.WalkSpells
import Derived.WalkLawsBesides
import Derived.WalkSmall
import Derived.Laws.OwnMore
import Derived.OneCell
import Derived.Laws.Rows
import Derived.Maps.AppendAt
import Derived.StillTailTactics
import Derived.Lib.SmallJoins
import Derived.Deep.RegionWith
import Derived.Deep.RegionHeld3
import Derived.RegionTactic
import Derived.Deep.Matrix
import Derived.Deep.Fields
import Derived.ChangeSame
namespace Go.Proofs.Ythjiggihljiikaa
open Go.RowKit

theorem blk_set {w : World} {g : Nat} {t : TypeId} {cs : Array Value} (h : w.heap[g]? = some (.cells cs t (0, 0))) {i : Nat} {u : Value} : (w.setCell ⟨g, i, none⟩ u).heap[g]? = some (.cells (cs.setIfInBounds i u) t (0, 0)) := by
  simp [World.setCell, Array.getElem?_modify, h]
/-- the twelve sums as cells. -/
def ldCells (zs bs : List Int) (k : Nat) : List Value := (List.range 12).map fun (b : Nat) => .int .i64 (ldTo zs bs (b : Int) k)
theorem set12 {w : World} {g : Nat} {t : TypeId} (a0 a1 a2 a3 a4 a5 a6 a7 a8 a9 a10 a11 : Int) (h : w.heap[g]? = some (.cells #[.int .i64 0, .int .i64 0, .int .i64 0, .int .i64 0, .int .i64 0, .int .i64 0, .int .i64 0, .int .i64 0, .int .i64 0, .int .i64 0, .int .i64 0, .int .i64 0] t (0, 0))) :
    ((((((((((((w.setCell ⟨g, 0, none⟩ (.int .i64 a0)).setCell ⟨g, 1, none⟩ (.int .i64 a1)).setCell ⟨g, 2, none⟩ (.int .i64 a2)).setCell ⟨g, 3, none⟩ (.int .i64 a3)).setCell ⟨g, 4, none⟩ (.int .i64 a4)).setCell ⟨g, 5, none⟩ (.int .i64 a5)).setCell ⟨g, 6, none⟩ (.int .i64 a6)).setCell ⟨g, 7, none⟩ (.int .i64 a7)).setCell ⟨g, 8, none⟩ (.int .i64 a8)).setCell ⟨g, 9, none⟩ (.int .i64 a9)).setCell ⟨g, 10, none⟩ (.int .i64 a10)).setCell ⟨g, 11, none⟩ (.int .i64 a11)).heap[g]? = some (.cells #[.int .i64 a0, .int .i64 a1, .int .i64 a2, .int .i64 a3, .int .i64 a4, .int .i64 a5, .int .i64 a6, .int .i64 a7, .int .i64 a8, .int .i64 a9, .int .i64 a10, .int .i64 a11] t (0, 0)) := by
  have e := blk_set (i := 11) (u := .int .i64 a11) (blk_set (i := 10) (u := .int .i64 a10) (blk_set (i := 9) (u := .int .i64 a9) (blk_set (i := 8) (u := .int .i64 a8) (blk_set (i := 7) (u := .int .i64 a7) (blk_set (i := 6) (u := .int .i64 a6) (blk_set (i := 5) (u := .int .i64 a5) (blk_set (i := 4) (u := .int .i64 a4) (blk_set (i := 3) (u := .int .i64 a3) (blk_set (i := 2) (u := .int .i64 a2) (blk_set (i := 1) (u := .int .i64 a1) (blk_set (i := 0) (u := .int .i64 a0) h)))))))))))
  rw [e]
  simp
theorem ldCells_lit (zs bs : List Int) (k : Nat) : (ldCells zs bs k).toArray = #[.int .i64 (ldTo zs bs 0 k), .int .i64 (ldTo zs bs 1 k), .int .i64 (ldTo zs bs 2 k), .int .i64 (ldTo zs bs 3 k), .int .i64 (ldTo zs bs 4 k), .int .i64 (ldTo zs bs 5 k), .int .i64 (ldTo zs bs 6 k), .int .i64 (ldTo zs bs 7 k), .int .i64 (ldTo zs bs 8 k), .int .i64 (ldTo zs bs 9 k), .int .i64 (ldTo zs bs 10 k), .int .i64 (ldTo zs bs 11 k)] := rfl
theorem ldCells_set {zs bs : List Int} {k K : Nat} (_ : K < 12) (h : gt bs k = (K : Int)) : (ldCells zs bs k).toArray.setIfInBounds K (.int .i64 (ldTo zs bs (K : Int) k + gt zs k)) = (ldCells zs bs (k + 1)).toArray := by
  rw [List.setIfInBounds_toArray]
  congr 1
  apply List.ext_getElem
  · simp [ldCells]
  · intro j h1 h2
    have hj : j < 12 := by simpa [ldCells] using h2
    by_cases e : K = j
    · subst e
      simp [ldCells, ldTo_yes h]
    · have : gt bs k ≠ (j : Int) := by rw [h]; omega
      simp [ldCells, e, ldTo_no this]
set_option maxHeartbeats 4000000 in
theorem impl_loads (v u : Value) (zs bs : List Int) (w : World) (h : RdI w v zs) (h' : RdI w u bs) (hl : bs.length = zs.length) (hn : zs.length ≤ 12) (hz : ∀ k, k < zs.length → 1 ≤ gt zs k ∧ gt zs k ≤ 1000) (hb : ∀ k, k < bs.length → 0 ≤ gt bs k ∧ gt bs k ≤ 11) :
    Calls Try.prog 32 #[v, u] w fun e w' => e = .returned (.agg (ldCells zs bs zs.length).toArray) ∧ Nx w w' := by
  obtain ⟨A, c, rfl, hx⟩ := h
  obtain ⟨A', c', rfl, hx'⟩ := h'
  have Hx := hide hx
  have Hx' := hide hx'
  have Hz := hide hz
  have Hb := hide hb
  have Hl := hide hl
  clear hx hx' hz hb hl
  go_enter Try.func32, Try.ntmps32
  have G0 : (w.alloc (.cells #[.int .i64 0, .int .i64 0, .int .i64 0, .int .i64 0, .int .i64 0, .int .i64 0, .int .i64 0, .int .i64 0, .int .i64 0, .int .i64 0, .int .i64 0, .int .i64 0] 37)).heap.size = w.heap.size + 1 := by simp
  have H2 : ((w.alloc (.cells #[.int .i64 0, .int .i64 0, .int .i64 0, .int .i64 0, .int .i64 0, .int .i64 0, .int .i64 0, .int .i64 0, .int .i64 0, .int .i64 0, .int .i64 0, .int .i64 0] 37)).alloc (.cells #[.int .i64 0, .int .i64 0, .int .i64 0, .int .i64 0, .int .i64 0, .int .i64 0, .int .i64 0, .int .i64 0, .int .i64 0, .int .i64 0, .int .i64 0, .int .i64 0] 37)).heap[w.heap.size + 1]? = some (.cells (ldCells zs bs 0).toArray 37 (0, 0)) := heap_alloc2_new w _ _
  have H1 : ((w.alloc (.cells #[.int .i64 0, .int .i64 0, .int .i64 0, .int .i64 0, .int .i64 0, .int .i64 0, .int .i64 0, .int .i64 0, .int .i64 0, .int .i64 0, .int .i64 0, .int .i64 0] 37)).alloc (.cells #[.int .i64 0, .int .i64 0, .int .i64 0, .int .i64 0, .int .i64 0, .int .i64 0, .int .i64 0, .int .i64 0, .int .i64 0, .int .i64 0, .int .i64 0, .int .i64 0] 37)).heap[w.heap.size]? = some (.cells #[.int .i64 0, .int .i64 0, .int .i64 0, .int .i64 0, .int .i64 0, .int .i64 0, .int .i64 0, .int .i64 0, .int .i64 0, .int .i64 0, .int .i64 0, .int .i64 0] 37 (0, 0)) := heap_alloc2_old w _ _
  have Hn : Nx w ((w.alloc (.cells #[.int .i64 0, .int .i64 0, .int .i64 0, .int .i64 0, .int .i64 0, .int .i64 0, .int .i64 0, .int .i64 0, .int .i64 0, .int .i64 0, .int .i64 0, .int .i64 0] 37)).alloc (.cells #[.int .i64 0, .int .i64 0, .int .i64 0, .int .i64 0, .int .i64 0, .int .i64 0, .int .i64 0, .int .i64 0, .int .i64 0, .int .i64 0, .int .i64 0, .int .i64 0] 37)) := (Nx.made w _).trans (Nx.made _ _)
  have G := hide (And.intro H1 (And.intro H2 Hn))
  clear G0 H1 H2 Hn
  go_wp2_with fail
  go_loopw [11] (fun i wr => ∃ k : Nat, k ≤ bs.length ∧ i = .int .i64 k ∧ wr.heap[w.heap.size]? = some (.cells #[.int .i64 0, .int .i64 0, .int .i64 0, .int .i64 0, .int .i64 0, .int .i64 0, .int .i64 0, .int .i64 0, .int .i64 0, .int .i64 0, .int .i64 0, .int .i64 0] 37 (0, 0)) ∧ wr.heap[w.heap.size + 1]? = some (.cells (ldCells zs bs k).toArray 37 (0, 0)) ∧ Nx w wr) (fun i _ => bs.length - (intOf i).toNat)
  case atStart => exact ⟨0, Nat.zero_le _, rfl, G.out.1, G.out.2.1, G.out.2.2⟩
  case round =>
    clear G
    obtain ⟨k, hk, rfl, hr, hg, hn⟩ := hrel
    by_cases hlt : k < bs.length
    · obtain ⟨b0, off, rfl, hb0, hc⟩ := Hx.out (by have := Hl.out; omega)
      obtain ⟨b1, off1, rfl, hb1, hc1⟩ := Hx'.out (by omega)
      have hlt2 : k < zs.length := by have := Hl.out; omega
      have hck : wr.cell? ⟨b0, off + k, none⟩ = some (.int .i64 (gt zs k)) := (hn.cell (p := ⟨b0, off + k, none⟩) hb0).trans (hc k hlt2)
      have hbk : wr.cell? ⟨b1, off1 + k, none⟩ = some (.int .i64 (gt bs k)) := (hn.cell (p := ⟨b1, off1 + k, none⟩) hb1).trans (hc1 k hlt)
      have bk := Hb.out k hlt
      have zk := Hz.out k hlt2
      obtain ⟨K, hK⟩ := Int.eq_ofNat_of_zero_le bk.1
      have hK12 : K < 12 := by omega
      have hKi : (K : Int) < 12 := by omega
      have hk1 : (k : Int) < (zs.length : Int) := by omega
      have hld := ldTo_bd (bs := bs) Hz.out (K : Int) (k := k) (by omega)
      have hco : wr.cell? ⟨w.heap.size + 1, K, none⟩ = some (.int .i64 (ldTo zs bs (K : Int) k)) := by
        rw [cell_of_row wr _ K _ _ _ hg]
        simp [ldCells, hK12]
      have hfr : wr.frozen? ⟨w.heap.size + 1, K, none⟩ = false := frozen_of_row wr _ K _ _ hg
      have R1 : (wr.setCell ⟨w.heap.size + 1, K, none⟩ (.int .i64 (ldTo zs bs (K : Int) k + gt zs k))).heap[w.heap.size + 1]? = some (.cells (ldCells zs bs (k + 1)).toArray 37 (0, 0)) := by
        rw [heap_setCell_same wr _ K _ _ _ hg, ldCells_set hK12 hK]
      have R2 : (wr.setCell ⟨w.heap.size + 1, K, none⟩ (.int .i64 (ldTo zs bs (K : Int) k + gt zs k))).heap[w.heap.size]? = some (.cells #[.int .i64 0, .int .i64 0, .int .i64 0, .int .i64 0, .int .i64 0, .int .i64 0, .int .i64 0, .int .i64 0, .int .i64 0, .int .i64 0, .int .i64 0, .int .i64 0] 37 (0, 0)) := by
        rw [heap_setCell_other wr _ _ _ (by show w.heap.size ≠ w.heap.size + 1; omega)]; exact hr
      have R3 : Nx w (wr.setCell ⟨w.heap.size + 1, K, none⟩ (.int .i64 (ldTo zs bs (K : Int) k + gt zs k))) := hn.setCell (p := ⟨w.heap.size + 1, K, none⟩) (by show w.heap.size ≤ w.heap.size + 1; omega) _
      have R := hide (And.intro R2 (And.intro R1 (Nx.drew R3)))
      rw [hK] at hbk
      have HK := hide hK
      clear hc hc1 R1 R2 R3 hr hg hn hK bk Hx Hx'
      go_wp2_with fail
      go_still_tail 9, (by kernel_rfl)
      go_wp2_with fail
      go_roundw
      case rel => exact ⟨k + 1, by omega, by go_num, R.out.1, R.out.2.1, R.out.2.2⟩
      case measure => simp [intOf]; omega
    · obtain rfl : k = bs.length := by omega
      have e := Hl.out
      rw [e] at hg
      have cR : ∀ j, wr.cell? ⟨w.heap.size, j, none⟩ = (#[.int .i64 0, .int .i64 0, .int .i64 0, .int .i64 0, .int .i64 0, .int .i64 0, .int .i64 0, .int .i64 0, .int .i64 0, .int .i64 0, .int .i64 0, .int .i64 0] : Array Value)[j]? := fun j => cell_of_row wr _ j _ _ _ hr
      have cG : ∀ j, wr.cell? ⟨w.heap.size + 1, j, none⟩ = ((ldCells zs bs zs.length).toArray)[j]? := fun j => cell_of_row wr _ j _ _ _ hg
      have fR : ∀ j, wr.frozen? ⟨w.heap.size, j, none⟩ = false := fun j => frozen_of_row wr _ j _ _ hr
      have g0 : wr.cell? ⟨w.heap.size + 1, 0, none⟩ = some (.int .i64 (ldTo zs bs 0 zs.length)) := cG 0
      have r0 : wr.cell? ⟨w.heap.size, 0, none⟩ = some (.int .i64 0) := cR 0
      have g1 : wr.cell? ⟨w.heap.size + 1, 1, none⟩ = some (.int .i64 (ldTo zs bs 1 zs.length)) := cG 1
      have r1 : wr.cell? ⟨w.heap.size, 1, none⟩ = some (.int .i64 0) := cR 1
      have g2 : wr.cell? ⟨w.heap.size + 1, 2, none⟩ = some (.int .i64 (ldTo zs bs 2 zs.length)) := cG 2
      have r2 : wr.cell? ⟨w.heap.size, 2, none⟩ = some (.int .i64 0) := cR 2
      have g3 : wr.cell? ⟨w.heap.size + 1, 3, none⟩ = some (.int .i64 (ldTo zs bs 3 zs.length)) := cG 3
      have r3 : wr.cell? ⟨w.heap.size, 3, none⟩ = some (.int .i64 0) := cR 3
      have g4 : wr.cell? ⟨w.heap.size + 1, 4, none⟩ = some (.int .i64 (ldTo zs bs 4 zs.length)) := cG 4
      have r4 : wr.cell? ⟨w.heap.size, 4, none⟩ = some (.int .i64 0) := cR 4
      have g5 : wr.cell? ⟨w.heap.size + 1, 5, none⟩ = some (.int .i64 (ldTo zs bs 5 zs.length)) := cG 5
      have r5 : wr.cell? ⟨w.heap.size, 5, none⟩ = some (.int .i64 0) := cR 5
      have g6 : wr.cell? ⟨w.heap.size + 1, 6, none⟩ = some (.int .i64 (ldTo zs bs 6 zs.length)) := cG 6
      have r6 : wr.cell? ⟨w.heap.size, 6, none⟩ = some (.int .i64 0) := cR 6
      have g7 : wr.cell? ⟨w.heap.size + 1, 7, none⟩ = some (.int .i64 (ldTo zs bs 7 zs.length)) := cG 7
      have r7 : wr.cell? ⟨w.heap.size, 7, none⟩ = some (.int .i64 0) := cR 7
      have g8 : wr.cell? ⟨w.heap.size + 1, 8, none⟩ = some (.int .i64 (ldTo zs bs 8 zs.length)) := cG 8
      have r8 : wr.cell? ⟨w.heap.size, 8, none⟩ = some (.int .i64 0) := cR 8
      have g9 : wr.cell? ⟨w.heap.size + 1, 9, none⟩ = some (.int .i64 (ldTo zs bs 9 zs.length)) := cG 9
      have r9 : wr.cell? ⟨w.heap.size, 9, none⟩ = some (.int .i64 0) := cR 9
      have g10 : wr.cell? ⟨w.heap.size + 1, 10, none⟩ = some (.int .i64 (ldTo zs bs 10 zs.length)) := cG 10
      have r10 : wr.cell? ⟨w.heap.size, 10, none⟩ = some (.int .i64 0) := cR 10
      have g11 : wr.cell? ⟨w.heap.size + 1, 11, none⟩ = some (.int .i64 (ldTo zs bs 11 zs.length)) := cG 11
      have r11 : wr.cell? ⟨w.heap.size, 11, none⟩ = some (.int .i64 0) := cR 11
      have HG' := hide (set12 (ldTo zs bs 0 zs.length) (ldTo zs bs 1 zs.length) (ldTo zs bs 2 zs.length) (ldTo zs bs 3 zs.length) (ldTo zs bs 4 zs.length) (ldTo zs bs 5 zs.length) (ldTo zs bs 6 zs.length) (ldTo zs bs 7 zs.length) (ldTo zs bs 8 zs.length) (ldTo zs bs 9 zs.length) (ldTo zs bs 10 zs.length) (ldTo zs bs 11 zs.length) hr)
      have Hn2 := hide hn
      clear cR cG hn hr hg
      clear e
      go_wp2_with fail
      refine bodyPost_ret (v := .agg #[.int .i64 (ldTo zs bs 0 zs.length), .int .i64 (ldTo zs bs 1 zs.length), .int .i64 (ldTo zs bs 2 zs.length), .int .i64 (ldTo zs bs 3 zs.length), .int .i64 (ldTo zs bs 4 zs.length), .int .i64 (ldTo zs bs 5 zs.length), .int .i64 (ldTo zs bs 6 zs.length), .int .i64 (ldTo zs bs 7 zs.length), .int .i64 (ldTo zs bs 8 zs.length), .int .i64 (ldTo zs bs 9 zs.length), .int .i64 (ldTo zs bs 10 zs.length), .int .i64 (ldTo zs bs 11 zs.length)]) (results_cell_row rfl _ _ w.heap.size 37 _ (0, 0) _ rfl HG'.out Try.underlying37 rfl (by kernel_rfl)) rfl ⟨by rw [ldCells_lit], ?_⟩
      have hn := Hn2.out
      exact ((((((((((((hn.setCell (p := ⟨w.heap.size, 0, none⟩) (Nat.le_refl _) _).setCell (p := ⟨w.heap.size, 1, none⟩) (Nat.le_refl _) _).setCell (p := ⟨w.heap.size, 2, none⟩) (Nat.le_refl _) _).setCell (p := ⟨w.heap.size, 3, none⟩) (Nat.le_refl _) _).setCell (p := ⟨w.heap.size, 4, none⟩) (Nat.le_refl _) _).setCell (p := ⟨w.heap.size, 5, none⟩) (Nat.le_refl _) _).setCell (p := ⟨w.heap.size, 6, none⟩) (Nat.le_refl _) _).setCell (p := ⟨w.heap.size, 7, none⟩) (Nat.le_refl _) _).setCell (p := ⟨w.heap.size, 8, none⟩) (Nat.le_refl _) _).setCell (p := ⟨w.heap.size, 9, none⟩) (Nat.le_refl _) _).setCell (p := ⟨w.heap.size, 10, none⟩) (Nat.le_refl _) _).setCell (p := ⟨w.heap.size, 11, none⟩) (Nat.le_refl _) _)

end Go.Proofs.Ythjiggihljiikaa
