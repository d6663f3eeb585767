/- Drawn maps. -/
import Derived.Test.YtemijekdcifncaaBtP
import Derived.Test.YtemijekdcifncaaMrk
import Derived.Test.YtemijekdcifncaaCp
import Derived.WalkKit
import Derived.ProofKit
import Derived.Handy
import Derived.OpenShut
import Derived.ShutString
import Derived.ChangeOld
import Derived.Below
import Derived.BigQuiet
import Derived.Deep.QuietTactic
import Derived.Deep.Draws
import Derived.Deep.DeepCutAuto
import Derived.Deep.DeepFit
import Derived.Deep.LoopGhost
import Derived.Outline
import Derived.WalkSpells
import Derived.WalkLawsBesides
import Derived.WalkSmall
import Derived.Laws.OwnMore
import Derived.OneCell
import Derived.Laws.Rows
import Derived.Maps.AppendAt
import Derived.StillTailTactics
import Derived.Lib.SmallJoins
import Derived.Deep.RegionWith
import Derived.Deep.RegionHeld3
import Derived.RegionTactic
import Derived.Deep.Matrix
import Derived.Deep.Fields
import Derived.ChangeSame
namespace Go.Proofs.Ytemijekdcifncaa
open Go.RowKit

/-- A slice value that reads as a list of bytes. -/
def RdB (w : World) (v : Value) (zs : List Int) : Prop :=
  ∃ A c, v = .slice A zs.length c ∧ (0 < zs.length → ∃ b off, A = some ⟨b, off, none⟩ ∧ b < w.heap.size ∧ ∀ j, j < zs.length → w.cell? ⟨b, off + j, none⟩ = some (.int .u8 (gt zs j)) ∧ 0 ≤ gt zs j ∧ gt zs j ≤ 255)
theorem RdB.below {w w' : World} {v : Value} {zs : List Int} (h : RdB w v zs) (hb : Nx w w') : RdB w' v zs := by
  obtain ⟨A, c, rfl, hx⟩ := h
  refine ⟨A, c, rfl, fun h0 => ?_⟩
  obtain ⟨b, off, rfl, hlt, hc⟩ := hx h0
  exact ⟨b, off, rfl, Nat.lt_of_lt_of_le hlt hb.size, fun j hj => ⟨(hb.cell (p := ⟨b, off + j, none⟩) hlt).trans (hc j hj).1, (hc j hj).2⟩⟩
theorem u8_of_wf {n : Int} (h : (Lit.int .u8 n).wf = true) : 0 ≤ n ∧ n ≤ 255 := by
  simp [Lit.wf, IntKind.min, IntKind.max, IntKind.signed, IntKind.bits] at h
  omega
theorem isRow_readsB {w : World} {a : Option Addr} {len cap : Nat} {zs : List Int} (h : IsRow .u8 w a len cap zs) :
    ∃ ys, RdB w (.slice a len cap) ys ∧ ys.length ≤ maxLen := by
  rcases h with ⟨rfl, rfl, rfl, rfl⟩ | ⟨x, rfl, hl, hm, hz, hcell, hwz⟩
  · exact ⟨[], ⟨none, 0, rfl, fun h => absurd h (by simp)⟩, by simp⟩
  · have hlen : (zs.take len).length = len := by rw [List.length_take]; omega
    refine ⟨zs.take len, ⟨some x, cap, by rw [hlen], fun h0 => ?_⟩, by rw [hlen]; omega⟩
    rw [hlen] at h0 ⊢
    have hc := hcell 0 (by omega)
    obtain ⟨b, off, spot⟩ := x
    have hspot : spot = none := by simpa [Addr.add] using World.cell?_spot hc
    subst hspot
    refine ⟨b, off, rfl, by simpa [Addr.add] using block_lt_of_cell hc, fun j hj => ?_⟩
    have := hcell j (by omega)
    rw [add_off] at this
    have e : gt (zs.take len) j = zs.getD j 0 := by simp [gt, hj]
    rw [e]
    refine ⟨this, u8_of_wf (hwz _ ?_)⟩
    rw [List.getD_eq_getElem?_getD, List.getElem?_eq_getElem (show j < zs.length by omega)]
    exact List.getElem_mem _
theorem and255 (x : Int) : 0 ≤ bits .and .i64 x 255 ∧ bits .and .i64 x 255 ≤ 255 := by
  have e : bits .and .i64 x 255 = IntKind.i64.wrap ((BitVec.ofInt 64 x &&& BitVec.ofInt 64 255).toNat : Int) := rfl
  have h : (BitVec.ofInt 64 x &&& BitVec.ofInt 64 255).toNat ≤ 255 := by
    rw [BitVec.toNat_and]
    have : (BitVec.ofInt 64 255).toNat = 255 := by decide
    rw [this]
    exact Nat.and_le_right
  rw [e, IntKind.wrap_i64]
  omega
/-- A cursor of the reference's draws: a block of its own. -/
def Cur (w0 w : World) (g : Nat) (v : Value) (n : Nat) : Prop := w0.heap.size ≤ g ∧ ∃ (i : Nat) (h : Int), Blk w g 49 #[v, .int .i64 (i : Int), .int .i64 h] ∧ i ≤ n
theorem Cur.below {w0 w w' : World} {g n : Nat} {v : Value} (h : Cur w0 w g v n) (hb : Nx w w') : Cur w0 w' g v n := by
  obtain ⟨h0, i, x, hB, hi⟩ := h
  exact ⟨h0, i, x, hB.below hb, hi⟩
theorem Cur.kept {w0 w w' : World} {g n : Nat} {v : Value} {row : Option Nat} (h : Cur w0 w g v n) (hb : w.grownBy w' row) (hne : some g ≠ row) : Cur w0 w' g v n := by
  obtain ⟨h0, i, x, hB, hi⟩ := h
  exact ⟨h0, i, x, hB.grown hb hne, hi⟩
theorem Cur.lt {w0 w : World} {g n : Nat} {v : Value} (h : Cur w0 w g v n) : g < w.heap.size := by
  obtain ⟨h0, i, x, hB, hi⟩ := h
  exact hB.lt
theorem blk_ne {w : World} {g g' : Nat} {t t' : TypeId} {cs cs' : Array Value} (h : Blk w g t cs) (h' : Blk w g' t' cs') (hne : t ≠ t') : g ≠ g' := by
  rintro rfl
  unfold Blk at h h'
  rw [h] at h'
  injection h' with h'
  injection h' with _ ht
  exact hne ht
/-- a row of the program's own and a cursor never share a block. -/
theorem Cur.row {w0 w : World} {g n : Nat} {v : Value} (h : Cur w0 w g v n) {B m : Nat} {e : TypeId} {sz : Nat} {u : Value} {xs : List Value} (ho : w.ownsRow B e sz u m xs) (hne : e ≠ 49) : u.ownBlock ≠ some g := by
  obtain ⟨h0, i, x, hB, hi⟩ := h
  rcases ho.2 with ⟨rfl, _⟩ | ⟨g', cap, cur, rfl, _, hh, _⟩
  · simp [Value.ownBlock]
  · intro he
    have : g' = g := by simpa [Value.ownBlock] using he
    subst this
    exact blk_ne (t := e) hh hB hne rfl
theorem Cur.rowI {w0 w : World} {g n : Nat} {v : Value} (h : Cur w0 w g v n) {B : Nat} {u : Value} {xs : List Int} (ho : OwI w B u xs) : u.ownBlock = none ∨ u.ownBlock ≠ some g := .inr (h.row ho (by decide))
theorem Nx.grownAt {a b c : World} {g : Nat} (h : Nx a b) (hg : b.grownBy c (some g)) (hB : a.heap.size ≤ g) : Nx a c := Below.grown h hg h.size (fun k hk => by injection hk with e; omega)
theorem grown_set (w : World) (g i : Nat) (u : Value) : w.grownBy (w.setCell ⟨g, i, none⟩ u) (some g) :=
  ⟨rfl, rfl, rfl, by simp, fun k _ hne => Below.heap_setCell w ⟨g, i, none⟩ u k (fun e => hne (by rw [e]))⟩
theorem grown_drewN (w : World) (n : Nat) (row : Option Nat) : w.grownBy (w.drewN n) row := ⟨rfl, rfl, rfl, Nat.le_refl _, fun _ _ _ => rfl⟩

set_option maxHeartbeats 1000000 in
theorem l01New_any (v : Value) (zs : List Int) (w : World) (hr : RdB w v zs) (hl : zs.length ≤ 1048576) :
    Calls Try.prog 42 #[v] w fun e w' => e = .returned (.pointer (some ⟨w.heap.size, 0, none⟩)) ∧ Cur w w' w.heap.size v zs.length ∧ Nx w w' := by
  obtain ⟨A, c, rfl, hx⟩ := hr
  go_enter Try.func42, Try.ntmps42
  go_wp2_with fail
  go_loopw [3, 4] (fun h i wr => ∃ (k : Nat) (x : Int), k ≤ zs.length ∧ i = .int .i64 k ∧ h = .int .i64 x ∧ wr = w) (fun _ i _ => zs.length - (intOf i).toNat)
  case atStart => exact ⟨0, _, Nat.zero_le _, rfl, rfl, (by first | trivial | rfl)⟩
  case round =>
    obtain ⟨k, x, hk, rfl, rfl, rfl⟩ := hrel
    by_cases hlt : k < zs.length
    · by_cases h4 : (k : Int) < 4000
      · obtain ⟨b0, off, rfl, hb0, hc⟩ := hx (by omega)
        have hck := (hc k hlt).1
        have hk1 : (k : Int) < (zs.length : Int) := by omega
        clear hc hx
        go_wp2_with fail
        go_roundw
        case rel => exact ⟨k + 1, _, by omega, by go_num, rfl, (by first | trivial | rfl)⟩
        case measure => simp [intOf]; omega
      · have hk1 : (k : Int) < (zs.length : Int) := by omega
        go_wp2_with fail
        go_ret
        exact ⟨rfl, ⟨Nat.le_refl _, 0, _, Blk.new _ _ _, Nat.zero_le _⟩, Nx.made _ _⟩
    · obtain rfl : k = zs.length := by omega
      go_wp2_with fail
      go_ret
      exact ⟨rfl, ⟨Nat.le_refl _, 0, _, Blk.new _ _ _, Nat.zero_le _⟩, Nx.made _ _⟩

set_option maxHeartbeats 2000000 in
theorem l01Byte_any (w0 : World) (v : Value) (zs : List Int) (g : Nat) (w : World) (hr : RdB w0 v zs) (hl : zs.length ≤ 1048576) (hb : Nx w0 w) (hc : Cur w0 w g v zs.length) :
    Calls Try.prog 48 #[.pointer (some ⟨g, 0, none⟩)] w fun e w' => ∃ x, e = .returned (.int .i64 x) ∧ (0 ≤ x ∧ x ≤ 255) ∧ Cur w0 w' g v zs.length ∧ w.grownBy w' (some g) := by
  obtain ⟨hg, i, h, hB, hi⟩ := hc
  obtain ⟨A, c, rfl, hx⟩ := hr
  have c0 : w.cell? ⟨g, 0, none⟩ = some (.slice A zs.length c) := hB.cell 0
  have c1 : w.cell? ⟨g, 1, none⟩ = some (.int .i64 (i : Int)) := hB.cell 1
  have c2 : w.cell? ⟨g, 2, none⟩ = some (.int .i64 h) := hB.cell 2
  have f2 := hB.frozen 2
  have HB := hide hB
  clear hB
  go_enter Try.func48, Try.ntmps48
  go_wp2_with fail
  generalize wrap64 (wrap64 (h * 6364136223846793005) + 1442695040888963407) = h1
  have hB1 : Blk (w.setCell ⟨g, 2, none⟩ (.int .i64 h1)) g 49 #[.slice A zs.length c, .int .i64 (i : Int), .int .i64 h1] := HB.out.set_ 2 (.int .i64 h1)
  have G1 := grown_set w g 2 (.int .i64 h1)
  have hb1 := Nx.grownAt hb G1 hg
  clear c0 c1 c2 f2 HB
  generalize World.setCell _ _ _ = w1 at hB1 G1 hb1 ⊢
  have c0 : w1.cell? ⟨g, 0, none⟩ = some (.slice A zs.length c) := hB1.cell 0
  have c1 : w1.cell? ⟨g, 1, none⟩ = some (.int .i64 (i : Int)) := hB1.cell 1
  have c2 : w1.cell? ⟨g, 2, none⟩ = some (.int .i64 h1) := hB1.cell 2
  have f1 := hB1.frozen 1
  have HB := hide hB1
  have HG := hide G1
  clear hB1 G1
  by_cases hlt : i < zs.length
  · obtain ⟨b0, off, rfl, hb0, hc⟩ := hx (by omega)
    have hck := (hb1.cell (p := ⟨b0, off + i, none⟩) hb0).trans (hc i hlt).1
    have hi1 : (i : Int) < (zs.length : Int) := by omega
    clear hc hx
    go_quiet (fail)
    have hx1 := and255 (bits .xor .i64 (h1 / 8589934592) (h1 / 35184372088832))
    go_wp2_with fail
    generalize bits .and .i64 _ _ = x at hx1 ⊢
    go_quiet (fail)
    go_wp2_with fail
    go_quiet (fail)
    go_wp2_with fail
    go_ret
    exact ⟨_, rfl, and255 _, ⟨hg, i + 1, h1, (HB.out.drewN _).set_ 1 _, by omega⟩, grownBy_trans HG.out (grownBy_trans (grown_drewN _ _ _) (grown_set _ _ _ _))⟩
  · have hi1 : ¬ (i : Int) < (zs.length : Int) := by omega
    clear hx
    go_quiet (fail)
    have hx1 := and255 (bits .xor .i64 (h1 / 8589934592) (h1 / 35184372088832))
    go_wp2_with fail
    generalize bits .and .i64 _ _ = x at hx1 ⊢
    go_quiet (fail)
    go_wp2_with fail
    go_ret
    exact ⟨_, rfl, hx1, ⟨hg, i, h1, (HB.out.drewN _).drewN _, hi⟩, grownBy_trans HG.out (grownBy_trans (grown_drewN _ _ _) (grown_drewN _ _ _))⟩

set_option maxHeartbeats 1000000 in
theorem l01Below_any (w0 : World) (v : Value) (zs : List Int) (g : Nat) (n : Int) (w : World) (hr : RdB w0 v zs) (hl : zs.length ≤ 1048576) (hb : Nx w0 w) (hc : Cur w0 w g v zs.length) (n0 : 1 ≤ n) (n1 : n ≤ 256) :
    Calls Try.prog 47 #[.pointer (some ⟨g, 0, none⟩), .int .i64 n] w fun e w' => ∃ x, e = .returned (.int .i64 x) ∧ (0 ≤ x ∧ x < n) ∧ Cur w0 w' g v zs.length ∧ w.grownBy w' (some g) := by
  go_enter Try.func47, Try.ntmps47
  go_wp2_with (go_at_call 48; fail)
  refine (l01Byte_any w0 v zs g w hr hl hb hc).mono ?_
  rintro e w1 ⟨x, rfl, hx, hc1, hg1⟩
  have HG := hide hg1
  have HC := hide hc1
  clear hc hc1 hg1
  have hm0 : 0 ≤ x % n := Int.emod_nonneg _ (by omega)
  have hm1 : x % n < n := Int.emod_lt_of_pos _ (by omega)
  have hn0 : (n == 0) = false := by simp; omega
  go_wp2_with fail
  go_ret
  exact ⟨_, rfl, ⟨hm0, hm1⟩, HC.out, HG.out⟩

set_option maxHeartbeats 400000 in
theorem big_any (v : Value) (zs : List Int) (w : World) (h : RdB w v zs) : Calls Try.prog 28 #[v] w fun e w' => e = .returned (.bool (decide (1048576 < (zs.length : Int)))) ∧ w = w' := by
  obtain ⟨A, c, rfl, hx⟩ := h
  clear hx
  go_enter Try.func28, Try.ntmps28
  go_wp2
  go_ret
  exact ⟨rfl, rfl⟩

/-- h rows of wd numbers. -/
def gridL (h wd : Nat) (F : Nat → Nat → Int) : List (List Int) := (List.range h).map fun y => (List.range wd).map fun x => F y x
theorem gridL_length (h wd : Nat) (F : Nat → Nat → Int) : (gridL h wd F).length = h := by simp [gridL]
theorem rowAt_gridL {h wd : Nat} {F : Nat → Nat → Int} {y : Nat} (hy : y < h) : rowAt (gridL h wd F) y = (List.range wd).map fun x => F y x := by simp [rowAt, gridL, hy]
theorem row_gridL_length {h wd : Nat} {F : Nat → Nat → Int} {y : Nat} (hy : y < h) : (rowAt (gridL h wd F) y).length = wd := by rw [rowAt_gridL hy]; simp
theorem g2_gridL {h wd : Nat} {F : Nat → Nat → Int} {y x : Nat} (hy : y < h) (hx : x < wd) : g2 (gridL h wd F) y x = F y x := by
  unfold g2
  rw [rowAt_gridL hy]
  simp [gt, hx]
theorem gridL_congr {h wd : Nat} {F G : Nat → Nat → Int} (hfg : ∀ y x, y < h → x < wd → F y x = G y x) : gridL h wd F = gridL h wd G := by
  unfold gridL
  exact List.map_congr_left fun y hy => List.map_congr_left fun x hx => hfg y x (List.mem_range.1 hy) (List.mem_range.1 hx)
theorem grid_eq {rows : List (List Int)} {h wd : Nat} {lo hi : Int} (hg : Grid rows h wd lo hi) : rows = gridL h wd (g2 rows) := by
  apply List.ext_getElem
  · rw [gridL_length]; exact hg.len
  · intro y h1 h2
    have hy : y < h := by have := hg.len; omega
    rw [← rowAt_getElem h1, ← rowAt_getElem h2, rowAt_gridL hy]
    refine ext_gt (by rw [hg.row y hy]; simp) fun x hx => ?_
    rw [hg.row y hy] at hx
    simp [g2, gt, hx]
/-- one number of a grid is another. -/
def upd (F : Nat → Nat → Int) (y x : Nat) (z : Int) : Nat → Nat → Int := fun y' x' => if y' = y ∧ x' = x then z else F y' x'
theorem gridL_set {h wd : Nat} {F : Nat → Nat → Int} {y x : Nat} (hy : y < h) (z : Int) : (gridL h wd F).set y ((rowAt (gridL h wd F) y).set x z) = gridL h wd (upd F y x z) := by
  apply List.ext_getElem
  · simp [gridL]
  · intro y' h1 h2
    have hy' : y' < h := by simpa [gridL] using h2
    by_cases e : y' = y
    · subst e
      rw [List.getElem_set_self, ← rowAt_getElem h2, rowAt_gridL hy, rowAt_gridL hy]
      apply List.ext_getElem
      · simp
      · intro x' h3 h4
        by_cases e : x' = x
        · subst e; simp [upd]
        · simp [upd, e, Ne.symm e]
    · rw [List.getElem_set_ne (Ne.symm e), ← rowAt_getElem (by simpa [gridL] using hy'), ← rowAt_getElem h2, rowAt_gridL hy', rowAt_gridL hy']
      exact List.map_congr_left fun x' _ => by simp [upd, e]
/-- Rows of the program's own that all have wd > 0 numbers: row y, and what a store into it makes. -/
theorem OwM.row {w : World} {B : Nat} {gv cv n : Nat} {rows : List (List Int)} (h : OwMN w B (.slice (some ⟨gv, 0, none⟩) n cv) n rows) {y : Nat} (hy : y < n) (h0 : 0 < (rowAt rows y).length) :
    ∃ g c, w.cell? ⟨gv, y, none⟩ = some (.slice (some ⟨g, 0, none⟩) (rowAt rows y).length c) ∧ B ≤ g ∧ g < w.heap.size ∧ (∀ x, x < (rowAt rows y).length → w.cell? ⟨g, x, none⟩ = some (.int .i64 (gt (rowAt rows y) x))) ∧ (∀ x, w.frozen? ⟨g, x, none⟩ = false) ∧
      ∀ x z, OwMN (w.setCell ⟨g, x, none⟩ (.int .i64 z)) B (.slice (some ⟨gv, 0, none⟩) n cv) n (rows.set y ((rowAt rows y).set x z)) := by
  obtain ⟨hl, rs, h1, h2, h3, h4⟩ := h
  have hrl : rs.length = n := by have := h1.1; simpa using this
  have hyo := h2 y hy
  rcases hyo.form with ⟨e, e0⟩ | ⟨g, c, e, hB, hg, _, _⟩
  · rw [e0] at h0; simp at h0
  · refine ⟨g, c, ?_, hB, hg, fun x hx => ?_, fun x => ?_, fun x z => ?_⟩
    · rw [← e]
      exact (World.ownsRow.cellAt h1 y (by omega)).trans (vAt_some (by omega))
    · have ho := hyo
      rw [e] at ho
      exact OwN.cellAt (n := (rowAt rows y).length) ho hx
    · have ho := hyo
      rw [e] at ho
      exact OwN.frozenAt (n := (rowAt rows y).length) ho x
    · have ho := hyo
      rw [e] at ho
      have hst := OwN.stored (n := (rowAt rows y).length) ho x z
      have hob : (vAt rs y).ownBlock = some g := by rw [e]; rfl
      refine ⟨by rw [List.length_set]; exact hl, rs, World.ownsRow.kept h1 hst.2 ?_, fun i hi => ?_, h3, h4⟩
      · have := (h3 y hy).symm.ne
        rwa [hob] at this
      · by_cases e1 : i = y
        · subst e1
          rw [rowAt_set_same (by omega), e]
          have := hst.1.toI
          exact this
        · rw [rowAt_set_other e1]
          refine (h2 i hi).kept hst.2 ?_
          have hap : Apart (vAt rs i) (vAt rs y) := by
            rcases Nat.lt_or_ge i y with h | h
            · exact h4 i y h hy
            · exact (h4 y i (by omega) hi).symm
          have := hap.ne
          rwa [hob] at this
theorem OwM.open_ {w : World} {B : Nat} {v : Value} {rows : List (List Int)} (h : OwM w B v rows) (h0 : 0 < rows.length) : ∃ gv cv, v = .slice (some ⟨gv, 0, none⟩) rows.length cv := by
  obtain ⟨_, rs, h1, _⟩ := h
  rcases owns_form h1 with ⟨_, he⟩ | ⟨g, cap, rfl, _⟩
  · omega
  · exact ⟨g, cap, rfl⟩

/-- rows of the program's own stay when a block outside theirs changes. -/
theorem OwMH.keptG {w w' : World} {B H : Nat} {v : Value} {rows : List (List Int)} {row : Option Nat} (h : OwMH w B H v rows) (hg : w.grownBy w' row) (hr : ∀ g, row = some g → g < B ∨ H ≤ g) : OwMH w' B H v rows := by
  obtain ⟨rs, h1, h2, h3, h4, h5, h6⟩ := h
  refine ⟨rs, owns_block h1 fun g e => ?_, fun i hi => owns_block (h2 i hi) fun g e => ?_, h3, h4, h5, h6⟩
  · have e1 := World.ownsRow.lt h1 g e
    have e2 := h5 g e
    exact hg.block g e1.2 fun e3 => by have := hr g e3.symm; omega
  · have e1 := own_lt (h2 i hi) e
    have e2 := h6 i hi g e
    exact hg.block g e1.2 fun e3 => by have := hr g e3.symm; omega
theorem OwM.keptG {w w' : World} {B : Nat} {v : Value} {rows : List (List Int)} {g : Nat} (h : OwM w B v rows) (hg : w.grownBy w' (some g)) (hr : g < B) : OwM w' B v rows :=
  (h.toH.keptG hg (fun g' e => by injection e with e; exact .inl (by omega))).toM
/-- append of one row, in a block from H on, to rows of the program's own below H. -/
theorem wpList_pushMH {ops : Array Oper} {rest : List Oper} {o : Oper} {a : Act} {Q : Exit → Act → World → Prop} (hgd : o.guard = none) (s x : Operand)
    (ho : o.op = .call { callee := .builtin .append, args := #[s, x], argTypes := #[27, 27] })
    (w : World) (B H : Nat) (v : Value) (rows : List (List Int)) (r : Value) (zs : List Int) (hs : a.eval s = v) (hx : a.eval x = .slice (some ⟨w.heap.size, 0, none⟩) 1 1)
    (hown : OwMH w B H v rows) (hr : OwI w H r zs) (hl : rows.length ≤ 16777216) (hBH : B ≤ H) (hB : B ≤ w.heap.size)
    (h : ∀ v' w', OwM w' B v' (rows ++ [zs]) → w.grownBy w' v.ownBlock → wpList Try.prog ops Q rest (a.put o.dst v') w') :
    wpList Try.prog ops Q (o :: rest) a (w.alloc (.cells #[r] 22)) := by
  obtain ⟨i0, hi, hz0, hz1, hz2⟩ := info_parts rowsInfo
  obtain ⟨rs, h1, h2, h3, h4, h5v, h6r⟩ := hown
  have hrl : rs.length = rows.length := by have := h1.1; simpa using this
  refine wpList_append_own_at (P := Try.prog) (w.alloc (.cells #[r] 22)) hgd s x 27 ho B 22 i0 (.slice none 0 0) 1 24 Try.underlying27 hi hz0 hz1 hz2 rfl (by decide) v rows.length rs hs (World.ownsRow.alloc h1 _) ⟨w.heap.size, 0, none⟩ 1 1 [r] hx rfl (cell_one_new _ _ _) ?_ ?_ ?_ ?_ ?_
  · intro u hu; simp at hu; subst hu; exact hr.oneCell
  · unfold maxLen; omega
  · omega
  · simp; omega
  · intro v' w' hown' hg _ hat
    have hat' : v'.ownBlock = v.ownBlock ∨ v'.ownBlock = some (w.heap.size + 1) := by
      rcases hat with e | e
      · exact .inl e
      · exact .inr (by rw [e]; simp)
    have hrv : Apart r v := fun g h5 h6 => by
      have := (own_lt hr h5).1
      have := h5v g h6
      omega
    have hrj : ∀ j, j < rows.length → Apart r (vAt rs j) := fun j hj g h5 h6 => by
      have := (own_lt hr h5).1
      have := h6r j hj g h6
      omega
    have keep : ∀ {u : Value} {ys : List Int} {B' : Nat}, OwI w B' u ys → Apart u v → OwI w' B' u ys := fun ho ha => (own_alloc ho _).kept hg ha.ne
    have apv : ∀ {u : Value} {ys : List Int} {B' : Nat}, OwI w B' u ys → Apart u v → Apart u v' := fun ho ha g h5 h6 => by
      rcases hat' with e | e
      · exact ha g h5 (e.symm.trans h6)
      · rw [e] at h6
        injection h6 with h6
        have := (own_lt ho h5).2
        omega
    refine h v' w' ⟨rfl, rs ++ [r], by rw [List.length_append]; exact hown', fun i hi => ?_, fun i hi => ?_, fun i j hij hj => ?_⟩ (grownBy_of_alloc hg)
    · rw [List.length_append, List.length_singleton] at hi
      rcases Nat.lt_or_ge i rows.length with h5 | h5
      · rw [vAt_snoc_lt (by omega), rowAt_snoc_lt h5]
        exact keep (h2 i h5) (h3 i h5)
      · rw [vAt_snoc_eq (by omega), rowAt_snoc_eq (by omega)]
        exact (keep hr hrv).mono hBH
    · rw [List.length_append, List.length_singleton] at hi
      rcases Nat.lt_or_ge i rows.length with h5 | h5
      · rw [vAt_snoc_lt (by omega)]
        exact apv (h2 i h5) (h3 i h5)
      · rw [vAt_snoc_eq (by omega)]
        exact apv hr hrv
    · rw [List.length_append, List.length_singleton] at hj
      rcases Nat.lt_or_ge j rows.length with h5 | h5
      · rw [vAt_snoc_lt (by omega), vAt_snoc_lt (by omega)]
        exact h4 i j hij h5
      · rw [vAt_snoc_lt (by omega), vAt_snoc_eq (by omega)]
        exact (hrj i (by omega)).symm
theorem OwMN.open_ {w : World} {B n : Nat} {v : Value} {rows : List (List Int)} (h : OwMN w B v n rows) (h0 : 0 < n) : ∃ gv cv, v = .slice (some ⟨gv, 0, none⟩) n cv ∧ B ≤ gv := by
  obtain ⟨_, rs, h1, _⟩ := h
  rcases owns_form h1 with ⟨_, he⟩ | ⟨g, cap, rfl, hB, _⟩
  · omega
  · exact ⟨g, cap, rfl, hB⟩
theorem OwM.toN {w : World} {B n : Nat} {v : Value} {rows : List (List Int)} (h : OwM w B v rows) (hn : rows.length = n) : OwMN w B v n rows := by subst hn; exact h
theorem OwMN.keptG {w w' : World} {B n : Nat} {v : Value} {rows : List (List Int)} {g : Nat} (h : OwMN w B v n rows) (hg : w.grownBy w' (some g)) (hr : g < B) : OwMN w' B v n rows :=
  (OwM.keptG h.toM hg hr).toN h.1
theorem OwMN.at_ {w : World} {B gv cv n : Nat} {rows : List (List Int)} (h : OwMN w B (.slice (some ⟨gv, 0, none⟩) n cv) n rows) {y : Nat} (hy : y < n) : ∃ r, w.cell? ⟨gv, y, none⟩ = some r ∧ OwI w B r (rowAt rows y) := by
  obtain ⟨hl, rs, h1, h2, h3, h4⟩ := h
  have hrl : rs.length = n := by have := h1.1; simpa using this
  exact ⟨_, (World.ownsRow.cellAt h1 y (by omega)).trans (vAt_some (by omega)), h2 y hy⟩

set_option maxHeartbeats 1000000 in
theorem same_yes (v u : Value) (zs : List Int) (w : World) (h : RdI w v zs) (h' : RdI w u zs) (hl : zs.length ≤ 1048576) : Calls Try.prog 31 #[v, u] w fun e w' => e = .returned (.bool true) ∧ Nx w w' := by
  obtain ⟨A, c, rfl, hx⟩ := h
  obtain ⟨A', c', rfl, hx'⟩ := h'
  have Hx := hide hx
  have Hx' := hide hx'
  clear hx hx'
  go_enter Try.func31, Try.ntmps31
  go_wp2_with fail
  go_loopw [5] (fun i wr => ∃ k : Nat, k ≤ zs.length ∧ i = .int .i64 k ∧ Nx w wr) (fun i _ => zs.length - (intOf i).toNat)
  case atStart => exact ⟨0, Nat.zero_le _, rfl, Below.refl _ _⟩
  case round =>
    obtain ⟨k, hk, rfl, hb⟩ := hrel
    by_cases hlt : k < zs.length
    · obtain ⟨b0, off, rfl, hb0, hc⟩ := Hx.out (by omega)
      obtain ⟨b1, off1, rfl, hb1, hc1⟩ := Hx'.out (by omega)
      have q1 := (hb.cells b0 (off + k) hb0).trans (hc k hlt)
      have q2 := (hb.cells b1 (off1 + k) hb1).trans (hc1 k hlt)
      have hk1 : (k : Int) < (zs.length : Int) := by omega
      have HB := hide hb
      clear hc hc1 hb
      go_wp2_with fail
      go_quiet (fail)
      go_wp2
      go_roundw
      case rel => exact ⟨k + 1, by omega, by go_num, Nx.drewN HB.out _⟩
      case measure => simp [intOf]; omega
    · obtain rfl : k = zs.length := by omega
      go_wp2_with fail
      go_ret
      exact ⟨rfl, hb⟩

/-- distances of a drawn map. -/
def FOk (F : Nat → Nat → Int) (n : Nat) : Prop := (∀ i k, i < n → k < n → 0 ≤ F i k ∧ F i k ≤ 30 ∧ F i k = F k i) ∧ ∀ i, i < n → F i i = 0
theorem FOk.zero (n : Nat) : FOk (fun _ _ => 0) n := ⟨fun _ _ _ _ => by simp, fun _ _ => rfl⟩
theorem FOk.two {F : Nat → Nat → Int} {n i k : Nat} {x : Int} (h : FOk F n) (hik : k < i) (hx : 0 ≤ x ∧ x ≤ 30) : FOk (upd (upd F i k x) k i x) n := by
  refine ⟨fun a b ha hb => ?_, fun a ha => ?_⟩
  · have h1 := h.1 a b ha hb
    unfold upd
    by_cases e1 : a = k ∧ b = i
    · obtain ⟨rfl, rfl⟩ := e1
      rw [if_pos ⟨rfl, rfl⟩, if_neg (by omega), if_pos ⟨rfl, rfl⟩]
      omega
    · rw [if_neg e1]
      by_cases e2 : a = i ∧ b = k
      · obtain ⟨rfl, rfl⟩ := e2
        rw [if_pos ⟨rfl, rfl⟩, if_pos ⟨rfl, rfl⟩]
        omega
      · rw [if_neg e2, if_neg (fun h => e2 ⟨h.2, h.1⟩), if_neg (fun h => e1 ⟨h.2, h.1⟩)]
        exact h1
  · unfold upd
    rw [if_neg (by omega), if_neg (by omega)]
    exact h.2 a ha
theorem FOk.map {F : Nat → Nat → Int} {n : Nat} (h : FOk F n) (h1 : 2 ≤ n) (h2 : n ≤ 7) : mapOk (gridL n n F) = true := by
  refine mapOk_iff.2 ⟨?_, fun i hi => ?_, fun i k hi hk => ?_⟩
  · rw [gridL_length]; exact inR_iff.2 (by omega)
  · rw [gridL_length] at hi ⊢
    exact row_gridL_length hi
  · rw [gridL_length] at hi hk
    rw [g2_gridL hi hk, g2_gridL hk hi]
    have := h.1 i k hi hk
    refine ⟨inR_iff.2 (by omega), this.2.2, ?_⟩
    rintro rfl
    exact h.2 i hi
theorem gridL_succ (k n : Nat) (F : Nat → Nat → Int) : gridL k n F ++ [(List.range n).map fun x => F k x] = gridL (k + 1) n F := by simp [gridL, List.range_succ]
theorem zeros_eq (n : Nat) : (madeCells #[Value.int .i64 0] n).toList = ((List.range n).map fun _ => (0 : Int)).map (Value.int .i64) := by
  rw [toList_madeCells_one]
  simp [List.map_const']
set_option maxHeartbeats 4000000 in
theorem l23Map_any (w0 : World) (v : Value) (zs : List Int) (g : Nat) (w : World) (hr : RdB w0 v zs) (hl : zs.length ≤ 1048576) (hb : Nx w0 w) (hc : Cur w0 w g v zs.length) :
    Calls Try.prog 41 #[.pointer (some ⟨g, 0, none⟩)] w fun e w' => ∃ u rows, e = .returned u ∧ OwM w' w.heap.size u rows ∧ mapOk rows = true ∧ rows.length ≤ 5 ∧ Nx w0 w' := by
  have hgl := hc.lt
  have hbs := hb.size
  obtain ⟨i0, hi, hz0, hz1, hz2⟩ := info_parts intInfo
  go_enter Try.func41, Try.ntmps41
  go_wp2_with (go_at_call 47; fail)
  refine (l01Below_any w0 v zs g 4 _ hr hl hb hc (by omega) (by omega)).mono ?_
  rintro e w1 ⟨x, rfl, hx, hc1, hg1⟩
  have hb1 := hb.grownAt hg1 (by obtain ⟨h, _⟩ := hc; exact h)
  have hsz1 := hg1.size
  obtain ⟨n, hn⟩ := Int.eq_ofNat_of_zero_le (show 0 ≤ 2 + x by omega)
  have hn2 : 2 ≤ n ∧ n ≤ 5 := by omega
  have ho1 := OwM.made0 w1
  have HC := hide (hc1.below (Nx.made w1 (.cells #[] 22)))
  have HB := hide (hb1.trans (Nx.made w1 (.cells #[] 22)))
  have HO := hide (ho1.mono hsz1)
  have HI := hide (And.intro hi (And.intro hz0 (And.intro hz1 hz2)))
  clear hc hc1 hb hb1 hg1 ho1 hi hz0 hz1 hz2
  go_wp2_with fail
  clear hn hx
  go_loopw [4, 5] (fun u i wr => ∃ k : Nat, k ≤ n ∧ i = .int .i64 k ∧ OwM wr w.heap.size u (gridL k n (fun _ _ => 0)) ∧ Cur w0 wr g v zs.length ∧ Nx w0 wr ∧ w.heap.size ≤ wr.heap.size) (fun _ i _ => n - (intOf i).toNat)
  case atStart => exact ⟨0, Nat.zero_le _, rfl, HO.out, HC.out, HB.out, by simp; omega⟩
  case round =>
    clear HO HC HB
    obtain ⟨k, hk, rfl, hown, hc, hb, hsz⟩ := hrel
    have HO := hide hown
    have HC := hide hc
    have HB := hide hb
    clear hown hc hb
    by_cases hlt : k < n
    · have hli : (k : Int) < (n : Int) := by omega
      obtain ⟨hi, hz0, hz1, hz2⟩ := HI.out
      go_wp2_with (at_make; refine wpList_make_full _ rfl _ _ 22 rfl wr.heap.size 3 i0 (.int .i64 0) 1 Try.underlying22 hi hz0 hz1 .i64 .i64 _ _ n rfl rfl rfl rfl ?c1 ?c2 ?c3 ?_)
      case c1 => rw [hz2]; omega
      case c2 => unfold maxLen; omega
      case c3 => exact Nat.le_refl _
      intro w2 hown2 hg2
      rw [zeros_eq] at hown2
      have hb2 : Nx wr w2 := (Below.refl _ _).grown hg2 (Nat.le_refl _) (by intro k hk; cases hk)
      have hO2 : OwI w2 wr.heap.size (.slice (some ⟨wr.heap.size, 0, none⟩) n n) ((List.range n).map fun _ => (0 : Int)) := by
        have := OwN.toI (n := n) (zs := (List.range n).map fun _ => (0 : Int)) hown2
        simpa using this
      have hM2 := HO.out.toH.below hb2
      have hz2' := hb2.size
      have HC2 := hide (HC.out.below hb2)
      have HB2 := hide (HB.out.trans hb2)
      have HO2 := hide hO2
      have HM2 := hide hM2
      clear hi hz0 hz1 hz2 hown2 hg2 hb2 hO2 hM2 HO HC HB
      go_wp2_with (at_builtin; refine wpList_pushMH rfl (.tmp 18) (.tmp 21) rfl w2 w.heap.size wr.heap.size _ (gridL k n (fun _ _ => 0)) _ ((List.range n).map fun _ => (0 : Int)) rfl rfl HM2.out HO2.out (by rw [gridL_length]; omega) hsz (by omega) ?_; intro v3 w3 hown3 hg3)
      have R := hide (show OwM w3 w.heap.size v3 (gridL (k + 1) n fun _ _ => 0) from by rw [← gridL_succ]; exact hown3)
      have Rc := hide (HC2.out.kept hg3 (fun e => by have := OwM.base HM2.out.toM g e.symm; omega))
      have Rb := hide (show Nx w0 w3 from Below.grown HB2.out hg3 HB2.out.size (fun k hk => Nat.le_trans hbs (OwM.base HM2.out.toM k hk)))
      have hsz3 := hg3.size
      clear hown3 hg3 HC2 HB2 HO2 HM2
      go_roundw
      case rel => exact ⟨k + 1, by omega, by go_num, R.out, Rc.out, Rb.out, by omega⟩
      case measure => simp [intOf]; omega
    · obtain rfl : k = n := by omega
      have ho := HO.out.toN (gridL_length _ _ _)
      obtain ⟨gv, cv, rfl, hgv⟩ := ho.open_ (by omega)
      have HO1 := hide ho
      have Hk0 := hide (FOk.zero k)
      clear ho HO HI
      go_wp2_with fail
      go_loopw [6] (fun i wr => ∃ (a : Nat) (F : Nat → Nat → Int), a ≤ k ∧ i = .int .i64 a ∧ OwMN wr w.heap.size (.slice (some ⟨gv, 0, none⟩) k cv) k (gridL k k F) ∧ Hid (FOk F k) ∧ Cur w0 wr g v zs.length ∧ Nx w0 wr) (fun i _ => k - (intOf i).toNat)
      case atStart => exact ⟨0, _, Nat.zero_le _, rfl, HO1.out, Hk0.out, HC.out, HB.out⟩
      case round =>
        clear HO1 Hk0 HC HB
        obtain ⟨a, F, ha, rfl, hown, hF, hc, hb⟩ := hrel
        have HO := hide hown
        have HC := hide hc
        have HB := hide hb
        clear hown hc hb
        by_cases hlt : a < k
        · have hli : (a : Int) < (k : Int) := by omega
          go_wp2_with fail
          go_loopw [7] (fun i wr => ∃ (b : Nat) (F : Nat → Nat → Int), b ≤ a ∧ i = .int .i64 b ∧ OwMN wr w.heap.size (.slice (some ⟨gv, 0, none⟩) k cv) k (gridL k k F) ∧ Hid (FOk F k) ∧ Cur w0 wr g v zs.length ∧ Nx w0 wr) (fun i _ => a - (intOf i).toNat)
          case atStart => exact ⟨0, _, Nat.zero_le _, rfl, HO.out, hF.out, HC.out, HB.out⟩
          case round =>
            clear HO HC HB hF
            obtain ⟨b, F, hb', rfl, hown, hF, hc, hb⟩ := hrel
            have HO := hide hown
            have HC := hide hc
            have HB := hide hb
            clear hown hc hb
            by_cases hlb : b < a
            · have hlbi : (b : Int) < (a : Int) := by omega
              have hbk : (b : Int) < (k : Int) := by omega
              go_wp2_with (go_at_call 47; fail)
              refine (l01Below_any w0 v zs g 30 _ hr hl HB.out HC.out (by omega) (by omega)).mono ?_
              rintro e w4 ⟨y, rfl, hy, hc4, hg4⟩
              have ho4 := HO.out.keptG hg4 hgl
              have hb4 := HB.out.grownAt hg4 (by obtain ⟨h, _⟩ := hc4; exact h)
              obtain ⟨g5, c5, k1, k2, k3, k4, k5, k6⟩ := OwM.row ho4 hlt (by rw [row_gridL_length hlt]; omega)
              have ho5 := k6 b (1 + y)
              rw [row_gridL_length hlt] at k1 k4
              rw [gridL_set hlt] at ho5
              have k4' := k4 b (by omega)
              obtain ⟨g6, c6, m1, m2, m3, m4, m5, m6⟩ := OwM.row ho5 (show b < k by omega) (by rw [row_gridL_length (by omega)]; omega)
              have ho6 := m6 a (1 + y)
              rw [row_gridL_length (show b < k by omega)] at m1 m4
              rw [gridL_set (show b < k by omega)] at ho6
              have m4' := m4 a (by omega)
              have HF := hide (hF.out.two (x := 1 + y) hlb (by omega))
              have HO6 := hide ho6
              have Gk := hide (And.intro (hc4.kept (grown_set w4 g5 b (.int .i64 (1 + y))) (fun e => by injection e with e; omega)) (hb4.grownAt (grown_set w4 g5 b (.int .i64 (1 + y))) (by omega)))
              have Gm := hide (And.intro (Gk.out.1.kept (grown_set _ g6 a (.int .i64 (1 + y))) (fun e => by injection e with e; omega)) (Gk.out.2.grownAt (grown_set _ g6 a (.int .i64 (1 + y))) (by omega)))
              have k5' := k5 b
              have m5' := m5 a
              clear k4 k5 k6 m4 m5 m6 ho4 ho5 ho6 hb4 hc4 hg4 HO HC HB hF Gk
              go_wp2_with fail
              go_roundw
              case rel => exact ⟨b + 1, _, by omega, by go_num, HO6.out, HF.out, Gm.out.1, Gm.out.2⟩
              case measure => simp [intOf]; omega
            · obtain rfl : b = a := by omega
              go_wp2_with fail
              go_roundw
              case rel => exact ⟨b + 1, F, by omega, by go_num, HO.out, hF.out, HC.out, HB.out⟩
              case measure => simp [intOf]; omega
        · obtain rfl : a = k := by omega
          have HM := hide (hF.out.map (by omega) (by omega))
          go_wp2_with fail
          go_ret
          exact ⟨_, _, rfl, HO.out.toM, HM.out, by rw [gridL_length]; omega, HB.out⟩
set_option maxHeartbeats 1000000 in
theorem DrawMap_any (v : Value) (zs : List Int) (w : World) (hr : RdB w v zs) (hl : zs.length ≤ 1048576) :
    Calls Try.prog 29 #[v] w fun e w' => ∃ u rows, e = .returned u ∧ OwM w' w.heap.size u rows ∧ mapOk rows = true ∧ rows.length ≤ 5 ∧ Nx w w' := by
  go_enter Try.func29, Try.ntmps29
  go_wp2_with (go_at_call 42; fail)
  refine (l01New_any v zs w hr hl).mono ?_
  rintro e w1 ⟨rfl, hc1, hb1⟩
  have hz := hb1.size
  have HC := hide hc1
  have HB := hide hb1
  clear hc1 hb1
  go_wp2_with (go_at_call 41; fail)
  refine (l23Map_any w v zs w.heap.size w1 hr hl HB.out HC.out).mono ?_
  rintro e w2 ⟨u, rows, rfl, ho, hm, hn, hb⟩
  have HO := hide (ho.mono hz)
  have HB2 := hide hb
  have HM := hide hm
  clear ho hb hm
  go_wp2_with fail
  go_ret
  exact ⟨_, _, rfl, HO.out, HM.out, hn, HB2.out⟩

end Go.Proofs.Ytemijekdcifncaa
