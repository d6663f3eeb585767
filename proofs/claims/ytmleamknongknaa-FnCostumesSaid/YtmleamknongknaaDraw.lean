/- The reference s draws. -/
import Derived.Test.YtmleamknongknaaShP
import Derived.Test.YtmleamknongknaaPut
import Derived.WalkKit
import Derived.ProofKit
import Derived.Handy
import Derived.OpenShut
import Derived.ShutString
import Derived.ChangeOld
import Derived.Below
import Derived.BigQuiet
import Derived.Deep.QuietTactic
import Derived.Deep.Draws
import Derived.Deep.DeepCutAuto
import Derived.Deep.DeepFit
import Derived.Deep.LoopGhost
import Derived.Outline
import Derived.WalkSpells
import Derived.WalkLawsBesides
import Derived.WalkSmall
import Derived.Laws.OwnMore
import Derived.OneCell
import Derived.Laws.Rows
import Derived.Maps.AppendAt
import Derived.StillTailTactics
import Derived.Lib.SmallJoins
import Derived.Deep.RegionWith
import Derived.Deep.RegionHeld3
import Derived.RegionTactic
import Derived.Deep.Matrix
import Derived.Deep.Fields
import Derived.ChangeSame
namespace Go.Proofs.Ytmleamknongknaa
open Go.RowKit

/-- A slice value that reads as a list of bytes. -/
def RdB (w : World) (v : Value) (zs : List Int) : Prop :=
  ∃ A c, v = .slice A zs.length c ∧ (0 < zs.length → ∃ b off, A = some ⟨b, off, none⟩ ∧ b < w.heap.size ∧ ∀ j, j < zs.length → w.cell? ⟨b, off + j, none⟩ = some (.int .u8 (gt zs j)) ∧ 0 ≤ gt zs j ∧ gt zs j ≤ 255)
theorem RdB.below {w w' : World} {v : Value} {zs : List Int} (h : RdB w v zs) (hb : Nx w w') : RdB w' v zs := by
  obtain ⟨A, c, rfl, hx⟩ := h
  refine ⟨A, c, rfl, fun h0 => ?_⟩
  obtain ⟨b, off, rfl, hlt, hc⟩ := hx h0
  exact ⟨b, off, rfl, Nat.lt_of_lt_of_le hlt hb.size, fun j hj => ⟨(hb.cell (p := ⟨b, off + j, none⟩) hlt).trans (hc j hj).1, (hc j hj).2⟩⟩
theorem u8_of_wf {n : Int} (h : (Lit.int .u8 n).wf = true) : 0 ≤ n ∧ n ≤ 255 := by
  simp [Lit.wf, IntKind.min, IntKind.max, IntKind.signed, IntKind.bits] at h
  omega
theorem isRow_readsB {w : World} {a : Option Addr} {len cap : Nat} {zs : List Int} (h : IsRow .u8 w a len cap zs) :
    ∃ ys, RdB w (.slice a len cap) ys ∧ ys.length ≤ maxLen := by
  rcases h with ⟨rfl, rfl, rfl, rfl⟩ | ⟨x, rfl, hl, hm, hz, hcell, hwz⟩
  · exact ⟨[], ⟨none, 0, rfl, fun h => absurd h (by simp)⟩, by simp⟩
  · have hlen : (zs.take len).length = len := by rw [List.length_take]; omega
    refine ⟨zs.take len, ⟨some x, cap, by rw [hlen], fun h0 => ?_⟩, by rw [hlen]; omega⟩
    rw [hlen] at h0 ⊢
    have hc := hcell 0 (by omega)
    obtain ⟨b, off, spot⟩ := x
    have hspot : spot = none := by simpa [Addr.add] using World.cell?_spot hc
    subst hspot
    refine ⟨b, off, rfl, by simpa [Addr.add] using block_lt_of_cell hc, fun j hj => ?_⟩
    have := hcell j (by omega)
    rw [add_off] at this
    have e : gt (zs.take len) j = zs.getD j 0 := by simp [gt, hj]
    rw [e]
    refine ⟨this, u8_of_wf (hwz _ ?_)⟩
    rw [List.getD_eq_getElem?_getD, List.getElem?_eq_getElem (show j < zs.length by omega)]
    exact List.getElem_mem _
theorem and255 (x : Int) : 0 ≤ bits .and .i64 x 255 ∧ bits .and .i64 x 255 ≤ 255 := by
  have e : bits .and .i64 x 255 = IntKind.i64.wrap ((BitVec.ofInt 64 x &&& BitVec.ofInt 64 255).toNat : Int) := rfl
  have h : (BitVec.ofInt 64 x &&& BitVec.ofInt 64 255).toNat ≤ 255 := by
    rw [BitVec.toNat_and]
    have : (BitVec.ofInt 64 255).toNat = 255 := by decide
    rw [this]
    exact Nat.and_le_right
  rw [e, IntKind.wrap_i64]
  omega
/-- A cursor of the reference's draws: a block of its own. -/
def Cur (w0 w : World) (g : Nat) (v : Value) (n : Nat) : Prop := w0.heap.size ≤ g ∧ ∃ (i : Nat) (h : Int), Blk w g 57 #[v, .int .i64 (i : Int), .int .i64 h] ∧ i ≤ n
theorem Cur.below {w0 w w' : World} {g n : Nat} {v : Value} (h : Cur w0 w g v n) (hb : Nx w w') : Cur w0 w' g v n := by
  obtain ⟨h0, i, x, hB, hi⟩ := h
  exact ⟨h0, i, x, hB.below hb, hi⟩
theorem Cur.kept {w0 w w' : World} {g n : Nat} {v : Value} {row : Option Nat} (h : Cur w0 w g v n) (hb : w.grownBy w' row) (hne : some g ≠ row) : Cur w0 w' g v n := by
  obtain ⟨h0, i, x, hB, hi⟩ := h
  exact ⟨h0, i, x, hB.grown hb hne, hi⟩
theorem Cur.lt {w0 w : World} {g n : Nat} {v : Value} (h : Cur w0 w g v n) : g < w.heap.size := by
  obtain ⟨h0, i, x, hB, hi⟩ := h
  exact hB.lt
theorem blk_ne {w : World} {g g' : Nat} {t t' : TypeId} {cs cs' : Array Value} (h : Blk w g t cs) (h' : Blk w g' t' cs') (hne : t ≠ t') : g ≠ g' := by
  rintro rfl
  unfold Blk at h h'
  rw [h] at h'
  injection h' with h'
  injection h' with _ ht
  exact hne ht
/-- a row of the program's own and a cursor never share a block. -/
theorem Cur.row {w0 w : World} {g n : Nat} {v : Value} (h : Cur w0 w g v n) {B m : Nat} {e : TypeId} {sz : Nat} {u : Value} {xs : List Value} (ho : w.ownsRow B e sz u m xs) (hne : e ≠ 57) : u.ownBlock ≠ some g := by
  obtain ⟨h0, i, x, hB, hi⟩ := h
  rcases ho.2 with ⟨rfl, _⟩ | ⟨g', cap, cur, rfl, _, hh, _⟩
  · simp [Value.ownBlock]
  · intro he
    have : g' = g := by simpa [Value.ownBlock] using he
    subst this
    exact blk_ne (t := e) hh hB hne rfl
theorem Cur.rowI {w0 w : World} {g n : Nat} {v : Value} (h : Cur w0 w g v n) {B : Nat} {u : Value} {xs : List Int} (ho : OwI w B u xs) : u.ownBlock = none ∨ u.ownBlock ≠ some g := .inr (h.row ho (by decide))
theorem Nx.grownAt {a b c : World} {g : Nat} (h : Nx a b) (hg : b.grownBy c (some g)) (hB : a.heap.size ≤ g) : Nx a c := Below.grown h hg h.size (fun k hk => by injection hk with e; omega)
theorem grown_set (w : World) (g i : Nat) (u : Value) : w.grownBy (w.setCell ⟨g, i, none⟩ u) (some g) :=
  ⟨rfl, rfl, rfl, by simp, fun k _ hne => Below.heap_setCell w ⟨g, i, none⟩ u k (fun e => hne (by rw [e]))⟩
theorem grown_drewN (w : World) (n : Nat) (row : Option Nat) : w.grownBy (w.drewN n) row := ⟨rfl, rfl, rfl, Nat.le_refl _, fun _ _ _ => rfl⟩

set_option maxHeartbeats 1000000 in
theorem l01New_any (v : Value) (zs : List Int) (w : World) (hr : RdB w v zs) (hl : zs.length ≤ 1048576) :
    Calls Try.prog 41 #[v] w fun e w' => e = .returned (.pointer (some ⟨w.heap.size, 0, none⟩)) ∧ Cur w w' w.heap.size v zs.length ∧ Nx w w' := by
  obtain ⟨A, c, rfl, hx⟩ := hr
  go_enter Try.func41, Try.ntmps41
  go_wp2_with fail
  go_loopw [3, 4] (fun h i wr => ∃ (k : Nat) (x : Int), k ≤ zs.length ∧ i = .int .i64 k ∧ h = .int .i64 x ∧ wr = w) (fun _ i _ => zs.length - (intOf i).toNat)
  case atStart => exact ⟨0, _, Nat.zero_le _, rfl, rfl, (by first | trivial | rfl)⟩
  case round =>
    obtain ⟨k, x, hk, rfl, rfl, rfl⟩ := hrel
    by_cases hlt : k < zs.length
    · by_cases h4 : (k : Int) < 4000
      · obtain ⟨b0, off, rfl, hb0, hc⟩ := hx (by omega)
        have hck := (hc k hlt).1
        have hk1 : (k : Int) < (zs.length : Int) := by omega
        clear hc hx
        go_wp2_with fail
        go_roundw
        case rel => exact ⟨k + 1, _, by omega, by go_num, rfl, (by first | trivial | rfl)⟩
        case measure => simp [intOf]; omega
      · have hk1 : (k : Int) < (zs.length : Int) := by omega
        go_wp2_with fail
        go_ret
        exact ⟨rfl, ⟨Nat.le_refl _, 0, _, Blk.new _ _ _, Nat.zero_le _⟩, Nx.made _ _⟩
    · obtain rfl : k = zs.length := by omega
      go_wp2_with fail
      go_ret
      exact ⟨rfl, ⟨Nat.le_refl _, 0, _, Blk.new _ _ _, Nat.zero_le _⟩, Nx.made _ _⟩

set_option maxHeartbeats 2000000 in
theorem l01Byte_any (w0 : World) (v : Value) (zs : List Int) (g : Nat) (w : World) (hr : RdB w0 v zs) (hl : zs.length ≤ 1048576) (hb : Nx w0 w) (hc : Cur w0 w g v zs.length) :
    Calls Try.prog 44 #[.pointer (some ⟨g, 0, none⟩)] w fun e w' => ∃ x, e = .returned (.int .i64 x) ∧ (0 ≤ x ∧ x ≤ 255) ∧ Cur w0 w' g v zs.length ∧ w.grownBy w' (some g) := by
  obtain ⟨hg, i, h, hB, hi⟩ := hc
  obtain ⟨A, c, rfl, hx⟩ := hr
  have c0 : w.cell? ⟨g, 0, none⟩ = some (.slice A zs.length c) := hB.cell 0
  have c1 : w.cell? ⟨g, 1, none⟩ = some (.int .i64 (i : Int)) := hB.cell 1
  have c2 : w.cell? ⟨g, 2, none⟩ = some (.int .i64 h) := hB.cell 2
  have f2 := hB.frozen 2
  have HB := hide hB
  clear hB
  go_enter Try.func44, Try.ntmps44
  go_wp2_with fail
  generalize wrap64 (wrap64 (h * 6364136223846793005) + 1442695040888963407) = h1
  have hB1 : Blk (w.setCell ⟨g, 2, none⟩ (.int .i64 h1)) g 57 #[.slice A zs.length c, .int .i64 (i : Int), .int .i64 h1] := HB.out.set_ 2 (.int .i64 h1)
  have G1 := grown_set w g 2 (.int .i64 h1)
  have hb1 := Nx.grownAt hb G1 hg
  clear c0 c1 c2 f2 HB
  generalize World.setCell _ _ _ = w1 at hB1 G1 hb1 ⊢
  have c0 : w1.cell? ⟨g, 0, none⟩ = some (.slice A zs.length c) := hB1.cell 0
  have c1 : w1.cell? ⟨g, 1, none⟩ = some (.int .i64 (i : Int)) := hB1.cell 1
  have c2 : w1.cell? ⟨g, 2, none⟩ = some (.int .i64 h1) := hB1.cell 2
  have f1 := hB1.frozen 1
  have HB := hide hB1
  have HG := hide G1
  clear hB1 G1
  by_cases hlt : i < zs.length
  · obtain ⟨b0, off, rfl, hb0, hc⟩ := hx (by omega)
    have hck := (hb1.cell (p := ⟨b0, off + i, none⟩) hb0).trans (hc i hlt).1
    have hi1 : (i : Int) < (zs.length : Int) := by omega
    clear hc hx
    go_quiet (fail)
    have hx1 := and255 (bits .xor .i64 (h1 / 8589934592) (h1 / 35184372088832))
    go_wp2_with fail
    generalize bits .and .i64 _ _ = x at hx1 ⊢
    go_quiet (fail)
    go_wp2_with fail
    go_quiet (fail)
    go_wp2_with fail
    go_ret
    exact ⟨_, rfl, and255 _, ⟨hg, i + 1, h1, (HB.out.drewN _).set_ 1 _, by omega⟩, grownBy_trans HG.out (grownBy_trans (grown_drewN _ _ _) (grown_set _ _ _ _))⟩
  · have hi1 : ¬ (i : Int) < (zs.length : Int) := by omega
    clear hx
    go_quiet (fail)
    have hx1 := and255 (bits .xor .i64 (h1 / 8589934592) (h1 / 35184372088832))
    go_wp2_with fail
    generalize bits .and .i64 _ _ = x at hx1 ⊢
    go_quiet (fail)
    go_wp2_with fail
    go_ret
    exact ⟨_, rfl, hx1, ⟨hg, i, h1, (HB.out.drewN _).drewN _, hi⟩, grownBy_trans HG.out (grownBy_trans (grown_drewN _ _ _) (grown_drewN _ _ _))⟩

set_option maxHeartbeats 1000000 in
theorem l01Below_any (w0 : World) (v : Value) (zs : List Int) (g : Nat) (n : Int) (w : World) (hr : RdB w0 v zs) (hl : zs.length ≤ 1048576) (hb : Nx w0 w) (hc : Cur w0 w g v zs.length) (n0 : 1 ≤ n) (n1 : n ≤ 256) :
    Calls Try.prog 42 #[.pointer (some ⟨g, 0, none⟩), .int .i64 n] w fun e w' => ∃ x, e = .returned (.int .i64 x) ∧ (0 ≤ x ∧ x < n) ∧ Cur w0 w' g v zs.length ∧ w.grownBy w' (some g) := by
  go_enter Try.func42, Try.ntmps42
  go_wp2_with (go_at_call 44; fail)
  refine (l01Byte_any w0 v zs g w hr hl hb hc).mono ?_
  rintro e w1 ⟨x, rfl, hx, hc1, hg1⟩
  have HG := hide hg1
  have HC := hide hc1
  clear hc hc1 hg1
  have hm0 : 0 ≤ x % n := Int.emod_nonneg _ (by omega)
  have hm1 : x % n < n := Int.emod_lt_of_pos _ (by omega)
  have hn0 : (n == 0) = false := by simp; omega
  go_wp2_with fail
  go_ret
  exact ⟨_, rfl, ⟨hm0, hm1⟩, HC.out, HG.out⟩

set_option maxHeartbeats 400000 in
theorem big_any (v : Value) (zs : List Int) (w : World) (h : RdB w v zs) : Calls Try.prog 31 #[v] w fun e w' => e = .returned (.bool (decide (1048576 < (zs.length : Int)))) ∧ w = w' := by
  obtain ⟨A, c, rfl, hx⟩ := h
  clear hx
  go_enter Try.func31, Try.ntmps31
  go_wp2
  go_ret
  exact ⟨rfl, rfl⟩
set_option maxHeartbeats 1000000 in
theorem at_any (v : Value) (zs : List Int) (i : Int) (w : World) (h : RdB w v zs) (hl : zs.length ≤ 1048576) (i0 : 0 ≤ i ∧ i ≤ 1000) : Calls Try.prog 35 #[v, .int .i64 i] w fun e w' => ∃ x, e = .returned (.int .i64 x) ∧ (0 ≤ x ∧ x ≤ 255) ∧ w = w' := by
  obtain ⟨A, c, rfl, hx⟩ := h
  by_cases h0 : zs.length = 0
  · have e0 : ((zs.length : Int) == 0) = true := by simp [h0]
    clear hx h0
    go_enter Try.func35, Try.ntmps35
    go_wp2
    go_ret
    exact ⟨0, rfl, by omega, rfl⟩
  · have e0 : ((zs.length : Int) == 0) = false := by simp [h0]
    obtain ⟨b0, off, rfl, hb0, hc⟩ := hx (by omega)
    have hm0 : 0 ≤ (i * 5 + 1) % (zs.length : Int) := Int.emod_nonneg _ (by omega)
    have hm1 : (i * 5 + 1) % (zs.length : Int) < (zs.length : Int) := Int.emod_lt_of_pos _ (by omega)
    have hq : ((i * 5 + 1) % (zs.length : Int)).toNat < zs.length := by omega
    have hck := (hc _ hq).1
    have hbd := (hc _ hq).2
    clear hc hx h0 hq
    generalize gt zs ((i * 5 + 1) % (zs.length : Int)).toNat = y at hck hbd
    have hl1 : (zs.length : Int) ≤ 1048576 := by omega
    have hl0 : 0 < (zs.length : Int) := by omega
    go_enter Try.func35, Try.ntmps35
    go_wp2_with fail
    go_ret
    exact ⟨_, rfl, hbd, rfl⟩

end Go.Proofs.Ytmleamknongknaa
