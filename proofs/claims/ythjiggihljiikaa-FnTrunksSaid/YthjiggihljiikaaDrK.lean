/- Drawn boxes. -/
import Derived.Test.YthjiggihljiikaaFfP
import Derived.WalkKit
import Derived.ProofKit
import Derived.Handy
import Derived.OpenShut
import Derived.ShutString
import Derived.ChangeOld
import Derived.Below
import Derived.BigQuiet
import Derived.Deep.QuietTactic
import Derived.Deep.Draws
import Derived.Deep.DeepCutAuto
import Derived.Deep.DeepFit
import Derived.Deep.LoopGhost
import Derived.Outline
import Derived.WalkSpells
import Derived.WalkLawsBesides
import Derived.WalkSmall
import Derived.Laws.OwnMore
import Derived.OneCell
import Derived.Laws.Rows
import Derived.Maps.AppendAt
import Derived.StillTailTactics
import Derived.Lib.SmallJoins
import Derived.Deep.RegionWith
import Derived.Deep.RegionHeld3
import Derived.RegionTactic
import Derived.Deep.Matrix
import Derived.Deep.Fields
import Derived.ChangeSame
namespace Go.Proofs.Ythjiggihljiikaa
open Go.RowKit

/-- A block that is known whole. -/
def Blk (w : World) (g : Nat) (t : TypeId) (cs : Array Value) : Prop := w.heap[g]? = some (.cells cs t (0, 0))
theorem Blk.lt {w : World} {g : Nat} {t : TypeId} {cs : Array Value} (h : Blk w g t cs) : g < w.heap.size := lt_of_block h
theorem Blk.cell {w : World} {g : Nat} {t : TypeId} {cs : Array Value} (h : Blk w g t cs) (i : Nat) : w.cell? ⟨g, i, none⟩ = cs[i]? := cell_of_row w g i cs t (0, 0) h
theorem Blk.frozen {w : World} {g : Nat} {t : TypeId} {cs : Array Value} (h : Blk w g t cs) (i : Nat) : w.frozen? ⟨g, i, none⟩ = false := by
  unfold Blk at h
  simp [World.frozen?, h]
theorem Blk.new (w : World) (t : TypeId) (cs : Array Value) : Blk (w.alloc (.cells cs t)) w.heap.size t cs := heap_alloc_new w _
theorem Blk.drew {w : World} {g : Nat} {t : TypeId} {cs : Array Value} (h : Blk w g t cs) : Blk w.drew g t cs := h
theorem Blk.drewN {w : World} {g : Nat} {t : TypeId} {cs : Array Value} (h : Blk w g t cs) (n : Nat) : Blk (w.drewN n) g t cs := h
theorem Blk.alloc {w : World} {g : Nat} {t : TypeId} {cs : Array Value} (h : Blk w g t cs) (o : Obj) : Blk (w.alloc o) g t cs := (Below.heap_alloc w o g h.lt).trans h
theorem Blk.set_ {w : World} {g : Nat} {t : TypeId} {cs : Array Value} (h : Blk w g t cs) (i : Nat) (u : Value) : Blk (w.setCell ⟨g, i, none⟩ u) g t (cs.setIfInBounds i u) := by
  unfold Blk at h ⊢
  simp [World.setCell, Array.getElem?_modify, h]
theorem Blk.far {w : World} {g : Nat} {t : TypeId} {cs : Array Value} (h : Blk w g t cs) {p : Addr} (hp : g ≠ p.block) (u : Value) : Blk (w.setCell p u) g t cs := (Below.heap_setCell w p u g hp).trans h
theorem Blk.below {w w' : World} {g : Nat} {t : TypeId} {cs : Array Value} (h : Blk w g t cs) (hb : Nx w w') : Blk w' g t cs := (hb.block g h.lt).trans h
theorem Blk.grown {w w' : World} {g : Nat} {t : TypeId} {cs : Array Value} {row : Option Nat} (h : Blk w g t cs) (hb : w.grownBy w' row) (hg : some g ≠ row) : Blk w' g t cs := (hb.block g h.lt hg).trans h

/-- A slice value that reads as a list of bytes. -/
def RdB (w : World) (v : Value) (zs : List Int) : Prop :=
  ∃ A c, v = .slice A zs.length c ∧ (0 < zs.length → ∃ b off, A = some ⟨b, off, none⟩ ∧ b < w.heap.size ∧ ∀ j, j < zs.length → w.cell? ⟨b, off + j, none⟩ = some (.int .u8 (gt zs j)) ∧ 0 ≤ gt zs j ∧ gt zs j ≤ 255)
theorem RdB.below {w w' : World} {v : Value} {zs : List Int} (h : RdB w v zs) (hb : Nx w w') : RdB w' v zs := by
  obtain ⟨A, c, rfl, hx⟩ := h
  refine ⟨A, c, rfl, fun h0 => ?_⟩
  obtain ⟨b, off, rfl, hlt, hc⟩ := hx h0
  exact ⟨b, off, rfl, Nat.lt_of_lt_of_le hlt hb.size, fun j hj => ⟨(hb.cell (p := ⟨b, off + j, none⟩) hlt).trans (hc j hj).1, (hc j hj).2⟩⟩
theorem u8_of_wf {n : Int} (h : (Lit.int .u8 n).wf = true) : 0 ≤ n ∧ n ≤ 255 := by
  simp [Lit.wf, IntKind.min, IntKind.max, IntKind.signed, IntKind.bits] at h
  omega
theorem isRow_readsB {w : World} {a : Option Addr} {len cap : Nat} {zs : List Int} (h : IsRow .u8 w a len cap zs) :
    ∃ ys, RdB w (.slice a len cap) ys ∧ ys.length ≤ maxLen := by
  rcases h with ⟨rfl, rfl, rfl, rfl⟩ | ⟨x, rfl, hl, hm, hz, hcell, hwz⟩
  · exact ⟨[], ⟨none, 0, rfl, fun h => absurd h (by simp)⟩, by simp⟩
  · have hlen : (zs.take len).length = len := by rw [List.length_take]; omega
    refine ⟨zs.take len, ⟨some x, cap, by rw [hlen], fun h0 => ?_⟩, by rw [hlen]; omega⟩
    rw [hlen] at h0 ⊢
    have hc := hcell 0 (by omega)
    obtain ⟨b, off, spot⟩ := x
    have hspot : spot = none := by simpa [Addr.add] using World.cell?_spot hc
    subst hspot
    refine ⟨b, off, rfl, by simpa [Addr.add] using block_lt_of_cell hc, fun j hj => ?_⟩
    have := hcell j (by omega)
    rw [add_off] at this
    have e : gt (zs.take len) j = zs.getD j 0 := by simp [gt, hj]
    rw [e]
    refine ⟨this, u8_of_wf (hwz _ ?_)⟩
    rw [List.getD_eq_getElem?_getD, List.getElem?_eq_getElem (show j < zs.length by omega)]
    exact List.getElem_mem _
theorem and255 (x : Int) : 0 ≤ bits .and .i64 x 255 ∧ bits .and .i64 x 255 ≤ 255 := by
  have e : bits .and .i64 x 255 = IntKind.i64.wrap ((BitVec.ofInt 64 x &&& BitVec.ofInt 64 255).toNat : Int) := rfl
  have h : (BitVec.ofInt 64 x &&& BitVec.ofInt 64 255).toNat ≤ 255 := by
    rw [BitVec.toNat_and]
    have : (BitVec.ofInt 64 255).toNat = 255 := by decide
    rw [this]
    exact Nat.and_le_right
  rw [e, IntKind.wrap_i64]
  omega
/-- A cursor of the reference's draws: a block of its own. -/
def Cur (w0 w : World) (g : Nat) (v : Value) (n : Nat) : Prop := w0.heap.size ≤ g ∧ ∃ (i : Nat) (h : Int), Blk w g 44 #[v, .int .i64 (i : Int), .int .i64 h] ∧ i ≤ n
theorem Cur.below {w0 w w' : World} {g n : Nat} {v : Value} (h : Cur w0 w g v n) (hb : Nx w w') : Cur w0 w' g v n := by
  obtain ⟨h0, i, x, hB, hi⟩ := h
  exact ⟨h0, i, x, hB.below hb, hi⟩
theorem Cur.kept {w0 w w' : World} {g n : Nat} {v : Value} {row : Option Nat} (h : Cur w0 w g v n) (hb : w.grownBy w' row) (hne : some g ≠ row) : Cur w0 w' g v n := by
  obtain ⟨h0, i, x, hB, hi⟩ := h
  exact ⟨h0, i, x, hB.grown hb hne, hi⟩
theorem Cur.lt {w0 w : World} {g n : Nat} {v : Value} (h : Cur w0 w g v n) : g < w.heap.size := by
  obtain ⟨h0, i, x, hB, hi⟩ := h
  exact hB.lt
theorem blk_ne {w : World} {g g' : Nat} {t t' : TypeId} {cs cs' : Array Value} (h : Blk w g t cs) (h' : Blk w g' t' cs') (hne : t ≠ t') : g ≠ g' := by
  rintro rfl
  unfold Blk at h h'
  rw [h] at h'
  injection h' with h'
  injection h' with _ ht
  exact hne ht
/-- a row of the program's own and a cursor never share a block. -/
theorem Cur.row {w0 w : World} {g n : Nat} {v : Value} (h : Cur w0 w g v n) {B m : Nat} {e : TypeId} {sz : Nat} {u : Value} {xs : List Value} (ho : w.ownsRow B e sz u m xs) (hne : e ≠ 44) : u.ownBlock ≠ some g := by
  obtain ⟨h0, i, x, hB, hi⟩ := h
  rcases ho.2 with ⟨rfl, _⟩ | ⟨g', cap, cur, rfl, _, hh, _⟩
  · simp [Value.ownBlock]
  · intro he
    have : g' = g := by simpa [Value.ownBlock] using he
    subst this
    exact blk_ne (t := e) hh hB hne rfl
theorem Cur.rowI {w0 w : World} {g n : Nat} {v : Value} (h : Cur w0 w g v n) {B : Nat} {u : Value} {xs : List Int} (ho : OwI w B u xs) : u.ownBlock = none ∨ u.ownBlock ≠ some g := .inr (h.row ho (by decide))
theorem Nx.grownAt {a b c : World} {g : Nat} (h : Nx a b) (hg : b.grownBy c (some g)) (hB : a.heap.size ≤ g) : Nx a c := Below.grown h hg h.size (fun k hk => by injection hk with e; omega)
theorem grown_set (w : World) (g i : Nat) (u : Value) : w.grownBy (w.setCell ⟨g, i, none⟩ u) (some g) :=
  ⟨rfl, rfl, rfl, by simp, fun k _ hne => Below.heap_setCell w ⟨g, i, none⟩ u k (fun e => hne (by rw [e]))⟩
theorem grown_drewN (w : World) (n : Nat) (row : Option Nat) : w.grownBy (w.drewN n) row := ⟨rfl, rfl, rfl, Nat.le_refl _, fun _ _ _ => rfl⟩

set_option maxHeartbeats 1000000 in
theorem l01New_any (v : Value) (zs : List Int) (w : World) (hr : RdB w v zs) (hl : zs.length ≤ 1048576) :
    Calls Try.prog 34 #[v] w fun e w' => e = .returned (.pointer (some ⟨w.heap.size, 0, none⟩)) ∧ Cur w w' w.heap.size v zs.length ∧ Nx w w' := by
  obtain ⟨A, c, rfl, hx⟩ := hr
  go_enter Try.func34, Try.ntmps34
  go_wp2_with fail
  go_loopw [3, 4] (fun h i wr => ∃ (k : Nat) (x : Int), k ≤ zs.length ∧ i = .int .i64 k ∧ h = .int .i64 x ∧ wr = w) (fun _ i _ => zs.length - (intOf i).toNat)
  case atStart => exact ⟨0, _, Nat.zero_le _, rfl, rfl, (by first | trivial | rfl)⟩
  case round =>
    obtain ⟨k, x, hk, rfl, rfl, rfl⟩ := hrel
    by_cases hlt : k < zs.length
    · by_cases h4 : (k : Int) < 4000
      · obtain ⟨b0, off, rfl, hb0, hc⟩ := hx (by omega)
        have hck := (hc k hlt).1
        have hk1 : (k : Int) < (zs.length : Int) := by omega
        clear hc hx
        go_wp2_with fail
        go_roundw
        case rel => exact ⟨k + 1, _, by omega, by go_num, rfl, (by first | trivial | rfl)⟩
        case measure => simp [intOf]; omega
      · have hk1 : (k : Int) < (zs.length : Int) := by omega
        go_wp2_with fail
        go_ret
        exact ⟨rfl, ⟨Nat.le_refl _, 0, _, Blk.new _ _ _, Nat.zero_le _⟩, Nx.made _ _⟩
    · obtain rfl : k = zs.length := by omega
      go_wp2_with fail
      go_ret
      exact ⟨rfl, ⟨Nat.le_refl _, 0, _, Blk.new _ _ _, Nat.zero_le _⟩, Nx.made _ _⟩

set_option maxHeartbeats 2000000 in
theorem l01Byte_any (w0 : World) (v : Value) (zs : List Int) (g : Nat) (w : World) (hr : RdB w0 v zs) (hl : zs.length ≤ 1048576) (hb : Nx w0 w) (hc : Cur w0 w g v zs.length) :
    Calls Try.prog 36 #[.pointer (some ⟨g, 0, none⟩)] w fun e w' => ∃ x, e = .returned (.int .i64 x) ∧ (0 ≤ x ∧ x ≤ 255) ∧ Cur w0 w' g v zs.length ∧ w.grownBy w' (some g) := by
  obtain ⟨hg, i, h, hB, hi⟩ := hc
  obtain ⟨A, c, rfl, hx⟩ := hr
  have c0 : w.cell? ⟨g, 0, none⟩ = some (.slice A zs.length c) := hB.cell 0
  have c1 : w.cell? ⟨g, 1, none⟩ = some (.int .i64 (i : Int)) := hB.cell 1
  have c2 : w.cell? ⟨g, 2, none⟩ = some (.int .i64 h) := hB.cell 2
  have f2 := hB.frozen 2
  have HB := hide hB
  clear hB
  go_enter Try.func36, Try.ntmps36
  go_wp2_with fail
  generalize wrap64 (wrap64 (h * 6364136223846793005) + 1442695040888963407) = h1
  have hB1 : Blk (w.setCell ⟨g, 2, none⟩ (.int .i64 h1)) g 44 #[.slice A zs.length c, .int .i64 (i : Int), .int .i64 h1] := HB.out.set_ 2 (.int .i64 h1)
  have G1 := grown_set w g 2 (.int .i64 h1)
  have hb1 := Nx.grownAt hb G1 hg
  clear c0 c1 c2 f2 HB
  generalize World.setCell _ _ _ = w1 at hB1 G1 hb1 ⊢
  have c0 : w1.cell? ⟨g, 0, none⟩ = some (.slice A zs.length c) := hB1.cell 0
  have c1 : w1.cell? ⟨g, 1, none⟩ = some (.int .i64 (i : Int)) := hB1.cell 1
  have c2 : w1.cell? ⟨g, 2, none⟩ = some (.int .i64 h1) := hB1.cell 2
  have f1 := hB1.frozen 1
  have HB := hide hB1
  have HG := hide G1
  clear hB1 G1
  by_cases hlt : i < zs.length
  · obtain ⟨b0, off, rfl, hb0, hc⟩ := hx (by omega)
    have hck := (hb1.cell (p := ⟨b0, off + i, none⟩) hb0).trans (hc i hlt).1
    have hi1 : (i : Int) < (zs.length : Int) := by omega
    clear hc hx
    go_quiet (fail)
    have hx1 := and255 (bits .xor .i64 (h1 / 8589934592) (h1 / 35184372088832))
    go_wp2_with fail
    generalize bits .and .i64 _ _ = x at hx1 ⊢
    go_quiet (fail)
    go_wp2_with fail
    go_quiet (fail)
    go_wp2_with fail
    go_ret
    exact ⟨_, rfl, and255 _, ⟨hg, i + 1, h1, (HB.out.drewN _).set_ 1 _, by omega⟩, grownBy_trans HG.out (grownBy_trans (grown_drewN _ _ _) (grown_set _ _ _ _))⟩
  · have hi1 : ¬ (i : Int) < (zs.length : Int) := by omega
    clear hx
    go_quiet (fail)
    have hx1 := and255 (bits .xor .i64 (h1 / 8589934592) (h1 / 35184372088832))
    go_wp2_with fail
    generalize bits .and .i64 _ _ = x at hx1 ⊢
    go_quiet (fail)
    go_wp2_with fail
    go_ret
    exact ⟨_, rfl, hx1, ⟨hg, i, h1, (HB.out.drewN _).drewN _, hi⟩, grownBy_trans HG.out (grownBy_trans (grown_drewN _ _ _) (grown_drewN _ _ _))⟩

set_option maxHeartbeats 1000000 in
theorem l01Below_any (w0 : World) (v : Value) (zs : List Int) (g : Nat) (n : Int) (w : World) (hr : RdB w0 v zs) (hl : zs.length ≤ 1048576) (hb : Nx w0 w) (hc : Cur w0 w g v zs.length) (n0 : 1 ≤ n) (n1 : n ≤ 256) :
    Calls Try.prog 35 #[.pointer (some ⟨g, 0, none⟩), .int .i64 n] w fun e w' => ∃ x, e = .returned (.int .i64 x) ∧ (0 ≤ x ∧ x < n) ∧ Cur w0 w' g v zs.length ∧ w.grownBy w' (some g) := by
  go_enter Try.func35, Try.ntmps35
  go_wp2_with (go_at_call 36; fail)
  refine (l01Byte_any w0 v zs g w hr hl hb hc).mono ?_
  rintro e w1 ⟨x, rfl, hx, hc1, hg1⟩
  have HG := hide hg1
  have HC := hide hc1
  clear hc hc1 hg1
  have hm0 : 0 ≤ x % n := Int.emod_nonneg _ (by omega)
  have hm1 : x % n < n := Int.emod_lt_of_pos _ (by omega)
  have hn0 : (n == 0) = false := by simp; omega
  go_wp2_with fail
  go_ret
  exact ⟨_, rfl, ⟨hm0, hm1⟩, HC.out, HG.out⟩

set_option maxHeartbeats 400000 in
theorem big_any (v : Value) (zs : List Int) (w : World) (h : RdB w v zs) : Calls Try.prog 26 #[v] w fun e w' => e = .returned (.bool (decide (1048576 < (zs.length : Int)))) ∧ w = w' := by
  obtain ⟨A, c, rfl, hx⟩ := h
  clear hx
  go_enter Try.func26, Try.ntmps26
  go_wp2
  go_ret
  exact ⟨rfl, rfl⟩

set_option maxHeartbeats 4000000 in
theorem l22List_any (w0 : World) (v : Value) (zs : List Int) (g : Nat) (w : World) (hr : RdB w0 v zs) (hl : zs.length ≤ 1048576) (hb : Nx w0 w) (hc : Cur w0 w g v zs.length) :
    Calls Try.prog 33 #[.pointer (some ⟨g, 0, none⟩)] w fun e w' => ∃ u room, e = .returned (.tuple #[u, .int .i64 room]) ∧ ∃ xs, OwI w' w.heap.size u xs ∧ boxesOk xs room = true ∧ xs.length ≤ 7 ∧ Nx w0 w' := by
  have hgl := hc.lt
  have hbs := hb.size
  have hg0 : w0.heap.size ≤ g := by obtain ⟨h, _⟩ := hc; exact h
  go_enter Try.func33, Try.ntmps33
  go_wp2_with (go_at_call 35; fail)
  refine (l01Below_any w0 v zs g 20 _ hr hl hb hc (by omega) (by omega)).mono ?_
  rintro e w1 ⟨x, rfl, hx, hc1, hg1⟩
  have hsz1 := hg1.size
  have hb2 := (hb.grownAt hg1 hg0).trans (Nx.made w1 (.cells #[] 3))
  have hc2 := hc1.below (Nx.made w1 (.cells #[] 3))
  have ho2 := (OwI.made0 w1).mono hsz1
  have HB := hide hb2
  have HC := hide hc2
  have HO := hide ho2
  clear hb hc hc1 hg1 hb2 hc2 ho2
  go_wp2_with (go_at_call 35; fail)
  refine (l01Below_any w0 v zs g 8 _ hr hl HB.out HC.out (by omega) (by omega)).mono ?_
  rintro e w3 ⟨n, rfl, hn, hc3, hg3⟩
  have HB3 := hide (HB.out.grownAt hg3 hg0)
  have HO3 := hide (HO.out.kept hg3 (HC.out.rowI HO.out))
  have HC3 := hide hc3
  have hz3 : w.heap.size ≤ w3.heap.size := Nat.le_trans hsz1 (by have := hg3.size; simp at this; omega)
  clear hc3 hg3 HB HC HO
  go_wp2_with fail
  go_loopw [5, 7] (fun u i wr => ∃ (k : Nat) (xs : List Int), (k : Int) ≤ n ∧ i = .int .i64 k ∧ xs.length = k ∧ OwI wr w.heap.size u xs ∧ Hid (∀ j, j < k → 1 ≤ gt xs j ∧ gt xs j ≤ 10 + x) ∧ Cur w0 wr g v zs.length ∧ Nx w0 wr ∧ w.heap.size ≤ wr.heap.size) (fun _ i _ => (n - intOf i).toNat)
  case atStart => exact ⟨0, [], by omega, rfl, rfl, HO3.out, fun j hj => absurd hj (by omega), HC3.out, HB3.out, hz3⟩
  case round =>
    clear HC3 HO3 HB3 hz3
    obtain ⟨k, xs, hk, rfl, hlen, hown, hall, hc, hb, hsz⟩ := hrel
    have Hlen := hide hlen
    have HO := hide hown
    have HC := hide hc
    have HB := hide hb
    clear hlen hown hc hb
    by_cases hlt : (k : Int) < n
    · go_wp2_with (go_at_call 35; fail)
      refine (l01Below_any w0 v zs g (10 + x) _ hr hl HB.out HC.out (by omega) (by omega)).mono ?_
      rintro e w4 ⟨y, rfl, hy, hc4, hg4⟩
      have HB4 := hide (HB.out.grownAt hg4 hg0)
      have HO4 := hide (HO.out.kept hg4 (HC.out.rowI HO.out))
      have HC4 := hide hc4
      have hsz4 : w.heap.size ≤ w4.heap.size := Nat.le_trans hsz hg4.size
      have hl5 : xs.length ≤ 16777216 := by have := Hlen.out; omega
      clear hc4 hg4 HC HO HB
      go_wp2_with (at_builtin; refine wpList_push rfl (.tmp 19) (.tmp 24) rfl w4 w.heap.size _ xs (1 + y) rfl rfl HO4.out hl5 hsz4 ?_; intro v1 w5 hown1 hg1 _; have hb5 := HB4.out.pushed HO4.out hbs hg1; have hc5 := HC4.out.kept hg1 (Ne.symm (HC4.out.row HO4.out (by decide))); have hz5 := Nat.le_trans hsz4 hg1.size)
      go_roundw
      case rel => exact ⟨k + 1, xs ++ [1 + y], by omega, by go_num, by simp [Hlen.out], hown1, fun j hj => by
        rcases Nat.lt_or_ge j k with h | h
        · rw [gt_append_left (by rw [Hlen.out]; exact h)]; exact hall.out j h
        · obtain rfl : j = k := by omega
          have := gt_snoc xs (1 + y)
          rw [Hlen.out] at this
          rw [this]; omega, hc5, hb5, hz5⟩
      case measure => simp [intOf]; omega
    · have hk1 : (k : Int) = n := by omega
      have hok : Hid (boxesOk xs (10 + x) = true) := boxesOk_iff.2 ⟨by have := Hlen.out; omega, by omega, fun j hj => hall.out j (by rw [← Hlen.out]; exact hj)⟩
      have hl7 : xs.length ≤ 7 := by have := Hlen.out; omega
      clear hk1
      go_wp2_with fail
      go_ret2
      exact ⟨_, _, rfl, xs, HO.out, hok.out, hl7, HB.out⟩
set_option maxHeartbeats 1000000 in
theorem DrawTrunk_any (v : Value) (zs : List Int) (w : World) (hr : RdB w v zs) (hl : zs.length ≤ 1048576) :
    Calls Try.prog 27 #[v] w fun e w' => ∃ u room, e = .returned (.tuple #[u, .int .i64 room]) ∧ ∃ xs, OwI w' w.heap.size u xs ∧ boxesOk xs room = true ∧ xs.length ≤ 7 ∧ Nx w w' := by
  go_enter Try.func27, Try.ntmps27
  go_wp2_with (go_at_call 34; fail)
  refine (l01New_any v zs w hr hl).mono ?_
  rintro e w1 ⟨rfl, hc1, hb1⟩
  have hz := hb1.size
  have HC := hide hc1
  have HB := hide hb1
  clear hc1 hb1
  go_wp2_with (go_at_call 33; fail)
  refine (l22List_any w v zs w.heap.size w1 hr hl HB.out HC.out).mono ?_
  rintro e w2 ⟨u, room, rfl, xs, ho, hm, hn, hb⟩
  have HO := hide (ho.mono hz)
  have HB2 := hide hb
  have HM := hide hm
  clear ho hb hm
  go_wp2_with fail
  go_ret2
  exact ⟨_, _, rfl, xs, HO.out, HM.out, hn, HB2.out⟩

end Go.Proofs.Ythjiggihljiikaa
