/- Drawn halls. -/
import Derived.Test.YtkjclpbemdilbaaStP
import Derived.Test.YtkjclpbemdilbaaStI
import Derived.Test.YtkjclpbemdilbaaTog
import Derived.WalkKit
import Derived.ProofKit
import Derived.Handy
import Derived.OpenShut
import Derived.ShutString
import Derived.ChangeOld
import Derived.Below
import Derived.BigQuiet
import Derived.Deep.QuietTactic
import Derived.Deep.Draws
import Derived.Deep.DeepCutAuto
import Derived.Deep.DeepFit
import Derived.Deep.LoopGhost
import Derived.Outline
import Derived.WalkSpells
import Derived.WalkLawsBesides
import Derived.WalkSmall
import Derived.Laws.OwnMore
import Derived.OneCell
import Derived.Laws.Rows
import Derived.Maps.AppendAt
import Derived.StillTailTactics
import Derived.Lib.SmallJoins
import Derived.Deep.RegionWith
import Derived.Deep.RegionHeld3
import Derived.RegionTactic
import Derived.Deep.Matrix
import Derived.Deep.Fields
import Derived.ChangeSame
namespace Go.Proofs.Ytkjclpbemdilbaa
open Go.RowKit

/-- A block that is known whole. -/
def Blk (w : World) (g : Nat) (t : TypeId) (cs : Array Value) : Prop := w.heap[g]? = some (.cells cs t (0, 0))
theorem Blk.lt {w : World} {g : Nat} {t : TypeId} {cs : Array Value} (h : Blk w g t cs) : g < w.heap.size := lt_of_block h
theorem Blk.cell {w : World} {g : Nat} {t : TypeId} {cs : Array Value} (h : Blk w g t cs) (i : Nat) : w.cell? ⟨g, i, none⟩ = cs[i]? := cell_of_row w g i cs t (0, 0) h
theorem Blk.frozen {w : World} {g : Nat} {t : TypeId} {cs : Array Value} (h : Blk w g t cs) (i : Nat) : w.frozen? ⟨g, i, none⟩ = false := by
  unfold Blk at h
  simp [World.frozen?, h]
theorem Blk.new (w : World) (t : TypeId) (cs : Array Value) : Blk (w.alloc (.cells cs t)) w.heap.size t cs := heap_alloc_new w _
theorem Blk.drew {w : World} {g : Nat} {t : TypeId} {cs : Array Value} (h : Blk w g t cs) : Blk w.drew g t cs := h
theorem Blk.drewN {w : World} {g : Nat} {t : TypeId} {cs : Array Value} (h : Blk w g t cs) (n : Nat) : Blk (w.drewN n) g t cs := h
theorem Blk.alloc {w : World} {g : Nat} {t : TypeId} {cs : Array Value} (h : Blk w g t cs) (o : Obj) : Blk (w.alloc o) g t cs := (Below.heap_alloc w o g h.lt).trans h
theorem Blk.set_ {w : World} {g : Nat} {t : TypeId} {cs : Array Value} (h : Blk w g t cs) (i : Nat) (u : Value) : Blk (w.setCell ⟨g, i, none⟩ u) g t (cs.setIfInBounds i u) := by
  unfold Blk at h ⊢
  simp [World.setCell, Array.getElem?_modify, h]
theorem Blk.far {w : World} {g : Nat} {t : TypeId} {cs : Array Value} (h : Blk w g t cs) {p : Addr} (hp : g ≠ p.block) (u : Value) : Blk (w.setCell p u) g t cs := (Below.heap_setCell w p u g hp).trans h
theorem Blk.below {w w' : World} {g : Nat} {t : TypeId} {cs : Array Value} (h : Blk w g t cs) (hb : Nx w w') : Blk w' g t cs := (hb.block g h.lt).trans h
theorem Blk.grown {w w' : World} {g : Nat} {t : TypeId} {cs : Array Value} {row : Option Nat} (h : Blk w g t cs) (hb : w.grownBy w' row) (hg : some g ≠ row) : Blk w' g t cs := (hb.block g h.lt hg).trans h

/-- A slice value that reads as a list of bytes. -/
def RdB (w : World) (v : Value) (zs : List Int) : Prop :=
  ∃ A c, v = .slice A zs.length c ∧ (0 < zs.length → ∃ b off, A = some ⟨b, off, none⟩ ∧ b < w.heap.size ∧ ∀ j, j < zs.length → w.cell? ⟨b, off + j, none⟩ = some (.int .u8 (gt zs j)) ∧ 0 ≤ gt zs j ∧ gt zs j ≤ 255)
theorem RdB.below {w w' : World} {v : Value} {zs : List Int} (h : RdB w v zs) (hb : Nx w w') : RdB w' v zs := by
  obtain ⟨A, c, rfl, hx⟩ := h
  refine ⟨A, c, rfl, fun h0 => ?_⟩
  obtain ⟨b, off, rfl, hlt, hc⟩ := hx h0
  exact ⟨b, off, rfl, Nat.lt_of_lt_of_le hlt hb.size, fun j hj => ⟨(hb.cell (p := ⟨b, off + j, none⟩) hlt).trans (hc j hj).1, (hc j hj).2⟩⟩
theorem u8_of_wf {n : Int} (h : (Lit.int .u8 n).wf = true) : 0 ≤ n ∧ n ≤ 255 := by
  simp [Lit.wf, IntKind.min, IntKind.max, IntKind.signed, IntKind.bits] at h
  omega
theorem isRow_readsB {w : World} {a : Option Addr} {len cap : Nat} {zs : List Int} (h : IsRow .u8 w a len cap zs) :
    ∃ ys, RdB w (.slice a len cap) ys ∧ ys.length ≤ maxLen := by
  rcases h with ⟨rfl, rfl, rfl, rfl⟩ | ⟨x, rfl, hl, hm, hz, hcell, hwz⟩
  · exact ⟨[], ⟨none, 0, rfl, fun h => absurd h (by simp)⟩, by simp⟩
  · have hlen : (zs.take len).length = len := by rw [List.length_take]; omega
    refine ⟨zs.take len, ⟨some x, cap, by rw [hlen], fun h0 => ?_⟩, by rw [hlen]; omega⟩
    rw [hlen] at h0 ⊢
    have hc := hcell 0 (by omega)
    obtain ⟨b, off, spot⟩ := x
    have hspot : spot = none := by simpa [Addr.add] using World.cell?_spot hc
    subst hspot
    refine ⟨b, off, rfl, by simpa [Addr.add] using block_lt_of_cell hc, fun j hj => ?_⟩
    have := hcell j (by omega)
    rw [add_off] at this
    have e : gt (zs.take len) j = zs.getD j 0 := by simp [gt, hj]
    rw [e]
    refine ⟨this, u8_of_wf (hwz _ ?_)⟩
    rw [List.getD_eq_getElem?_getD, List.getElem?_eq_getElem (show j < zs.length by omega)]
    exact List.getElem_mem _
theorem and255 (x : Int) : 0 ≤ bits .and .i64 x 255 ∧ bits .and .i64 x 255 ≤ 255 := by
  have e : bits .and .i64 x 255 = IntKind.i64.wrap ((BitVec.ofInt 64 x &&& BitVec.ofInt 64 255).toNat : Int) := rfl
  have h : (BitVec.ofInt 64 x &&& BitVec.ofInt 64 255).toNat ≤ 255 := by
    rw [BitVec.toNat_and]
    have : (BitVec.ofInt 64 255).toNat = 255 := by decide
    rw [this]
    exact Nat.and_le_right
  rw [e, IntKind.wrap_i64]
  omega
/-- A cursor of the reference's draws: a block of its own. -/
def Cur (w0 w : World) (g : Nat) (v : Value) (n : Nat) : Prop := w0.heap.size ≤ g ∧ ∃ (i : Nat) (h : Int), Blk w g 55 #[v, .int .i64 (i : Int), .int .i64 h] ∧ i ≤ n
theorem Cur.below {w0 w w' : World} {g n : Nat} {v : Value} (h : Cur w0 w g v n) (hb : Nx w w') : Cur w0 w' g v n := by
  obtain ⟨h0, i, x, hB, hi⟩ := h
  exact ⟨h0, i, x, hB.below hb, hi⟩
theorem Cur.kept {w0 w w' : World} {g n : Nat} {v : Value} {row : Option Nat} (h : Cur w0 w g v n) (hb : w.grownBy w' row) (hne : some g ≠ row) : Cur w0 w' g v n := by
  obtain ⟨h0, i, x, hB, hi⟩ := h
  exact ⟨h0, i, x, hB.grown hb hne, hi⟩
theorem Cur.lt {w0 w : World} {g n : Nat} {v : Value} (h : Cur w0 w g v n) : g < w.heap.size := by
  obtain ⟨h0, i, x, hB, hi⟩ := h
  exact hB.lt
theorem blk_ne {w : World} {g g' : Nat} {t t' : TypeId} {cs cs' : Array Value} (h : Blk w g t cs) (h' : Blk w g' t' cs') (hne : t ≠ t') : g ≠ g' := by
  rintro rfl
  unfold Blk at h h'
  rw [h] at h'
  injection h' with h'
  injection h' with _ ht
  exact hne ht
/-- a row of the program's own and a cursor never share a block. -/
theorem Cur.row {w0 w : World} {g n : Nat} {v : Value} (h : Cur w0 w g v n) {B m : Nat} {e : TypeId} {sz : Nat} {u : Value} {xs : List Value} (ho : w.ownsRow B e sz u m xs) (hne : e ≠ 55) : u.ownBlock ≠ some g := by
  obtain ⟨h0, i, x, hB, hi⟩ := h
  rcases ho.2 with ⟨rfl, _⟩ | ⟨g', cap, cur, rfl, _, hh, _⟩
  · simp [Value.ownBlock]
  · intro he
    have : g' = g := by simpa [Value.ownBlock] using he
    subst this
    exact blk_ne (t := e) hh hB hne rfl
theorem Cur.rowI {w0 w : World} {g n : Nat} {v : Value} (h : Cur w0 w g v n) {B : Nat} {u : Value} {xs : List Int} (ho : OwI w B u xs) : u.ownBlock = none ∨ u.ownBlock ≠ some g := .inr (h.row ho (by decide))
theorem Nx.grownAt {a b c : World} {g : Nat} (h : Nx a b) (hg : b.grownBy c (some g)) (hB : a.heap.size ≤ g) : Nx a c := Below.grown h hg h.size (fun k hk => by injection hk with e; omega)
theorem grown_set (w : World) (g i : Nat) (u : Value) : w.grownBy (w.setCell ⟨g, i, none⟩ u) (some g) :=
  ⟨rfl, rfl, rfl, by simp, fun k _ hne => Below.heap_setCell w ⟨g, i, none⟩ u k (fun e => hne (by rw [e]))⟩
theorem grown_drewN (w : World) (n : Nat) (row : Option Nat) : w.grownBy (w.drewN n) row := ⟨rfl, rfl, rfl, Nat.le_refl _, fun _ _ _ => rfl⟩

set_option maxHeartbeats 1000000 in
theorem l01New_any (v : Value) (zs : List Int) (w : World) (hr : RdB w v zs) (hl : zs.length ≤ 1048576) :
    Calls Try.prog 41 #[v] w fun e w' => e = .returned (.pointer (some ⟨w.heap.size, 0, none⟩)) ∧ Cur w w' w.heap.size v zs.length ∧ Nx w w' := by
  obtain ⟨A, c, rfl, hx⟩ := hr
  go_enter Try.func41, Try.ntmps41
  go_wp2_with fail
  go_loopw [3, 4] (fun h i wr => ∃ (k : Nat) (x : Int), k ≤ zs.length ∧ i = .int .i64 k ∧ h = .int .i64 x ∧ wr = w) (fun _ i _ => zs.length - (intOf i).toNat)
  case atStart => exact ⟨0, _, Nat.zero_le _, rfl, rfl, (by first | trivial | rfl)⟩
  case round =>
    obtain ⟨k, x, hk, rfl, rfl, rfl⟩ := hrel
    by_cases hlt : k < zs.length
    · by_cases h4 : (k : Int) < 4000
      · obtain ⟨b0, off, rfl, hb0, hc⟩ := hx (by omega)
        have hck := (hc k hlt).1
        have hk1 : (k : Int) < (zs.length : Int) := by omega
        clear hc hx
        go_wp2_with fail
        go_roundw
        case rel => exact ⟨k + 1, _, by omega, by go_num, rfl, (by first | trivial | rfl)⟩
        case measure => simp [intOf]; omega
      · have hk1 : (k : Int) < (zs.length : Int) := by omega
        go_wp2_with fail
        go_ret
        exact ⟨rfl, ⟨Nat.le_refl _, 0, _, Blk.new _ _ _, Nat.zero_le _⟩, Nx.made _ _⟩
    · obtain rfl : k = zs.length := by omega
      go_wp2_with fail
      go_ret
      exact ⟨rfl, ⟨Nat.le_refl _, 0, _, Blk.new _ _ _, Nat.zero_le _⟩, Nx.made _ _⟩

set_option maxHeartbeats 2000000 in
theorem l01Byte_any (w0 : World) (v : Value) (zs : List Int) (g : Nat) (w : World) (hr : RdB w0 v zs) (hl : zs.length ≤ 1048576) (hb : Nx w0 w) (hc : Cur w0 w g v zs.length) :
    Calls Try.prog 49 #[.pointer (some ⟨g, 0, none⟩)] w fun e w' => ∃ x, e = .returned (.int .i64 x) ∧ (0 ≤ x ∧ x ≤ 255) ∧ Cur w0 w' g v zs.length ∧ w.grownBy w' (some g) := by
  obtain ⟨hg, i, h, hB, hi⟩ := hc
  obtain ⟨A, c, rfl, hx⟩ := hr
  have c0 : w.cell? ⟨g, 0, none⟩ = some (.slice A zs.length c) := hB.cell 0
  have c1 : w.cell? ⟨g, 1, none⟩ = some (.int .i64 (i : Int)) := hB.cell 1
  have c2 : w.cell? ⟨g, 2, none⟩ = some (.int .i64 h) := hB.cell 2
  have f2 := hB.frozen 2
  have HB := hide hB
  clear hB
  go_enter Try.func49, Try.ntmps49
  go_wp2_with fail
  generalize wrap64 (wrap64 (h * 6364136223846793005) + 1442695040888963407) = h1
  have hB1 : Blk (w.setCell ⟨g, 2, none⟩ (.int .i64 h1)) g 55 #[.slice A zs.length c, .int .i64 (i : Int), .int .i64 h1] := HB.out.set_ 2 (.int .i64 h1)
  have G1 := grown_set w g 2 (.int .i64 h1)
  have hb1 := Nx.grownAt hb G1 hg
  clear c0 c1 c2 f2 HB
  generalize World.setCell _ _ _ = w1 at hB1 G1 hb1 ⊢
  have c0 : w1.cell? ⟨g, 0, none⟩ = some (.slice A zs.length c) := hB1.cell 0
  have c1 : w1.cell? ⟨g, 1, none⟩ = some (.int .i64 (i : Int)) := hB1.cell 1
  have c2 : w1.cell? ⟨g, 2, none⟩ = some (.int .i64 h1) := hB1.cell 2
  have f1 := hB1.frozen 1
  have HB := hide hB1
  have HG := hide G1
  clear hB1 G1
  by_cases hlt : i < zs.length
  · obtain ⟨b0, off, rfl, hb0, hc⟩ := hx (by omega)
    have hck := (hb1.cell (p := ⟨b0, off + i, none⟩) hb0).trans (hc i hlt).1
    have hi1 : (i : Int) < (zs.length : Int) := by omega
    clear hc hx
    go_quiet (fail)
    have hx1 := and255 (bits .xor .i64 (h1 / 8589934592) (h1 / 35184372088832))
    go_wp2_with fail
    generalize bits .and .i64 _ _ = x at hx1 ⊢
    go_quiet (fail)
    go_wp2_with fail
    go_quiet (fail)
    go_wp2_with fail
    go_ret
    exact ⟨_, rfl, and255 _, ⟨hg, i + 1, h1, (HB.out.drewN _).set_ 1 _, by omega⟩, grownBy_trans HG.out (grownBy_trans (grown_drewN _ _ _) (grown_set _ _ _ _))⟩
  · have hi1 : ¬ (i : Int) < (zs.length : Int) := by omega
    clear hx
    go_quiet (fail)
    have hx1 := and255 (bits .xor .i64 (h1 / 8589934592) (h1 / 35184372088832))
    go_wp2_with fail
    generalize bits .and .i64 _ _ = x at hx1 ⊢
    go_quiet (fail)
    go_wp2_with fail
    go_ret
    exact ⟨_, rfl, hx1, ⟨hg, i, h1, (HB.out.drewN _).drewN _, hi⟩, grownBy_trans HG.out (grownBy_trans (grown_drewN _ _ _) (grown_drewN _ _ _))⟩

set_option maxHeartbeats 1000000 in
theorem l01Below_any (w0 : World) (v : Value) (zs : List Int) (g : Nat) (n : Int) (w : World) (hr : RdB w0 v zs) (hl : zs.length ≤ 1048576) (hb : Nx w0 w) (hc : Cur w0 w g v zs.length) (n0 : 1 ≤ n) (n1 : n ≤ 256) :
    Calls Try.prog 46 #[.pointer (some ⟨g, 0, none⟩), .int .i64 n] w fun e w' => ∃ x, e = .returned (.int .i64 x) ∧ (0 ≤ x ∧ x < n) ∧ Cur w0 w' g v zs.length ∧ w.grownBy w' (some g) := by
  go_enter Try.func46, Try.ntmps46
  go_wp2_with (go_at_call 49; fail)
  refine (l01Byte_any w0 v zs g w hr hl hb hc).mono ?_
  rintro e w1 ⟨x, rfl, hx, hc1, hg1⟩
  have HG := hide hg1
  have HC := hide hc1
  clear hc hc1 hg1
  have hm0 : 0 ≤ x % n := Int.emod_nonneg _ (by omega)
  have hm1 : x % n < n := Int.emod_lt_of_pos _ (by omega)
  have hn0 : (n == 0) = false := by simp; omega
  go_wp2_with fail
  go_ret
  exact ⟨_, rfl, ⟨hm0, hm1⟩, HC.out, HG.out⟩

set_option maxHeartbeats 400000 in
theorem big_any (v : Value) (zs : List Int) (w : World) (h : RdB w v zs) : Calls Try.prog 21 #[v] w fun e w' => e = .returned (.bool (decide (1048576 < (zs.length : Int)))) ∧ w = w' := by
  obtain ⟨A, c, rfl, hx⟩ := h
  clear hx
  go_enter Try.func21, Try.ntmps21
  go_wp2
  go_ret
  exact ⟨rfl, rfl⟩

/-- rows of the program's own stay when a block outside theirs changes. -/
theorem OwMH.keptG {w w' : World} {B H : Nat} {v : Value} {rows : List (List Int)} {row : Option Nat} (h : OwMH w B H v rows) (hg : w.grownBy w' row) (hr : ∀ g, row = some g → g < B ∨ H ≤ g) : OwMH w' B H v rows := by
  obtain ⟨rs, h1, h2, h3, h4, h5, h6⟩ := h
  refine ⟨rs, owns_block h1 fun g e => ?_, fun i hi => owns_block (h2 i hi) fun g e => ?_, h3, h4, h5, h6⟩
  · have e1 := World.ownsRow.lt h1 g e
    have e2 := h5 g e
    exact hg.block g e1.2 fun e3 => by have := hr g e3.symm; omega
  · have e1 := own_lt (h2 i hi) e
    have e2 := h6 i hi g e
    exact hg.block g e1.2 fun e3 => by have := hr g e3.symm; omega
theorem OwM.keptG {w w' : World} {B : Nat} {v : Value} {rows : List (List Int)} {g : Nat} (h : OwM w B v rows) (hg : w.grownBy w' (some g)) (hr : g < B) : OwM w' B v rows :=
  (h.toH.keptG hg (fun g' e => by injection e with e; exact .inl (by omega))).toM
/-- append of one row, in a block from H on, to rows of the program's own below H. -/
theorem wpList_pushMH {ops : Array Oper} {rest : List Oper} {o : Oper} {a : Act} {Q : Exit → Act → World → Prop} (hgd : o.guard = none) (s x : Operand)
    (ho : o.op = .call { callee := .builtin .append, args := #[s, x], argTypes := #[22, 22] })
    (w : World) (B H : Nat) (v : Value) (rows : List (List Int)) (r : Value) (zs : List Int) (hs : a.eval s = v) (hx : a.eval x = .slice (some ⟨w.heap.size, 0, none⟩) 1 1)
    (hown : OwMH w B H v rows) (hr : OwI w H r zs) (hl : rows.length ≤ 16777216) (hBH : B ≤ H) (hB : B ≤ w.heap.size)
    (h : ∀ v' w', OwM w' B v' (rows ++ [zs]) → w.grownBy w' v.ownBlock → wpList Try.prog ops Q rest (a.put o.dst v') w') :
    wpList Try.prog ops Q (o :: rest) a (w.alloc (.cells #[r] 36)) := by
  obtain ⟨i0, hi, hz0, hz1, hz2⟩ := info_parts rowsInfo
  obtain ⟨rs, h1, h2, h3, h4, h5v, h6r⟩ := hown
  have hrl : rs.length = rows.length := by have := h1.1; simpa using this
  refine wpList_append_own_at (P := Try.prog) (w.alloc (.cells #[r] 36)) hgd s x 22 ho B 36 i0 (.slice none 0 0) 1 24 Try.underlying22 hi hz0 hz1 hz2 rfl (by decide) v rows.length rs hs (World.ownsRow.alloc h1 _) ⟨w.heap.size, 0, none⟩ 1 1 [r] hx rfl (cell_one_new _ _ _) ?_ ?_ ?_ ?_ ?_
  · intro u hu; simp at hu; subst hu; exact hr.oneCell
  · unfold maxLen; omega
  · omega
  · simp; omega
  · intro v' w' hown' hg _ hat
    have hat' : v'.ownBlock = v.ownBlock ∨ v'.ownBlock = some (w.heap.size + 1) := by
      rcases hat with e | e
      · exact .inl e
      · exact .inr (by rw [e]; simp)
    have hrv : Apart r v := fun g h5 h6 => by
      have := (own_lt hr h5).1
      have := h5v g h6
      omega
    have hrj : ∀ j, j < rows.length → Apart r (vAt rs j) := fun j hj g h5 h6 => by
      have := (own_lt hr h5).1
      have := h6r j hj g h6
      omega
    have keep : ∀ {u : Value} {ys : List Int} {B' : Nat}, OwI w B' u ys → Apart u v → OwI w' B' u ys := fun ho ha => (own_alloc ho _).kept hg ha.ne
    have apv : ∀ {u : Value} {ys : List Int} {B' : Nat}, OwI w B' u ys → Apart u v → Apart u v' := fun ho ha g h5 h6 => by
      rcases hat' with e | e
      · exact ha g h5 (e.symm.trans h6)
      · rw [e] at h6
        injection h6 with h6
        have := (own_lt ho h5).2
        omega
    refine h v' w' ⟨rfl, rs ++ [r], by rw [List.length_append]; exact hown', fun i hi => ?_, fun i hi => ?_, fun i j hij hj => ?_⟩ (grownBy_of_alloc hg)
    · rw [List.length_append, List.length_singleton] at hi
      rcases Nat.lt_or_ge i rows.length with h5 | h5
      · rw [vAt_snoc_lt (by omega), rowAt_snoc_lt h5]
        exact keep (h2 i h5) (h3 i h5)
      · rw [vAt_snoc_eq (by omega), rowAt_snoc_eq (by omega)]
        exact (keep hr hrv).mono hBH
    · rw [List.length_append, List.length_singleton] at hi
      rcases Nat.lt_or_ge i rows.length with h5 | h5
      · rw [vAt_snoc_lt (by omega)]
        exact apv (h2 i h5) (h3 i h5)
      · rw [vAt_snoc_eq (by omega)]
        exact apv hr hrv
    · rw [List.length_append, List.length_singleton] at hj
      rcases Nat.lt_or_ge j rows.length with h5 | h5
      · rw [vAt_snoc_lt (by omega), vAt_snoc_lt (by omega)]
        exact h4 i j hij h5
      · rw [vAt_snoc_lt (by omega), vAt_snoc_eq (by omega)]
        exact (hrj i (by omega)).symm
theorem OwMN.open_ {w : World} {B n : Nat} {v : Value} {rows : List (List Int)} (h : OwMN w B v n rows) (h0 : 0 < n) : ∃ gv cv, v = .slice (some ⟨gv, 0, none⟩) n cv ∧ B ≤ gv := by
  obtain ⟨_, rs, h1, _⟩ := h
  rcases owns_form h1 with ⟨_, he⟩ | ⟨g, cap, rfl, hB, _⟩
  · omega
  · exact ⟨g, cap, rfl, hB⟩
theorem OwM.toN {w : World} {B n : Nat} {v : Value} {rows : List (List Int)} (h : OwM w B v rows) (hn : rows.length = n) : OwMN w B v n rows := by subst hn; exact h
theorem OwMN.keptG {w w' : World} {B n : Nat} {v : Value} {rows : List (List Int)} {g : Nat} (h : OwMN w B v n rows) (hg : w.grownBy w' (some g)) (hr : g < B) : OwMN w' B v n rows :=
  (OwM.keptG h.toM hg hr).toN h.1
theorem OwMN.at_ {w : World} {B gv cv n : Nat} {rows : List (List Int)} (h : OwMN w B (.slice (some ⟨gv, 0, none⟩) n cv) n rows) {y : Nat} (hy : y < n) : ∃ r, w.cell? ⟨gv, y, none⟩ = some r ∧ OwI w B r (rowAt rows y) := by
  obtain ⟨hl, rs, h1, h2, h3, h4⟩ := h
  have hrl : rs.length = n := by have := h1.1; simpa using this
  exact ⟨_, (World.ownsRow.cellAt h1 y (by omega)).trans (vAt_some (by omega)), h2 y hy⟩

theorem allW_snoc {a b : Int} {xs : List Int} {x : Int} (h : allW a b xs = true) (hx : a ≤ x ∧ x ≤ b) : allW a b (xs ++ [x]) = true := by
  refine allW_iff.2 fun k hk => ?_
  rw [List.length_append, List.length_singleton] at hk
  rcases Nat.lt_or_ge k xs.length with h1 | h1
  · rw [gt_append_left h1]; exact allW_iff.1 h k h1
  · obtain rfl : k = xs.length := by omega
    rw [gt_snoc]; exact hx
set_option maxHeartbeats 1000000 in
theorem l01Once_any (w0 : World) (v : Value) (zs : List Int) (g : Nat) (w : World) (hr : RdB w0 v zs) (hl : zs.length ≤ 1048576) (hb : Nx w0 w) (hc : Cur w0 w g v zs.length) (n : Int) (n0 : 1 ≤ n) (n1 : n ≤ 256) :
    Calls Try.prog 47 #[.pointer (some ⟨g, 0, none⟩), .int .i64 n] w fun e w' => ∃ x, e = .returned (.bool x) ∧ Cur w0 w' g v zs.length ∧ w.grownBy w' (some g) := by
  go_enter Try.func47, Try.ntmps47
  go_wp2_with (go_at_call 46; fail)
  refine (l01Below_any w0 v zs g n w hr hl hb hc n0 n1).mono ?_
  rintro e w1 ⟨x, rfl, _, hc1, hg1⟩
  have HC := hide hc1
  have HG := hide hg1
  clear hc1 hg1
  go_wp2_with fail
  go_ret
  exact ⟨_, rfl, HC.out, HG.out⟩
set_option maxHeartbeats 1000000 in
theorem l24Hall_any (w0 : World) (v : Value) (zs : List Int) (g : Nat) (w : World) (hr : RdB w0 v zs) (hl : zs.length ≤ 1048576) (hb : Nx w0 w) (hc : Cur w0 w g v zs.length) :
    Calls Try.prog 40 #[.pointer (some ⟨g, 0, none⟩)] w fun e w' => ∃ u, e = .returned u ∧ ∃ rows, OwM w' w.heap.size u rows ∧ gridOk rows 8 10 (-1) 200 = true ∧ Nx w0 w' := by
  have hgl := hc.lt
  have hbs := hb.size
  have hg0 : w0.heap.size ≤ g := by obtain ⟨h, _⟩ := hc; exact h
  have HC := hide hc
  have HB := hide hb
  clear hb hc
  go_enter Try.func40, Try.ntmps40
  go_wp2_with (go_at_call 46; fail)
  refine (l01Below_any w0 v zs g 4 _ hr hl HB.out HC.out (by omega) (by omega)).mono ?_
  rintro e w1 ⟨x, rfl, hx, hc', hg'⟩
  obtain ⟨n, hn⟩ := Int.eq_ofNat_of_zero_le (show 0 ≤ 1 + x by omega)
  have hn4 : 1 ≤ n ∧ n ≤ 4 := by omega
  have hn1 : (n : Int) = 1 + x := hn.symm
  have hs1 := hg'.size
  have HB1 := hide (HB.out.grownAt hg' hg0)
  have HC1 := hide hc'
  clear HB HC hc' hg' hn
  have HB := hide HB1.out
  have HC := hide HC1.out
  clear HB1 HC1
  go_wp2_with (go_at_call 46; fail)
  refine (l01Below_any w0 v zs g 5 _ hr hl HB.out HC.out (by omega) (by omega)).mono ?_
  rintro e w2 ⟨y, rfl, hy, hc', hg'⟩
  obtain ⟨m, hm⟩ := Int.eq_ofNat_of_zero_le (show 0 ≤ 1 + y by omega)
  have hm4 : 1 ≤ m ∧ m ≤ 5 := by omega
  have hm1 : (m : Int) = 1 + y := hm.symm
  have hs2 := hg'.size
  have NA := Nx.made w2 (.cells #[] 36)
  have HB2 := hide ((HB.out.grownAt hg' hg0).trans NA)
  have HC2 := hide (hc'.below NA)
  have HO2 := hide ((OwM.made0 w2).mono (show w.heap.size ≤ w2.heap.size by omega))
  have hs3 : w.heap.size ≤ (w2.alloc (.cells #[] 36)).heap.size := Nat.le_trans (by omega) NA.size
  clear HB HC hc' hg' NA hm
  go_wp2_with fail
  generalize World.alloc _ _ = w3 at HB2 HC2 HO2 hs3 ⊢
  go_loopw [5, 6] (fun u i wr => ∃ (k : Nat) (rows : List (List Int)), k ≤ n ∧ i = .int .i64 (k : Int) ∧ rows.length = k ∧ OwM wr w.heap.size u rows ∧ Hid (∀ y, y < k → (rowAt rows y).length = m ∧ allW (-1) 200 (rowAt rows y) = true) ∧ Cur w0 wr g v zs.length ∧ Nx w0 wr ∧ w.heap.size ≤ wr.heap.size) (fun _ i _ => n - (intOf i).toNat)
  case atStart => exact ⟨0, [], Nat.zero_le _, rfl, rfl, HO2.out, fun j hj => absurd hj (by omega), HC2.out, HB2.out, hs3⟩
  case round =>
    clear HO2 HC2 HB2 hs3
    obtain ⟨k, rows, hk, rfl, hrl, hown, hall, hc, hb, hsz⟩ := hrel
    have Hrl := hide hrl
    have HO := hide hown
    have HC := hide hc
    have HB := hide hb
    clear hrl hown hc hb
    by_cases hlt : k < n
    · have hki : (k : Int) < 1 + x := by omega
      have NA := Nx.made wr (.cells #[] 3)
      have HM1 := hide (HO.out.toH.below NA)
      have HC1 := hide (HC.out.below NA)
      have HB1 := hide (HB.out.trans NA)
      have HI1 := hide (OwI.made0 wr)
      have hs1' : wr.heap.size ≤ (wr.alloc (.cells #[] 3)).heap.size := NA.size
      have hgw : g < wr.heap.size := HC.out.lt
      clear NA HO HC HB
      go_wp2_with fail
      generalize World.alloc _ _ = wa at HM1 HC1 HB1 HI1 hs1' ⊢
      generalize hHs : wr.heap.size = Hs at HM1 HI1 hs1' hgw hsz ⊢
      clear hHs
      go_loopw [7, 8] (fun q i wr => ∃ (j : Nat) (xs : List Int), j ≤ m ∧ i = .int .i64 (j : Int) ∧ xs.length = j ∧ OwI wr Hs q xs ∧ OwMH wr w.heap.size Hs u5 rows ∧ Hid (allW (-1) 200 xs = true) ∧ Cur w0 wr g v zs.length ∧ Nx w0 wr ∧ Hs ≤ wr.heap.size) (fun _ i _ => m - (intOf i).toNat)
      case atStart => exact ⟨0, [], Nat.zero_le _, rfl, rfl, HI1.out, HM1.out, rfl, HC1.out, HB1.out, hs1'⟩
      case round =>
        clear HI1 HM1 HC1 HB1 hs1'
        obtain ⟨j, xs, hj, rfl, hxl, hownI, hownM, hbd, hc, hb, hsq⟩ := hrel
        have Hxl := hide hxl
        have HI := hide hownI
        have HM := hide hownM
        have HC := hide hc
        have HB := hide hb
        clear hxl hownI hownM hc hb
        by_cases hjt : j < m
        · have hji : (j : Int) < 1 + y := by omega
          go_wp2_with (go_at_call 46; fail)
          refine (l01Below_any w0 v zs g 16 _ hr hl HB.out HC.out (by omega) (by omega)).mono ?_
          rintro e wc ⟨z, rfl, hz, hc', hg'⟩
          have HB3 := hide (HB.out.grownAt hg' hg0)
          have HI3 := hide (HI.out.kept hg' (HC.out.rowI HI.out))
          have HM3 := hide (HM.out.keptG hg' (fun g' e => .inl (by injection e with e; omega)))
          have HC3 := hide hc'
          have hsq3 : Hs ≤ wc.heap.size := Nat.le_trans hsq hg'.size
          clear hc' hg' HC HI HB HM
          go_wp2_with (go_at_call 47; fail)
          refine (l01Once_any w0 v zs g _ hr hl HB3.out HC3.out 2 (by omega) (by omega)).mono ?_
          rintro e wd ⟨bx, rfl, hc', hg'⟩
          have HB4 := hide (HB3.out.grownAt hg' hg0)
          have HI4 := hide (HI3.out.kept hg' (HC3.out.rowI HI3.out))
          have HM4 := hide (HM3.out.keptG hg' (fun g' e => .inl (by injection e with e; omega)))
          have HC4 := hide hc'
          have hsq4 : Hs ≤ wd.heap.size := Nat.le_trans hsq3 hg'.size
          clear hc' hg' HC3 HI3 HB3 HM3
          cases bx with
          | false =>
            have hl5 : xs.length ≤ 16777216 := by have := Hxl.out; omega
            go_wp2_with (at_builtin; refine wpList_push rfl (.tmp 34) (.tmp 36) rfl wd Hs _ xs (100 + 5 * z) rfl rfl HI4.out hl5 hsq4 ?_; intro v1 we hown1 hg1 _; have hb5 := HB4.out.pushed HI4.out (Nat.le_trans hbs hsz) hg1; have hc5 := HC4.out.kept hg1 (Ne.symm (HC4.out.row HI4.out (by decide))); have hz5 := Nat.le_trans hsq4 hg1.size; have hm5 := HM4.out.keptG hg1 (fun g' e => .inr (OwI.base HI4.out g' e)))
            go_roundw
            case rel => exact ⟨j + 1, xs ++ [(100 + 5 * z)], by omega, by go_num, by simp [Hxl.out], hown1, hm5, allW_snoc hbd.out (by omega), hc5, hb5, hz5⟩
            case measure => simp [intOf]; omega
          | true =>
            have hl5 : xs.length ≤ 16777216 := by have := Hxl.out; omega
            go_wp2_with (at_builtin; refine wpList_push rfl (.tmp 34) (.tmp 36) rfl wd Hs _ xs (-1) rfl rfl HI4.out hl5 hsq4 ?_; intro v1 we hown1 hg1 _; have hb5 := HB4.out.pushed HI4.out (Nat.le_trans hbs hsz) hg1; have hc5 := HC4.out.kept hg1 (Ne.symm (HC4.out.row HI4.out (by decide))); have hz5 := Nat.le_trans hsq4 hg1.size; have hm5 := HM4.out.keptG hg1 (fun g' e => .inr (OwI.base HI4.out g' e)))
            go_roundw
            case rel => exact ⟨j + 1, xs ++ [(-1)], by omega, by go_num, by simp [Hxl.out], hown1, hm5, allW_snoc hbd.out (by omega), hc5, hb5, hz5⟩
            case measure => simp [intOf]; omega
        · obtain rfl : j = m := by omega
          have hji : ¬ (j : Int) < 1 + y := by omega
          have hrl5 : rows.length ≤ 16777216 := by have := Hrl.out; omega
          obtain ⟨A7, c7, rfl, _⟩ := HI.out.open_
          have HR := hide (show rowAt (rows ++ [xs]) k = xs from rowAt_snoc_eq Hrl.out.symm)
          have HR0 := hide (fun y (hy : y < k) => show rowAt (rows ++ [xs]) y = rowAt rows y from rowAt_snoc_lt (by have := Hrl.out; omega))
          go_wp2_with (at_builtin; refine wpList_pushMH rfl (.tmp 38) (.tmp 40) rfl wr w.heap.size Hs _ rows _ xs rfl rfl HM.out HI.out hrl5 hsz (by omega) ?_; intro v3 w3' hown3 hg3; have Rc := HC.out.kept hg3 (fun e => by have := OwM.base HM.out.toM g e.symm; omega); have Rb := Below.grown HB.out hg3 HB.out.size (fun k hk => Nat.le_trans hbs (OwM.base HM.out.toM k hk)); have hz3 := hg3.size)
          go_roundw
          case rel => exact ⟨k + 1, rows ++ [xs], by omega, by go_num, by simp [Hrl.out], hown3, fun y hy => by
            rcases Nat.lt_or_ge y k with h | h
            · rw [HR0.out y h]; exact hall.out y h
            · obtain rfl : y = k := by omega
              rw [HR.out]; exact ⟨Hxl.out, hbd.out⟩, Rc, Rb, by omega⟩
          case measure => simp [intOf]; omega
    · obtain rfl : k = n := by omega
      have hki : ¬ (k : Int) < 1 + x := by omega
      have HK := hide (show gridOk rows 8 10 (-1) 200 = true from by
        have h0 := hall.out 0 (by omega)
        refine gridOk_rows (by rw [Hrl.out]; exact inR_iff.2 (by omega)) (by rw [h0.1]; exact inR_iff.2 (by omega)) fun y hy => ?_
        rw [Hrl.out] at hy
        have h1 := hall.out y hy
        simp only [rowOk, Bool.and_eq_true, decide_eq_true_eq]
        exact ⟨by rw [h1.1, h0.1], h1.2⟩)
      go_wp2_with fail
      go_ret
      exact ⟨_, rfl, _, HO.out, HK.out, HB.out⟩

set_option maxHeartbeats 1000000 in
theorem DrawHall_any (v : Value) (zs : List Int) (w : World) (hr : RdB w v zs) (hl : zs.length ≤ 1048576) :
    Calls Try.prog 22 #[v] w fun e w' => ∃ u, e = .returned u ∧ ∃ rows, OwM w' w.heap.size u rows ∧ gridOk rows 8 10 (-1) 200 = true ∧ Nx w w' := by
  go_enter Try.func22, Try.ntmps22
  go_wp2_with (go_at_call 41; fail)
  refine (l01New_any v zs w hr hl).mono ?_
  rintro e w1 ⟨rfl, hc1, hb1⟩
  have hz := hb1.size
  have HC := hide hc1
  have HB := hide hb1
  clear hc1 hb1
  go_wp2_with (go_at_call 40; fail)
  refine (l24Hall_any w v zs w.heap.size w1 hr hl HB.out HC.out).mono ?_
  rintro e w2 ⟨u, rfl, rows, ho, hm, hb⟩
  have HO := hide (ho.mono hz)
  have HB2 := hide hb
  have HM := hide hm
  clear ho hb hm
  go_wp2_with fail
  go_ret
  exact ⟨_, rfl, _, HO.out, HM.out, HB2.out⟩

end Go.Proofs.Ytkjclpbemdilbaa
