/- Drawn players. -/
import Derived.Test.YtfilpeamhcdgfaaPlP
import Derived.Test.YtfilpeamhcdgfaaCsS
import Derived.WalkKit
import Derived.ProofKit
import Derived.Handy
import Derived.OpenShut
import Derived.ShutString
import Derived.ChangeOld
import Derived.Below
import Derived.BigQuiet
import Derived.Deep.QuietTactic
import Derived.Deep.Draws
import Derived.Deep.DeepCutAuto
import Derived.Deep.DeepFit
import Derived.Deep.LoopGhost
import Derived.Outline
import Derived.WalkSpells
import Derived.WalkLawsBesides
import Derived.WalkSmall
import Derived.Laws.OwnMore
import Derived.OneCell
import Derived.Laws.Rows
import Derived.Maps.AppendAt
import Derived.StillTailTactics
import Derived.Lib.SmallJoins
import Derived.Deep.RegionWith
import Derived.Deep.RegionHeld3
import Derived.RegionTactic
import Derived.Deep.Matrix
import Derived.Deep.Fields
import Derived.ChangeSame
namespace Go.Proofs.Ytfilpeamhcdgfaa
open Go.RowKit

/-- A slice value that reads as a list of bytes. -/
def RdB (w : World) (v : Value) (zs : List Int) : Prop :=
  ∃ A c, v = .slice A zs.length c ∧ (0 < zs.length → ∃ b off, A = some ⟨b, off, none⟩ ∧ b < w.heap.size ∧ ∀ j, j < zs.length → w.cell? ⟨b, off + j, none⟩ = some (.int .u8 (gt zs j)) ∧ 0 ≤ gt zs j ∧ gt zs j ≤ 255)
theorem RdB.below {w w' : World} {v : Value} {zs : List Int} (h : RdB w v zs) (hb : Nx w w') : RdB w' v zs := by
  obtain ⟨A, c, rfl, hx⟩ := h
  refine ⟨A, c, rfl, fun h0 => ?_⟩
  obtain ⟨b, off, rfl, hlt, hc⟩ := hx h0
  exact ⟨b, off, rfl, Nat.lt_of_lt_of_le hlt hb.size, fun j hj => ⟨(hb.cell (p := ⟨b, off + j, none⟩) hlt).trans (hc j hj).1, (hc j hj).2⟩⟩
theorem u8_of_wf {n : Int} (h : (Lit.int .u8 n).wf = true) : 0 ≤ n ∧ n ≤ 255 := by
  simp [Lit.wf, IntKind.min, IntKind.max, IntKind.signed, IntKind.bits] at h
  omega
theorem isRow_readsB {w : World} {a : Option Addr} {len cap : Nat} {zs : List Int} (h : IsRow .u8 w a len cap zs) :
    ∃ ys, RdB w (.slice a len cap) ys ∧ ys.length ≤ maxLen := by
  rcases h with ⟨rfl, rfl, rfl, rfl⟩ | ⟨x, rfl, hl, hm, hz, hcell, hwz⟩
  · exact ⟨[], ⟨none, 0, rfl, fun h => absurd h (by simp)⟩, by simp⟩
  · have hlen : (zs.take len).length = len := by rw [List.length_take]; omega
    refine ⟨zs.take len, ⟨some x, cap, by rw [hlen], fun h0 => ?_⟩, by rw [hlen]; omega⟩
    rw [hlen] at h0 ⊢
    have hc := hcell 0 (by omega)
    obtain ⟨b, off, spot⟩ := x
    have hspot : spot = none := by simpa [Addr.add] using World.cell?_spot hc
    subst hspot
    refine ⟨b, off, rfl, by simpa [Addr.add] using block_lt_of_cell hc, fun j hj => ?_⟩
    have := hcell j (by omega)
    rw [add_off] at this
    have e : gt (zs.take len) j = zs.getD j 0 := by simp [gt, hj]
    rw [e]
    refine ⟨this, u8_of_wf (hwz _ ?_)⟩
    rw [List.getD_eq_getElem?_getD, List.getElem?_eq_getElem (show j < zs.length by omega)]
    exact List.getElem_mem _
theorem and255 (x : Int) : 0 ≤ bits .and .i64 x 255 ∧ bits .and .i64 x 255 ≤ 255 := by
  have e : bits .and .i64 x 255 = IntKind.i64.wrap ((BitVec.ofInt 64 x &&& BitVec.ofInt 64 255).toNat : Int) := rfl
  have h : (BitVec.ofInt 64 x &&& BitVec.ofInt 64 255).toNat ≤ 255 := by
    rw [BitVec.toNat_and]
    have : (BitVec.ofInt 64 255).toNat = 255 := by decide
    rw [this]
    exact Nat.and_le_right
  rw [e, IntKind.wrap_i64]
  omega
/-- A cursor of the reference's draws: a block of its own. -/
def Cur (w0 w : World) (g : Nat) (v : Value) (n : Nat) : Prop := w0.heap.size ≤ g ∧ ∃ (i : Nat) (h : Int), Blk w g 65 #[v, .int .i64 (i : Int), .int .i64 h] ∧ i ≤ n
theorem Cur.below {w0 w w' : World} {g n : Nat} {v : Value} (h : Cur w0 w g v n) (hb : Nx w w') : Cur w0 w' g v n := by
  obtain ⟨h0, i, x, hB, hi⟩ := h
  exact ⟨h0, i, x, hB.below hb, hi⟩
theorem Cur.kept {w0 w w' : World} {g n : Nat} {v : Value} {row : Option Nat} (h : Cur w0 w g v n) (hb : w.grownBy w' row) (hne : some g ≠ row) : Cur w0 w' g v n := by
  obtain ⟨h0, i, x, hB, hi⟩ := h
  exact ⟨h0, i, x, hB.grown hb hne, hi⟩
theorem Cur.lt {w0 w : World} {g n : Nat} {v : Value} (h : Cur w0 w g v n) : g < w.heap.size := by
  obtain ⟨h0, i, x, hB, hi⟩ := h
  exact hB.lt
theorem blk_ne {w : World} {g g' : Nat} {t t' : TypeId} {cs cs' : Array Value} (h : Blk w g t cs) (h' : Blk w g' t' cs') (hne : t ≠ t') : g ≠ g' := by
  rintro rfl
  unfold Blk at h h'
  rw [h] at h'
  injection h' with h'
  injection h' with _ ht
  exact hne ht
/-- a row of the program's own and a cursor never share a block. -/
theorem Cur.row {w0 w : World} {g n : Nat} {v : Value} (h : Cur w0 w g v n) {B m : Nat} {e : TypeId} {sz : Nat} {u : Value} {xs : List Value} (ho : w.ownsRow B e sz u m xs) (hne : e ≠ 65) : u.ownBlock ≠ some g := by
  obtain ⟨h0, i, x, hB, hi⟩ := h
  rcases ho.2 with ⟨rfl, _⟩ | ⟨g', cap, cur, rfl, _, hh, _⟩
  · simp [Value.ownBlock]
  · intro he
    have : g' = g := by simpa [Value.ownBlock] using he
    subst this
    exact blk_ne (t := e) hh hB hne rfl
theorem Cur.rowI {w0 w : World} {g n : Nat} {v : Value} (h : Cur w0 w g v n) {B : Nat} {u : Value} {xs : List Int} (ho : OwI w B u xs) : u.ownBlock = none ∨ u.ownBlock ≠ some g := .inr (h.row ho (by decide))

set_option maxHeartbeats 1000000 in
theorem l01New_any (v : Value) (zs : List Int) (w : World) (hr : RdB w v zs) (hl : zs.length ≤ 1048576) :
    Calls Try.prog 33 #[v] w fun e w' => e = .returned (.pointer (some ⟨w.heap.size, 0, none⟩)) ∧ Cur w w' w.heap.size v zs.length ∧ Nx w w' := by
  obtain ⟨A, c, rfl, hx⟩ := hr
  go_enter Try.func33, Try.ntmps33
  go_wp2_with fail
  go_loopw [3, 4] (fun h i wr => ∃ (k : Nat) (x : Int), k ≤ zs.length ∧ i = .int .i64 k ∧ h = .int .i64 x ∧ wr = w) (fun _ i _ => zs.length - (intOf i).toNat)
  case atStart => exact ⟨0, _, Nat.zero_le _, rfl, rfl, (by first | trivial | rfl)⟩
  case round =>
    obtain ⟨k, x, hk, rfl, rfl, rfl⟩ := hrel
    by_cases hlt : k < zs.length
    · by_cases h4 : (k : Int) < 4000
      · obtain ⟨b0, off, rfl, hb0, hc⟩ := hx (by omega)
        have hck := (hc k hlt).1
        have hk1 : (k : Int) < (zs.length : Int) := by omega
        clear hc hx
        go_wp2_with fail
        go_roundw
        case rel => exact ⟨k + 1, _, by omega, by go_num, rfl, (by first | trivial | rfl)⟩
        case measure => simp [intOf]; omega
      · have hk1 : (k : Int) < (zs.length : Int) := by omega
        go_wp2_with fail
        go_ret
        exact ⟨rfl, ⟨Nat.le_refl _, 0, _, Blk.new _ _ _, Nat.zero_le _⟩, Nx.made _ _⟩
    · obtain rfl : k = zs.length := by omega
      go_wp2_with fail
      go_ret
      exact ⟨rfl, ⟨Nat.le_refl _, 0, _, Blk.new _ _ _, Nat.zero_le _⟩, Nx.made _ _⟩

set_option maxHeartbeats 2000000 in
theorem l01Byte_any (w0 : World) (v : Value) (zs : List Int) (g : Nat) (w : World) (hr : RdB w0 v zs) (hl : zs.length ≤ 1048576) (hb : Nx w0 w) (hc : Cur w0 w g v zs.length) :
    Calls Try.prog 58 #[.pointer (some ⟨g, 0, none⟩)] w fun e w' => ∃ x, e = .returned (.int .i64 x) ∧ (0 ≤ x ∧ x ≤ 255) ∧ Cur w0 w' g v zs.length ∧ w.grownBy w' (some g) := by
  obtain ⟨hg, i, h, hB, hi⟩ := hc
  obtain ⟨A, c, rfl, hx⟩ := hr
  have c0 : w.cell? ⟨g, 0, none⟩ = some (.slice A zs.length c) := hB.cell 0
  have c1 : w.cell? ⟨g, 1, none⟩ = some (.int .i64 (i : Int)) := hB.cell 1
  have c2 : w.cell? ⟨g, 2, none⟩ = some (.int .i64 h) := hB.cell 2
  have f2 := hB.frozen 2
  have HB := hide hB
  clear hB
  go_enter Try.func58, Try.ntmps58
  go_wp2_with fail
  generalize wrap64 (wrap64 (h * 6364136223846793005) + 1442695040888963407) = h1
  have hB1 : Blk (w.setCell ⟨g, 2, none⟩ (.int .i64 h1)) g 65 #[.slice A zs.length c, .int .i64 (i : Int), .int .i64 h1] := HB.out.set_ 2 (.int .i64 h1)
  have G1 := grown_set w g 2 (.int .i64 h1)
  have hb1 := Nx.grownAt hb G1 hg
  clear c0 c1 c2 f2 HB
  generalize World.setCell _ _ _ = w1 at hB1 G1 hb1 ⊢
  have c0 : w1.cell? ⟨g, 0, none⟩ = some (.slice A zs.length c) := hB1.cell 0
  have c1 : w1.cell? ⟨g, 1, none⟩ = some (.int .i64 (i : Int)) := hB1.cell 1
  have c2 : w1.cell? ⟨g, 2, none⟩ = some (.int .i64 h1) := hB1.cell 2
  have f1 := hB1.frozen 1
  have HB := hide hB1
  have HG := hide G1
  clear hB1 G1
  by_cases hlt : i < zs.length
  · obtain ⟨b0, off, rfl, hb0, hc⟩ := hx (by omega)
    have hck := (hb1.cell (p := ⟨b0, off + i, none⟩) hb0).trans (hc i hlt).1
    have hi1 : (i : Int) < (zs.length : Int) := by omega
    clear hc hx
    go_quiet (fail)
    have hx1 := and255 (bits .xor .i64 (h1 / 8589934592) (h1 / 35184372088832))
    go_wp2_with fail
    generalize bits .and .i64 _ _ = x at hx1 ⊢
    go_quiet (fail)
    go_wp2_with fail
    go_quiet (fail)
    go_wp2_with fail
    go_ret
    exact ⟨_, rfl, and255 _, ⟨hg, i + 1, h1, (HB.out.drewN _).set_ 1 _, by omega⟩, grownBy_trans HG.out (grownBy_trans (grown_drewN _ _ _) (grown_set _ _ _ _))⟩
  · have hi1 : ¬ (i : Int) < (zs.length : Int) := by omega
    clear hx
    go_quiet (fail)
    have hx1 := and255 (bits .xor .i64 (h1 / 8589934592) (h1 / 35184372088832))
    go_wp2_with fail
    generalize bits .and .i64 _ _ = x at hx1 ⊢
    go_quiet (fail)
    go_wp2_with fail
    go_ret
    exact ⟨_, rfl, hx1, ⟨hg, i, h1, (HB.out.drewN _).drewN _, hi⟩, grownBy_trans HG.out (grownBy_trans (grown_drewN _ _ _) (grown_drewN _ _ _))⟩

set_option maxHeartbeats 1000000 in
theorem l01Below_any (w0 : World) (v : Value) (zs : List Int) (g : Nat) (n : Int) (w : World) (hr : RdB w0 v zs) (hl : zs.length ≤ 1048576) (hb : Nx w0 w) (hc : Cur w0 w g v zs.length) (n0 : 1 ≤ n) (n1 : n ≤ 256) :
    Calls Try.prog 51 #[.pointer (some ⟨g, 0, none⟩), .int .i64 n] w fun e w' => ∃ x, e = .returned (.int .i64 x) ∧ (0 ≤ x ∧ x < n) ∧ Cur w0 w' g v zs.length ∧ w.grownBy w' (some g) := by
  go_enter Try.func51, Try.ntmps51
  go_wp2_with (go_at_call 58; fail)
  refine (l01Byte_any w0 v zs g w hr hl hb hc).mono ?_
  rintro e w1 ⟨x, rfl, hx, hc1, hg1⟩
  have HG := hide hg1
  have HC := hide hc1
  clear hc hc1 hg1
  have hm0 : 0 ≤ x % n := Int.emod_nonneg _ (by omega)
  have hm1 : x % n < n := Int.emod_lt_of_pos _ (by omega)
  have hn0 : (n == 0) = false := by simp; omega
  go_wp2_with fail
  go_ret
  exact ⟨_, rfl, ⟨hm0, hm1⟩, HC.out, HG.out⟩

set_option maxHeartbeats 400000 in
theorem big_any (v : Value) (zs : List Int) (w : World) (h : RdB w v zs) : Calls Try.prog 16 #[v] w fun e w' => e = .returned (.bool (decide (1048576 < (zs.length : Int)))) ∧ w = w' := by
  obtain ⟨A, c, rfl, hx⟩ := h
  clear hx
  go_enter Try.func16, Try.ntmps16
  go_wp2
  go_ret
  exact ⟨rfl, rfl⟩

theorem OwPH.keptG {w w' : World} {B H : Nat} {v : Value} {ps : List Plr} {row : Option Nat} (h : OwPH w B H v ps) (hg : w.grownBy w' row) (hr : ∀ g, row = some g → g < B ∨ H ≤ g) : OwPH w' B H v ps := by
  obtain ⟨xs, rs, h1, h2, h3, h4, h5⟩ := h
  refine ⟨xs, rs, owns_block h1 fun g e => ?_, fun i hi => ⟨(h2 i hi).1, (h2 i hi).2.1, owns_block (h2 i hi).2.2 fun g e => ?_⟩, h3, h4, h5⟩
  · have e1 := World.ownsRow.lt h1 g e
    have e2 := h4 g e
    exact hg.block g e1.2 fun e3 => by have := hr g e3.symm; omega
  · have e1 := own_lt (h2 i hi).2.2 e
    have e2 := h5 i hi g e
    exact hg.block g e1.2 fun e3 => by have := hr g e3.symm; omega
/-- append of one player, what he knows in a block from H on, to players below H. -/
theorem wpList_pushPH {ops : Array Oper} {rest : List Oper} {o : Oper} {a : Act} {Q : Exit → Act → World → Prop} (hgd : o.guard = none) (s x : Operand)
    (ho : o.op = .call { callee := .builtin .append, args := #[s, x], argTypes := #[26, 26] })
    (w : World) (B H : Nat) (v : Value) (ps : List Plr) (r : Value) (zs : List Int) (f : Int) (hs : a.eval s = v) (hx : a.eval x = .slice (some ⟨w.heap.size, 0, none⟩) 1 1)
    (hown : OwPH w B H v ps) (hr : OwI w H r zs) (hl : ps.length ≤ 16777216) (hBH : B ≤ H) (hB : B ≤ w.heap.size)
    (h : ∀ v' w', OwP w' B v' (ps ++ [(zs, f)]) → w.grownBy w' v.ownBlock → wpList Try.prog ops Q rest (a.put o.dst v') w') :
    wpList Try.prog ops Q (o :: rest) a (w.alloc (.cells #[r, .int .i64 f] 44)) := by
  obtain ⟨i0, hi, hz0, hz1, hz2⟩ := info_parts playerInfo
  obtain ⟨xs, rs, h1, h2, h3, h4, h5p⟩ := hown
  have hxl : xs.length = ps.length * 2 := h1.1
  refine wpList_append_own_at (P := Try.prog) (w.alloc (.cells #[r, .int .i64 f] 44)) hgd s x 26 ho B 44 i0 (.agg #[.slice none 0 0, .int .i64 0]) 2 32 Try.underlying26 hi hz0 hz1 hz2 rfl (by decide) v ps.length xs hs (World.ownsRow.alloc h1 _) ⟨w.heap.size, 0, none⟩ 1 1 [r, .int .i64 f] hx rfl (cell_two_new _ _ _ _) ?_ ?_ ?_ ?_ ?_
  · intro u hu
    simp at hu
    rcases hu with rfl | rfl
    · exact hr.oneCell
    · rfl
  · unfold maxLen; omega
  · omega
  · simp; omega
  · intro v' w' hown' hg _ hat
    have hrj : ∀ j, j < ps.length → Apart r (rs j) := fun j hj g h5 h6 => by
      have := (own_lt hr h5).1
      have := h5p j hj g h6
      omega
    have keep : ∀ {u : Value} {ys : List Int} {B' : Nat}, OwI w B' u ys → OwI w' B' u ys := fun ho => (own_alloc ho (.cells #[r, .int .i64 f] 44)).kept hg (own_types (own_alloc ho (.cells #[r, .int .i64 f] 44)) (World.ownsRow.alloc h1 (.cells #[r, .int .i64 f] 44)) (by decide)).ne
    refine h v' w' ⟨rfl, xs ++ [r, .int .i64 f], fun k => if k < ps.length then rs k else r, by rw [List.length_append]; exact hown', fun k hk => ?_, fun i j hij hj => ?_⟩ (grownBy_of_alloc hg)
    · rw [List.length_append, List.length_singleton] at hk
      rcases Nat.lt_or_ge k ps.length with h5 | h5
      · obtain ⟨e1, e2, e3⟩ := h2 k h5
        dsimp only
        rw [if_pos h5, kn_snoc_lt h5, fr_snoc_lt h5, List.getElem?_append_left (by omega), List.getElem?_append_left (by omega)]
        exact ⟨e1, e2, keep e3⟩
      · obtain rfl : k = ps.length := by omega
        dsimp only
        rw [if_neg (by omega), kn_snoc_eq rfl, fr_snoc_eq rfl, ← hxl, List.getElem?_append_right (by omega), List.getElem?_append_right (by omega)]
        refine ⟨by simp, by simp, (keep hr).mono hBH⟩
    · rw [List.length_append, List.length_singleton] at hj
      dsimp only
      rw [if_pos (by omega)]
      rcases Nat.lt_or_ge j ps.length with h5 | h5
      · rw [if_pos h5]
        exact h3 i j hij h5
      · rw [if_neg (by omega)]
        exact (hrj i (by omega)).symm
set_option maxHeartbeats 1000000 in
theorem l01Once_any (w0 : World) (v : Value) (zs : List Int) (g : Nat) (n : Int) (w : World) (hr : RdB w0 v zs) (hl : zs.length ≤ 1048576) (hb : Nx w0 w) (hc : Cur w0 w g v zs.length) (n0 : 1 ≤ n) (n1 : n ≤ 256) :
    Calls Try.prog 35 #[.pointer (some ⟨g, 0, none⟩), .int .i64 n] w fun e w' => ∃ x, e = .returned (.bool x) ∧ Cur w0 w' g v zs.length ∧ w.grownBy w' (some g) := by
  go_enter Try.func35, Try.ntmps35
  go_wp2_with (go_at_call 51; fail)
  refine (l01Below_any w0 v zs g n w hr hl hb hc n0 n1).mono ?_
  rintro e w1 ⟨x, rfl, _, hc1, hg1⟩
  have HC := hide hc1
  have HG := hide hg1
  clear hc1 hg1
  go_wp2_with fail
  go_ret
  exact ⟨_, rfl, HC.out, HG.out⟩
set_option maxHeartbeats 1000000 in
theorem l01PickInt_any (w0 : World) (v : Value) (zs : List Int) (g : Nat) (gu : Nat) (xs : List Int) (n c : Nat) (w : World) (hr : RdB w0 v zs) (hl : zs.length ≤ 1048576) (hb : Nx w0 w) (hc : Cur w0 w g v zs.length) (hu : RdI w (.slice (some ⟨gu, 0, none⟩) n c) xs) (hne : gu ≠ g) (hn : xs.length = n) (n0 : 1 ≤ n) (n1 : n ≤ 256) :
    Calls Try.prog 52 #[.pointer (some ⟨g, 0, none⟩), .slice (some ⟨gu, 0, none⟩) n c] w fun e w' => ∃ y, e = .returned (.int .i64 y) ∧ y ∈ xs ∧ Cur w0 w' g v zs.length ∧ w.grownBy w' (some g) := by
  subst hn
  obtain ⟨b, off, e, hbl, hcl⟩ := hu.cells n0
  injection e with e
  injection e with e1 e2
  subst e1
  subst e2
  have Hcl := hide hcl
  clear hcl hu
  go_enter Try.func52, Try.ntmps52
  go_wp2_with (go_at_call 51; fail)
  refine (l01Below_any w0 v zs g (xs.length : Int) w hr hl hb hc (by omega) (by omega)).mono ?_
  rintro e w1 ⟨x, rfl, hx, hc1, hg1⟩
  obtain ⟨i, rfl⟩ := Int.eq_ofNat_of_zero_le hx.1
  have hi : i < xs.length := by omega
  have q1 : w1.cell? ⟨gu, i, none⟩ = some (.int .i64 (gt xs i)) := by
    have := Hcl.out i hi
    rw [Nat.zero_add] at this
    exact (World.cell?_of_block (hg1.block gu hbl (fun e => hne (by injection e)))).trans this
  have HC := hide hc1
  have HG := hide hg1
  clear hc1 hg1 hc hb
  go_wp2_with fail
  go_ret
  exact ⟨_, rfl, gt_mem hi, HC.out, HG.out⟩
/-- what one knows while he is drawn. -/
def KOk (ks : List Int) (j : Nat) : Prop := ks.length ≤ j ∧ (∀ i, i < ks.length → 0 ≤ gt ks i ∧ gt ks i < (j : Int)) ∧ ∀ i, 0 < i → i < ks.length → gt ks (i - 1) < gt ks i
theorem KOk.skip {ks : List Int} {j : Nat} (h : KOk ks j) : KOk ks (j + 1) := ⟨by have := h.1; omega, fun i hi => by have := h.2.1 i hi; omega, h.2.2⟩
theorem KOk.snoc {ks : List Int} {j : Nat} (h : KOk ks j) : KOk (ks ++ [(j : Int)]) (j + 1) := by
  refine ⟨by rw [List.length_append, List.length_singleton]; have := h.1; omega, fun i hi => ?_, fun i h0 hi => ?_⟩
  · rw [List.length_append, List.length_singleton] at hi
    rcases Nat.lt_or_ge i ks.length with h1 | h1
    · rw [gt_append_left h1]; have := h.2.1 i h1; omega
    · obtain rfl : i = ks.length := by omega
      rw [gt_snoc]; omega
  · rw [List.length_append, List.length_singleton] at hi
    rcases Nat.lt_or_ge i ks.length with h1 | h1
    · rw [gt_append_left h1, gt_append_left (by omega)]; exact h.2.2 i h0 h1
    · obtain rfl : i = ks.length := by omega
      rw [gt_snoc, gt_append_left (by omega)]
      exact (h.2.1 _ (by omega)).2
theorem KOk.strict {ks : List Int} {j : Nat} (h : KOk ks j) (hj : j ≤ 6) : strictL 0 6 ks = true ∧ ∀ x ∈ ks, x ≤ 5 := by
  constructor
  · rw [strictL_of fun k hk h0 => h.2.2 k h0 hk]
    exact allW_iff.2 fun k hk => by have := h.2.1 k hk; omega
  · intro x hx
    obtain ⟨k, hk, rfl⟩ := mem_gt.1 hx
    have := h.2.1 k hk
    omega
theorem OwI.nil0 (w : World) (B : Nat) : OwI w B (.slice none 0 0) [] := OwI.nil w B
theorem hc_kept {w0 w w' : World} {g n : Nat} {v : Value} {row : Option Nat} (h : Cur w0 w g v n) (hb : w.grownBy w' row) (hne : row ≠ some g) : Cur w0 w' g v n := h.kept hb (Ne.symm hne)
/-- drawn players. -/
def TrOk (ps : List Plr) : Prop := ∀ k, k < ps.length → strictL 0 6 (kn ps k) = true ∧ (∀ x ∈ kn ps k, x ≤ 5) ∧ 0 ≤ fr ps k ∧ fr ps k ≤ 2
theorem TrOk.snoc {ps : List Plr} (h : TrOk ps) {ks : List Int} (hk : KOk ks 6) {y : Int} (hy : 0 ≤ y ∧ y ≤ 2) : TrOk (ps ++ [(ks, y)]) := by
  intro k hk'
  rw [List.length_append, List.length_singleton] at hk'
  rcases Nat.lt_or_ge k ps.length with h1 | h1
  · rw [kn_snoc_lt h1, fr_snoc_lt h1]; exact h k h1
  · rw [kn_snoc_eq (by omega), fr_snoc_eq (by omega)]
    have := hk.strict (Nat.le_refl 6)
    exact ⟨this.1, this.2, hy⟩
theorem TrOk.ok {ps : List Plr} (h : TrOk ps) (h1 : 1 ≤ ps.length) (h2 : ps.length ≤ 6) : playersOk ps = true :=
  playersOk_iff.2 ⟨fun k hk => ⟨(h k hk).1, (h k hk).2.2⟩, h1, h2⟩
set_option maxHeartbeats 600000 in
theorem l13List_any (w0 : World) (v : Value) (zs : List Int) (g : Nat) (w : World) (hr : RdB w0 v zs) (hl : zs.length ≤ 1048576) (hb : Nx w0 w) (hc : Cur w0 w g v zs.length) :
    Calls Try.prog 34 #[.pointer (some ⟨g, 0, none⟩)] w fun e w' => ∃ u, e = .returned u ∧ ∃ ps, OwP w' w.heap.size u ps ∧ TrOk ps ∧ (1 ≤ ps.length ∧ ps.length ≤ 5) ∧ Cur w0 w' g v zs.length ∧ Nx w0 w' := by
  have hgl := hc.lt
  have hbs := hb.size
  have hg0 : w0.heap.size ≤ g := by obtain ⟨h, _⟩ := hc; exact h
  have HC := hide (hc.below (Nx.made w (.cells #[] 44)))
  have HB := hide (hb.trans (Nx.made w (.cells #[] 44)))
  have HO := hide (OwP.made0 w)
  have hz1 : w.heap.size ≤ (w.alloc (.cells #[] 44)).heap.size := (Nx.made w (.cells #[] 44)).size
  clear hb hc
  go_enter Try.func34, Try.ntmps34
  go_wp2_with (go_at_call 51; fail)
  generalize World.alloc _ _ = w1 at HC HB HO hz1 ⊢
  refine (l01Below_any w0 v zs g 5 w1 hr hl HB.out HC.out (by omega) (by omega)).mono ?_
  rintro e w2 ⟨x, rfl, hx, hc2, hg2⟩
  obtain ⟨n, hn⟩ := Int.eq_ofNat_of_zero_le (show 0 ≤ 1 + x by omega)
  have hn5 : 1 ≤ n ∧ n ≤ 5 := by omega
  have hn1 : (n : Int) = 1 + x := hn.symm
  have HO2 := hide ((HO.out.toH.keptG hg2 (fun g' e => by injection e with e; exact .inl (by omega))).toP)
  have HB2 := hide (HB.out.grownAt hg2 hg0)
  have HC2 := hide hc2
  have hz2 : w.heap.size ≤ w2.heap.size := Nat.le_trans hz1 hg2.size
  clear hc2 hg2 HO HB HC hn hz1
  go_wp2_with fail
  go_loopw [3, 5] (fun q i wr => ∃ (k : Nat) (ps : List Plr), k ≤ n ∧ i = .int .i64 (k : Int) ∧ ps.length = k ∧ OwP wr w.heap.size q ps ∧ Hid (TrOk ps) ∧ Cur w0 wr g v zs.length ∧ Nx w0 wr ∧ w.heap.size ≤ wr.heap.size) (fun _ i _ => n - (intOf i).toNat)
  case atStart => exact ⟨0, [], Nat.zero_le _, rfl, rfl, HO2.out, fun k hk => absurd hk (by simp), HC2.out, HB2.out, hz2⟩
  case round =>
    clear HO2 HB2 HC2 hz2
    obtain ⟨k, ps, hk, rfl, hpl, hown, hok, hc, hb, hz⟩ := hrel
    have Hpl := hide hpl
    have HO := hide hown
    have HC := hide hc
    have HB := hide hb
    clear hpl hown hc hb
    by_cases hlt : k < n
    · have hki : (k : Int) < 1 + x := by omega
      have NA := Nx.made wr (.cells #[.int .i64 0, .int .i64 1, .int .i64 1, .int .i64 2, .int .i64 2] 3)
      have HU := hide (show RdI (wr.alloc (.cells #[.int .i64 0, .int .i64 1, .int .i64 1, .int .i64 2, .int .i64 2] 3)) (.slice (some ⟨wr.heap.size, 0, none⟩) 5 5) [0, 1, 1, 2, 2] from OwI.reads (B := wr.heap.size) (World.ownsRow_lit (base := wr.heap.size) (e := 3) (size := 1) wr #[.int .i64 0, .int .i64 1, .int .i64 1, .int .i64 2, .int .i64 2] 5 (Nat.le_refl _) (by unfold maxLen; omega) rfl))
      have HO1 := hide (HO.out.toH.below NA)
      have HC1 := hide (HC.out.below NA)
      have HB1 := hide (HB.out.trans NA)
      have hgw : g < wr.heap.size := HC.out.lt
      have hs1 : wr.heap.size ≤ (wr.alloc (.cells #[.int .i64 0, .int .i64 1, .int .i64 1, .int .i64 2, .int .i64 2] 3)).heap.size := NA.size
      clear NA HO HC HB
      go_wp2_with (go_at_call 52; fail)
      generalize World.alloc _ _ = wa at HU HO1 HC1 HB1 hs1 ⊢
      generalize hHs : wr.heap.size = Hs at HU HO1 hs1 hgw hz ⊢
      clear hHs
      refine (l01PickInt_any w0 v zs g Hs [0, 1, 1, 2, 2] 5 5 wa hr hl HB1.out HC1.out HU.out (by omega) rfl (by decide) (by decide)).mono ?_
      rintro e wb ⟨y, rfl, hy, hc3, hg3⟩
      have hy2 : 0 ≤ y ∧ y ≤ 2 := by
        simp at hy
        omega
      have HO3 := hide (HO1.out.keptG hg3 (fun g' e => by injection e with e; exact .inl (by omega)))
      have HB3 := hide (HB1.out.grownAt hg3 hg0)
      have HC3 := hide hc3
      have hs3 : Hs ≤ wb.heap.size := Nat.le_trans hs1 hg3.size
      clear hc3 hg3 HO1 HB1 HC1 HU hy hs1
      go_wp2_with fail
      have NB := Nx.made wb (.cells #[.slice none 0 0, .int .i64 y] 44)
      have BK := hide (Blk.new wb 44 #[.slice none 0 0, .int .i64 y])
      have HO4 := hide (HO3.out.below NB)
      have HB4 := hide (HB3.out.trans NB)
      have HC4 := hide (HC3.out.below NB)
      have hs4 : wb.heap.size < (wb.alloc (.cells #[.slice none 0 0, .int .i64 y] 44)).heap.size := by simp
      have HK4 := hide (OwI.nil0 (wb.alloc (.cells #[.slice none 0 0, .int .i64 y] 44)) (wb.alloc (.cells #[.slice none 0 0, .int .i64 y] 44)).heap.size)
      clear NB HO3 HB3 HC3
      generalize World.alloc _ _ = wc at BK HO4 HB4 HC4 hs4 HK4 ⊢
      generalize hHp : wb.heap.size = Hp at BK hs3 hs4 ⊢
      clear hHp
      go_loopw [7] (fun i wq => ∃ (j : Nat) (ks : List Int) (kv : Value), j ≤ 6 ∧ i = .int .i64 (j : Int) ∧ Blk wq Hp 44 #[kv, .int .i64 y] ∧ OwI wq wc.heap.size kv ks ∧ OwPH wq w.heap.size Hs u3 ps ∧ Hid (KOk ks j) ∧ Cur w0 wq g v zs.length ∧ Nx w0 wq ∧ wc.heap.size ≤ wq.heap.size) (fun i _ => 6 - (intOf i).toNat)
      case atStart => exact ⟨0, [], _, by omega, rfl, BK.out, HK4.out, HO4.out, ⟨by simp, fun i hi => absurd hi (by simp), fun i _ hi => absurd hi (by simp)⟩, HC4.out, HB4.out, Nat.le_refl _⟩
      case round =>
        clear BK HK4 HO4 HC4 HB4
        obtain ⟨j, ks, kv, hj, rfl, bk, hk4, ho4, hko, hc4, hb4, hz4⟩ := hrel
        have BK := hide bk
        have HK := hide hk4
        have HO := hide ho4
        have HC := hide hc4
        have HB := hide hb4
        clear bk hk4 ho4 hc4 hb4
        by_cases hjt : j < 6
        · have hji : (j : Int) < 6 := by omega
          go_wp2_with (go_at_call 35; fail)
          refine (l01Once_any w0 v zs g 2 _ hr hl HB.out HC.out (by omega) (by omega)).mono ?_
          rintro e wd ⟨x1, rfl, hc', hg'⟩
          have hgp : some g ≠ some Hp := fun e => by injection e with e; omega
          have BK5 := hide (BK.out.grown hg' (Ne.symm hgp))
          have HB5 := hide (HB.out.grownAt hg' hg0)
          have HK5 := hide (HK.out.kept hg' (HC.out.rowI HK.out))
          have HO5 := hide (HO.out.keptG hg' (fun g' e => .inl (by injection e with e; omega)))
          have HC5 := hide hc'
          have hz5 : wc.heap.size ≤ wd.heap.size := Nat.le_trans hz4 hg'.size
          clear hc' hg' BK HK HO HC HB
          cases x1 with
          | false =>
            go_wp2_with fail
            go_roundw
            case rel => exact ⟨j + 1, ks, kv, by omega, by go_num, BK5.out, HK5.out, HO5.out, hko.out.skip, HC5.out, HB5.out, hz5⟩
            case measure => simp [intOf]; omega
          | true =>
            have hl5 : ks.length ≤ 16777216 := by have := hko.out.1; omega
            have q0 : wd.cell? ⟨Hp, 0, none⟩ = some kv := BK5.out.cell 0
            have hnk : some Hp ≠ kv.ownBlock := fun e => by have := OwI.base HK5.out Hp e.symm; omega
            go_wp2_with (at_builtin; refine wpList_push rfl (.tmp 28) (.tmp 30) rfl wd wc.heap.size _ ks (j : Int) rfl rfl HK5.out hl5 hz5 ?_; intro v1 we hown1 hg1 _; obtain ⟨Ar, cr, hv1, _⟩ := hown1.open_; rw [show (ks ++ [(j : Int)]).length = ks.length + 1 by simp] at hv1; subst hv1; have BK6 := BK5.out.grown hg1 hnk; have q1 := BK6.cell 0; have f1 := BK6.frozen 0; have hb6 := HB5.out.pushed HK5.out (by omega) hg1; have hc6 := HC5.out.kept hg1 (Ne.symm (HC5.out.row HK5.out (by decide))); have hz6 := Nat.le_trans hz5 hg1.size; have ho6 := HO5.out.keptG hg1 (fun g' e => .inr (by have := OwI.base HK5.out g' e; omega)))
            have G := grown_set we Hp 0 (.slice Ar (ks.length + 1) cr)
            have R1 := hide (BK6.set_ 0 (.slice Ar (ks.length + 1) cr))
            have R2 := hide (hown1.kept G (.inr fun e => by have := (own_lt hown1 e).1; omega))
            have R3 := hide (ho6.keptG G (fun g' e => .inr (by injection e with e; omega)))
            have R4 := hide (hc6.kept G hgp)
            have R5 := hide (hb6.grownAt G (by omega))
            have hz8 := Nat.le_trans hz6 G.size
            clear q0 q1 f1 G BK6 hown1 hg1 hb6 hc6 ho6 BK5 HB5 HK5 HO5 HC5
            go_roundw
            case rel => exact ⟨j + 1, ks ++ [(j : Int)], _, by omega, by go_num, R1.out, R2.out, R3.out, hko.out.snoc, R4.out, R5.out, hz8⟩
            case measure => simp [intOf]; omega
        · obtain rfl : j = 6 := by omega
          have q0 : wr.cell? ⟨Hp, 0, none⟩ = some kv := BK.out.cell 0
          have q1 : wr.cell? ⟨Hp, 1, none⟩ = some (.int .i64 y) := BK.out.cell 1
          have hp5 : ps.length ≤ 16777216 := by have := Hpl.out; omega
          go_wp2_with (at_builtin; refine wpList_pushPH rfl (.tmp 33) (.tmp 35) rfl wr w.heap.size Hs _ ps kv ks y rfl rfl HO.out (HK.out.mono (by omega)) hp5 hz (by omega) ?_; intro v3 w3' hown3 hg3)
          have hnx : ∀ q, u3.ownBlock = some q → w.heap.size ≤ q := fun q e => OwP.base HO.out.toP q e
          have R1 := hide (hc_kept HC.out hg3 (fun e => by have := hnx g e; omega))
          have R2 := hide (Below.grown HB.out hg3 HB.out.size (fun q e => Nat.le_trans hbs (hnx q e)))
          have hz7 := hg3.size
          clear q0 q1
          go_roundw
          case rel => exact ⟨k + 1, ps ++ [(ks, y)], by omega, by go_num, by simp [Hpl.out], hown3, hok.out.snoc hko.out hy2, R1.out, R2.out, by omega⟩
          case measure => simp [intOf]; omega
    · obtain rfl : k = n := by omega
      have hki : ¬ (k : Int) < 1 + x := by omega
      go_wp2_with fail
      go_ret
      exact ⟨_, rfl, ps, HO.out, hok.out, by have := Hpl.out; omega, HC.out, HB.out⟩
/-- drawn puppets. -/
theorem l17_snoc {ks : List Int} {j : Nat} (hl : ks.length < 3) : (ks ++ [(j : Int)]).length ≤ 3 := by rw [List.length_append, List.length_singleton]; omega
set_option maxHeartbeats 1000000 in
theorem DrawTroupe_any (v : Value) (zs : List Int) (w : World) (hr : RdB w v zs) (hl : zs.length ≤ 1048576) :
    Calls Try.prog 17 #[v] w fun e w' => ∃ u q, e = .returned (.tuple #[u, q]) ∧ ∃ ps pu, OwP w' w.heap.size u ps ∧ OwI w' w.heap.size q pu ∧ TrOk ps ∧ (1 ≤ ps.length ∧ ps.length ≤ 5) ∧ pu.length ≤ 3 ∧ (∀ k, k < pu.length → 0 ≤ gt pu k ∧ gt pu k ≤ 5) ∧ Nx w w' := by
  go_enter Try.func17, Try.ntmps17
  go_wp2_with (go_at_call 33; fail)
  refine (l01New_any v zs w hr hl).mono ?_
  rintro e w1 ⟨rfl, hc1, hb1⟩
  have hz1 := hb1.size
  have hg1 : w.heap.size < w1.heap.size := hc1.lt
  have HC := hide hc1
  have HB := hide hb1
  clear hc1 hb1
  go_wp2_with (go_at_call 34; fail)
  refine (l13List_any w v zs w.heap.size w1 hr hl HB.out HC.out).mono ?_
  rintro e w2 ⟨u, rfl, ps, ho, hok, hn, hc, hb⟩
  have hz2 := hb.size
  have NA := Nx.made w2 (.cells #[] 3)
  have HB2 := hide (hb.trans NA)
  have HC2 := hide (hc.below NA)
  have HO2 := hide (ho.toH.below NA)
  have HI2 := hide (OwI.made0 w2)
  have HOK := hide hok
  have HN := hide hn
  have hs3 : w2.heap.size ≤ (w2.alloc (.cells #[] 3)).heap.size := NA.size
  have hgw : w.heap.size < w2.heap.size := hc.lt
  clear ho hok hn hc hb NA HC HB
  go_wp2_with fail
  generalize World.alloc _ _ = w3 at HB2 HC2 HO2 HI2 hs3 ⊢
  generalize hHs : w2.heap.size = Hs at HO2 HI2 hs3 hz2 hgw ⊢
  clear hHs
  go_loopw [6, 7] (fun q i wr => ∃ (j : Nat) (pu : List Int), j ≤ 6 ∧ i = .int .i64 (j : Int) ∧ pu.length ≤ 3 ∧ OwI wr Hs q pu ∧ OwPH wr w1.heap.size Hs u ps ∧ Hid (KOk pu j) ∧ Cur w wr w.heap.size v zs.length ∧ Nx w wr ∧ Hs ≤ wr.heap.size) (fun _ i _ => 6 - (intOf i).toNat)
  case atStart => exact ⟨0, [], by omega, rfl, by simp, HI2.out, HO2.out, ⟨by simp, fun i hi => absurd hi (by simp), fun i _ hi => absurd hi (by simp)⟩, HC2.out, HB2.out, hs3⟩
  case round =>
    clear HI2 HO2 HB2 HC2 hs3
    obtain ⟨j, pu, hj, rfl, hpl, hownI, hown, hko, hc, hb, hz⟩ := hrel
    have HI := hide hownI
    have HO := hide hown
    have HC := hide hc
    have HB := hide hb
    clear hownI hown hc hb
    obtain ⟨A, c, rfl, _⟩ := HI.out.open_
    have fin : j = 6 ∨ ¬ ((pu.length : Int) < 3) → OwP wr w.heap.size u ps ∧ OwI wr w.heap.size (.slice A pu.length c) pu ∧ TrOk ps ∧ (1 ≤ ps.length ∧ ps.length ≤ 5) ∧ pu.length ≤ 3 ∧ (∀ k, k < pu.length → 0 ≤ gt pu k ∧ gt pu k ≤ 5) ∧ Nx w wr := fun _ => ⟨HO.out.toP.mono hz1, HI.out.mono (by omega), HOK.out, HN.out, hpl, fun k hk => by have := hko.out.2.1 k hk; omega, HB.out⟩
    have Fin := hide fin
    clear fin
    by_cases hjt : j < 6
    · by_cases hpt : (pu.length : Int) < 3
      · have hji : (j : Int) < 6 := by omega
        go_wp2_with (go_at_call 35; fail)
        refine (l01Once_any w v zs w.heap.size 3 _ hr hl HB.out HC.out (by omega) (by omega)).mono ?_
        rintro e wb ⟨x, rfl, hc', hg'⟩
        have HB4 := hide (HB.out.grownAt hg' (Nat.le_refl _))
        have HI4 := hide (HI.out.kept hg' (HC.out.rowI HI.out))
        have HO4 := hide (HO.out.keptG hg' (fun g' e => .inl (by injection e with e; omega)))
        have HC4 := hide hc'
        have hz4 : Hs ≤ wb.heap.size := Nat.le_trans hz hg'.size
        clear hc' hg' HC HI HB HO
        cases x with
        | false =>
          go_wp2_with fail
          go_roundw
          case rel => exact ⟨j + 1, pu, by omega, by go_num, hpl, HI4.out, HO4.out, hko.out.skip, HC4.out, HB4.out, hz4⟩
          case measure => simp [intOf]; omega
        | true =>
          have hl5 : pu.length ≤ 16777216 := by omega
          go_wp2_with (at_builtin; refine wpList_push rfl (.tmp 24) (.tmp 26) rfl wb Hs _ pu (j : Int) rfl rfl HI4.out hl5 hz4 ?_; intro v1 we hown1 hg1 _; have hb5 := HB4.out.pushed HI4.out (Nat.le_of_lt hgw) hg1; have hc5 := HC4.out.kept hg1 (Ne.symm (HC4.out.row HI4.out (by decide))); have hz5 := Nat.le_trans hz4 hg1.size; have hm5 := HO4.out.keptG hg1 (fun g' e => .inr (OwI.base HI4.out g' e)))
          go_roundw
          case rel => exact ⟨j + 1, pu ++ [(j : Int)], by omega, by go_num, l17_snoc (by omega), hown1, hm5, hko.out.snoc, hc5, hb5, hz5⟩
          case measure => simp [intOf]; omega
      · have hji : (j : Int) < 6 := by omega
        have F := hide (Fin.out (.inr hpt))
        go_wp2_with fail
        go_ret2
        exact ⟨_, _, rfl, ps, F.out.1, pu, F.out.2⟩
    · obtain rfl : j = 6 := by omega
      have F := hide (Fin.out (.inl rfl))
      go_wp2_with fail
      go_ret2
      exact ⟨_, _, rfl, ps, F.out.1, pu, F.out.2⟩

end Go.Proofs.Ytfilpeamhcdgfaa
