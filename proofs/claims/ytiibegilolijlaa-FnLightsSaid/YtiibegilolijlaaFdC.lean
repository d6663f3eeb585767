/- Slices of fades: how they are copied. -/
import Derived.Test.YtiibegilolijlaaFdO
import Derived.Laws.MakeOwn
import Derived.WalkKit
import Derived.ProofKit
import Derived.Handy
import Derived.OpenShut
import Derived.ShutString
import Derived.ChangeOld
import Derived.Below
import Derived.BigQuiet
import Derived.Deep.QuietTactic
import Derived.Deep.Draws
import Derived.Deep.DeepCutAuto
import Derived.Deep.DeepFit
import Derived.Deep.LoopGhost
import Derived.Outline
import Derived.WalkSpells
import Derived.WalkLawsBesides
import Derived.WalkSmall
import Derived.Laws.OwnMore
import Derived.OneCell
import Derived.Laws.Rows
import Derived.Maps.AppendAt
import Derived.StillTailTactics
import Derived.Lib.SmallJoins
import Derived.Deep.RegionWith
import Derived.Deep.RegionHeld3
import Derived.RegionTactic
import Derived.Deep.Matrix
import Derived.Deep.Fields
import Derived.ChangeSame
namespace Go.Proofs.Ytiibegilolijlaa
open Go.RowKit

theorem run_make_rowN {P : Program} (t e : TypeId) (i : TypeInfo) (z : Value) (ht : P.underlying t = some (.slice e)) (hi : P.info? e = some i) (hz : i.zero = some z)
    (kl kc : IntKind) (n c : Nat) (hnc : n ≤ c) (hbytes : i.bytes * c ≤ 281474976710656) (h63 : c ≤ 9223372036854775807) (w : World) :
    (Instr.makeSlice t (.int kl (n : Int)) (.int kc (c : Int))).run P w = .ok (.slice (some ⟨w.heap.size, 0, none⟩) n c) (w.alloc (.cells (madeCells z.cells (c * i.size)) e)) := by
  have hb : (i.bytes : Int) * (c : Int) ≤ 281474976710656 := by
    have h : ((i.bytes * c : Nat) : Int) ≤ 281474976710656 := by omega
    rwa [Int.natCast_mul] at h
  have hr := run_make (P := P) w t e i z ht hi hz kl kc n c (by omega) (by omega) hb (by omega)
  simp only [Int.toNat_natCast] at hr
  exact hr

set_option maxHeartbeats 400000 in
theorem toFade_any (a0 a1 a2 a3 : Int) (w : World) : Calls Try.prog 28 #[.agg #[.int .i64 a0, .int .i64 a1, .int .i64 a2, .int .i64 a3]] w fun e w' => e = .returned (.agg #[.int .i64 a0, .int .i64 a1, .int .i64 a2, .int .i64 a3]) ∧ Nx w w' := by
  go_enter Try.func28, Try.ntmps28
  go_wp2
  go_returns
  exact ⟨rfl, by go_grown⟩
set_option maxHeartbeats 400000 in
theorem eqFade_same (a0 a1 a2 a3 : Int) (w : World) : Calls Try.prog 30 #[.agg #[.int .i64 a0, .int .i64 a1, .int .i64 a2, .int .i64 a3], .agg #[.int .i64 a0, .int .i64 a1, .int .i64 a2, .int .i64 a3]] w fun e w' => e = .returned (.bool true) ∧ Nx w w' := by
  go_enter Try.func30, Try.ntmps30
  go_wp2
  go_ret
  exact ⟨rfl, by go_grown⟩
def szFadeV (left n : Int) : Int := if left - n < 0 then -1 else left - n
set_option maxHeartbeats 400000 in
theorem szFadeS_any (v : Value) (rows : List (List Int)) (left : Int) (w : World) (h : RdS w v rows) (hl : rows.length ≤ maxLen) (l0 : 0 ≤ left) (l1 : left ≤ 1048576) :
    Calls Try.prog 9 #[v, .int .i64 left] w fun e w' => ∃ s, e = .returned (.int .i64 s) ∧ (0 ≤ s → rows.length ≤ 1048576 ∧ s ≤ 1048576) ∧ Nx w w' := by
  obtain ⟨A, c, hcap, rfl, hx⟩ := h
  clear hx
  unfold maxLen at hl
  by_cases hlt : left - (rows.length : Int) < 0
  · go_enter Try.func9, Try.ntmps9
    go_wp2
    go_ret
    exact ⟨-1, rfl, fun h => absurd h (by omega), Below.refl _ _⟩
  · go_enter Try.func9, Try.ntmps9
    go_wp2
    go_ret
    exact ⟨left - (rows.length : Int), rfl, fun h => by omega, Below.refl _ _⟩

theorem FadeInfo : (Try.prog.info? 38).map (fun i => (i.zero, i.size, i.bytes)) = some (some (.agg #[.int .i64 0, .int .i64 0, .int .i64 0, .int .i64 0]), 4, 32) := by kernel_rfl
/-- a block of structs, the first k filled. -/
def Half (w : World) (g n k : Nat) (rows : List (List Int)) : Prop :=
  ∃ cs : Array Value, w.heap[g]? = some (.cells cs 38 (0, 0)) ∧ cs.size = n * 4 ∧ ∀ i j, i < k → j < 4 → cs[i * 4 + j]? = some (.int .i64 (fd rows i j))
theorem blk_set {w : World} {g : Nat} {t : TypeId} {cs : Array Value} (h : w.heap[g]? = some (.cells cs t (0, 0))) {i : Nat} {u : Value} : (w.setCell ⟨g, i, none⟩ u).heap[g]? = some (.cells (cs.setIfInBounds i u) t (0, 0)) := by
  simp [World.setCell, Array.getElem?_modify, h]
theorem Half.cell {w : World} {g n k : Nat} {rows : List (List Int)} (h : Half w g n k rows) (o : Nat) (ho : o < n * 4) : ∃ u, w.cell? ⟨g, o, none⟩ = some u := by
  obtain ⟨cs, h1, h2, _⟩ := h
  rw [cell_of_row w g o cs 38 (0, 0) h1]
  exact ⟨_, Array.getElem?_eq_getElem (by omega)⟩
theorem Half.frozen {w : World} {g n k : Nat} {rows : List (List Int)} (h : Half w g n k rows) (o : Nat) : w.frozen? ⟨g, o, none⟩ = false := by
  obtain ⟨cs, h1, _⟩ := h
  simp [World.frozen?, h1]
theorem Half.put {w : World} {g n k : Nat} {rows : List (List Int)} (h : Half w g n k rows) (hk : k < n) :
    Half ((((w.setCell ⟨g, k * 4, none⟩ (.int .i64 (fd rows k 0))).setCell ⟨g, k * 4 + 1, none⟩ (.int .i64 (fd rows k 1))).setCell ⟨g, k * 4 + 2, none⟩ (.int .i64 (fd rows k 2))).setCell ⟨g, k * 4 + 3, none⟩ (.int .i64 (fd rows k 3))) g n (k + 1) rows := by
  obtain ⟨cs, h, h2, h3⟩ := h
  refine ⟨_, (blk_set (blk_set (blk_set (blk_set h)))), by simpa using h2, fun i j hi hj => ?_⟩
  have hj' : j = 0 ∨ j = 1 ∨ j = 2 ∨ j = 3 := by omega
  rcases Nat.lt_or_ge i k with hik | hik
  · have := h3 i j hik hj
    simp only [Array.getElem?_setIfInBounds, Array.size_setIfInBounds]
    repeat rw [if_neg (by omega)]
    exact this
  · obtain rfl : i = k := by omega
    rcases hj' with rfl | rfl | rfl | rfl <;> simp [Array.getElem?_setIfInBounds, h2] <;> omega
theorem Half.below {w w' : World} {g n k : Nat} {rows : List (List Int)} (h : Half w g n k rows) (hb : Nx w w') : Half w' g n k rows := by
  obtain ⟨cs, h1, h2⟩ := h
  exact ⟨cs, (hb.block g (lt_of_block h1)).trans h1, h2⟩
set_option maxHeartbeats 1000000 in
theorem toFadeS_any (v : Value) (rows : List (List Int)) (w : World) (h : RdS w v rows) (hl : rows.length ≤ 1048576) :
    Calls Try.prog 11 #[v] w fun e w' => ∃ u, e = .returned u ∧ RdS w' u rows ∧ Nx w w' := by
  obtain ⟨A, c, hcap, rfl, hx⟩ := h
  obtain ⟨i0, hi, hz0, hz1, hz2⟩ := info_parts FadeInfo
  have hmk := fun W => run_make_rowN (P := Try.prog) 25 38 i0 (.agg #[.int .i64 0, .int .i64 0, .int .i64 0, .int .i64 0]) Try.underlying25 hi hz0 .i64 .i64 rows.length rows.length (Nat.le_refl _) (by rw [hz2]; omega) (by omega) W
  rw [hz1] at hmk
  have Hx := hide hx
  clear hx hi hz0 hz1 hz2
  go_enter Try.func11, Try.ntmps11
  go_wp2_with fail
  have h0 : Half (w.alloc (.cells (madeCells (Value.cells (.agg #[.int .i64 0, .int .i64 0, .int .i64 0, .int .i64 0])) (rows.length * 4)) 38)) w.heap.size rows.length 0 rows := by
    exact ⟨_, heap_alloc_new w _, size_madeCells _ _, fun i j hi => absurd hi (by omega)⟩
  have H0 := hide h0
  have Hb0 := hide (Nx.made w (.cells (madeCells (Value.cells (.agg #[.int .i64 0, .int .i64 0, .int .i64 0, .int .i64 0])) (rows.length * 4)) 38))
  clear h0 hmk
  go_loopw [4] (fun i wr => ∃ k : Nat, k ≤ rows.length ∧ i = .int .i64 k ∧ Half wr w.heap.size rows.length k rows ∧ Nx w wr) (fun i _ => rows.length - (intOf i).toNat)
  case atStart => exact ⟨0, Nat.zero_le _, rfl, H0.out, Hb0.out⟩
  case round =>
    clear H0 Hb0
    obtain ⟨k, hk, rfl, hh, hb⟩ := hrel
    by_cases hlt : k < rows.length
    · obtain ⟨b0, off, rfl, hb0, hc⟩ := Hx.out (by omega)
      have hc0 : wr.cell? ⟨b0, off + k * 4, none⟩ = some (.int .i64 (fd rows k 0)) := (hb.cell (p := ⟨b0, off + k * 4, none⟩) hb0).trans (hc k 0 hlt (by omega))
      have hc1 : wr.cell? ⟨b0, off + k * 4 + 1, none⟩ = some (.int .i64 (fd rows k 1)) := (hb.cell (p := ⟨b0, off + k * 4 + 1, none⟩) hb0).trans (hc k 1 hlt (by omega))
      have hc2 : wr.cell? ⟨b0, off + k * 4 + 2, none⟩ = some (.int .i64 (fd rows k 2)) := (hb.cell (p := ⟨b0, off + k * 4 + 2, none⟩) hb0).trans (hc k 2 hlt (by omega))
      have hc3 : wr.cell? ⟨b0, off + k * 4 + 3, none⟩ = some (.int .i64 (fd rows k 3)) := (hb.cell (p := ⟨b0, off + k * 4 + 3, none⟩) hb0).trans (hc k 3 hlt (by omega))
      have Hh := hide hh
      have Hb := hide hb
      have hk1 : (k : Int) < (rows.length : Int) := by omega
      clear hh hb hc
      go_wp2_with fail
      refine (toFade_any _ _ _ _ _).mono ?_
      rintro e w1 ⟨rfl, b⟩
      have hh1 := Hh.out.below b
      obtain ⟨o0, hq0⟩ := hh1.cell (k * 4) (by omega)
      obtain ⟨o1, hq1⟩ := hh1.cell (k * 4 + 1) (by omega)
      obtain ⟨o2, hq2⟩ := hh1.cell (k * 4 + 2) (by omega)
      obtain ⟨o3, hq3⟩ := hh1.cell (k * 4 + 3) (by omega)
      have hfz := fun o => hh1.frozen o
      have R := hide (hh1.put hlt)
      have Rb := hide (Hb.out.trans b)
      clear b
      go_wp2_with fail
      go_roundw
      case rel => exact ⟨k + 1, by omega, by go_num, R.out, ((((Rb.out).setCell (p := ⟨w.heap.size, k * 4, none⟩) (Nat.le_refl _) (.int .i64 (fd rows k 0))).setCell (p := ⟨w.heap.size, k * 4 + 1, none⟩) (Nat.le_refl _) (.int .i64 (fd rows k 1))).setCell (p := ⟨w.heap.size, k * 4 + 2, none⟩) (Nat.le_refl _) (.int .i64 (fd rows k 2))).setCell (p := ⟨w.heap.size, k * 4 + 3, none⟩) (Nat.le_refl _) (.int .i64 (fd rows k 3))⟩
      case measure => simp [intOf]; omega
    · obtain rfl : k = rows.length := by omega
      have Hh := hide hh
      have Hb := hide hb
      clear hh hb
      go_wp2_with fail
      go_ret
      refine ⟨_, rfl, ⟨_, _, Nat.le_refl _, rfl, fun _ => ⟨w.heap.size, 0, rfl, ?_, fun i j hi hj => ?_⟩⟩, Hb.out⟩
      · obtain ⟨cs, h1, _⟩ := Hh.out
        exact lt_of_block h1
      · obtain ⟨cs, h1, h2, h3⟩ := Hh.out
        rw [cell_of_row _ _ _ cs 38 (0, 0) h1, Nat.zero_add]
        exact h3 i j hi hj
set_option maxHeartbeats 1000000 in
theorem eqFadeS_same (v u : Value) (rows : List (List Int)) (w : World) (h : RdS w v rows) (h' : RdS w u rows) (hl : rows.length ≤ 1048576) :
    Calls Try.prog 13 #[v, u] w fun e w' => e = .returned (.bool true) ∧ Nx w w' := by
  obtain ⟨A, c, hcap, rfl, hx⟩ := h
  obtain ⟨A', c', hcap', rfl, hx'⟩ := h'
  have Hx := hide hx
  have Hx' := hide hx'
  clear hx hx'
  go_enter Try.func13, Try.ntmps13
  go_wp2_with fail
  go_loopw [5] (fun i wr => ∃ k : Nat, k ≤ rows.length ∧ i = .int .i64 k ∧ Nx w wr) (fun i _ => rows.length - (intOf i).toNat)
  case atStart => exact ⟨0, Nat.zero_le _, rfl, Below.refl _ _⟩
  case round =>
    obtain ⟨k, hk, rfl, hb⟩ := hrel
    by_cases hlt : k < rows.length
    · obtain ⟨b0, off, rfl, hb0, hc⟩ := Hx.out (by omega)
      obtain ⟨b1, off1, rfl, hb1, hcB⟩ := Hx'.out (by omega)
      have hc0 : wr.cell? ⟨b0, off + k * 4, none⟩ = some (.int .i64 (fd rows k 0)) := (hb.cell (p := ⟨b0, off + k * 4, none⟩) hb0).trans (hc k 0 hlt (by omega))
      have hc1 : wr.cell? ⟨b0, off + k * 4 + 1, none⟩ = some (.int .i64 (fd rows k 1)) := (hb.cell (p := ⟨b0, off + k * 4 + 1, none⟩) hb0).trans (hc k 1 hlt (by omega))
      have hc2 : wr.cell? ⟨b0, off + k * 4 + 2, none⟩ = some (.int .i64 (fd rows k 2)) := (hb.cell (p := ⟨b0, off + k * 4 + 2, none⟩) hb0).trans (hc k 2 hlt (by omega))
      have hc3 : wr.cell? ⟨b0, off + k * 4 + 3, none⟩ = some (.int .i64 (fd rows k 3)) := (hb.cell (p := ⟨b0, off + k * 4 + 3, none⟩) hb0).trans (hc k 3 hlt (by omega))
      have hd0 : wr.cell? ⟨b1, off1 + k * 4, none⟩ = some (.int .i64 (fd rows k 0)) := (hb.cell (p := ⟨b1, off1 + k * 4, none⟩) hb1).trans (hcB k 0 hlt (by omega))
      have hd1 : wr.cell? ⟨b1, off1 + k * 4 + 1, none⟩ = some (.int .i64 (fd rows k 1)) := (hb.cell (p := ⟨b1, off1 + k * 4 + 1, none⟩) hb1).trans (hcB k 1 hlt (by omega))
      have hd2 : wr.cell? ⟨b1, off1 + k * 4 + 2, none⟩ = some (.int .i64 (fd rows k 2)) := (hb.cell (p := ⟨b1, off1 + k * 4 + 2, none⟩) hb1).trans (hcB k 2 hlt (by omega))
      have hd3 : wr.cell? ⟨b1, off1 + k * 4 + 3, none⟩ = some (.int .i64 (fd rows k 3)) := (hb.cell (p := ⟨b1, off1 + k * 4 + 3, none⟩) hb1).trans (hcB k 3 hlt (by omega))
      have Hb := hide hb
      have hk1 : (k : Int) < (rows.length : Int) := by omega
      clear hb hc hcB Hx Hx'
      go_wp2_with fail
      go_still_tail 8, (by kernel_rfl)
      go_wp2_with (go_at_call 30; fail)
      refine (eqFade_same _ _ _ _ _).mono ?_
      rintro e w1 ⟨rfl, h1⟩
      have Rb := hide (Hb.out.trans_drew h1)
      clear h1
      go_wp2_with fail
      go_roundw
      case rel => exact ⟨k + 1, by omega, by go_num, Rb.out⟩
      case measure => simp [intOf]; omega
    · obtain rfl : k = rows.length := by omega
      go_wp2_with fail
      go_ret
      exact ⟨rfl, hb⟩

end Go.Proofs.Ytiibegilolijlaa
