/- Marks on rows. -/
import Derived.Test.YtkjclpbemdilbaaMat
import Derived.WalkKit
import Derived.ProofKit
import Derived.Handy
import Derived.OpenShut
import Derived.ShutString
import Derived.ChangeOld
import Derived.Below
import Derived.BigQuiet
import Derived.Deep.QuietTactic
import Derived.Deep.Draws
import Derived.Deep.DeepCutAuto
import Derived.Deep.DeepFit
import Derived.Deep.LoopGhost
import Derived.Outline
import Derived.WalkSpells
import Derived.WalkLawsBesides
import Derived.WalkSmall
import Derived.Laws.OwnMore
import Derived.OneCell
import Derived.Laws.Rows
import Derived.Maps.AppendAt
import Derived.StillTailTactics
import Derived.Lib.SmallJoins
import Derived.Deep.RegionWith
import Derived.Deep.RegionHeld3
import Derived.RegionTactic
import Derived.Deep.Matrix
import Derived.Deep.Fields
import Derived.ChangeSame
namespace Go.Proofs.Ytkjclpbemdilbaa
open Go.RowKit

/-- Everything but the blocks from lo on and below hi is as it was. -/
structure Outb (lo hi : Nat) (w w' : World) : Prop where
  os : w'.os = w.os
  tape : w'.tape = w.tape
  output : w'.output = w.output
  size : w.heap.size ≤ w'.heap.size
  block : ∀ b, b < w.heap.size → b < lo ∨ hi ≤ b → w'.heap[b]? = w.heap[b]?
theorem Outb.refl (lo hi : Nat) (w : World) : Outb lo hi w w := ⟨rfl, rfl, rfl, Nat.le_refl _, fun _ _ _ => rfl⟩
theorem Outb.grown {lo hi : Nat} {w w1 w' : World} (h : Outb lo hi w w1) {row : Option Nat} (hg : w1.grownBy w' row) (hr : ∀ g, row = some g → lo ≤ g ∧ g < hi) : Outb lo hi w w' :=
  ⟨hg.os.trans h.os, hg.tape.trans h.tape, hg.output.trans h.output, Nat.le_trans h.size hg.size, fun b hb ho => (hg.block b (Nat.lt_of_lt_of_le hb h.size) (fun e => by have := hr b e.symm; omega)).trans (h.block b hb ho)⟩
theorem Nx.outb {w0 w w' : World} {lo hi : Nat} (h : Nx w0 w) (k : Outb lo hi w w') (hl : w0.heap.size ≤ lo) : Nx w0 w' :=
  ⟨k.os.trans h.os, k.tape.trans h.tape, k.output.trans h.output, Nat.le_trans h.size k.size, fun b hb => (k.block b (Nat.lt_of_lt_of_le hb h.size) (.inl (by omega))).trans (h.block b hb)⟩
theorem owns_block {w w' : World} {B : Nat} {e : TypeId} {size n : Nat} {v : Value} {xs : List Value} (h : w.ownsRow B e size v n xs) (hb : ∀ g, v.ownBlock = some g → w'.heap[g]? = w.heap[g]?) : w'.ownsRow B e size v n xs := by
  obtain ⟨h1, h2⟩ := h
  refine ⟨h1, ?_⟩
  rcases h2 with h2 | ⟨g, cap, cur, hv, hB, hg, h3⟩
  · exact .inl h2
  · exact .inr ⟨g, cap, cur, hv, hB, (hb g (by rw [hv]; rfl)).trans hg, h3⟩
/-- A slice of the program's own in a block from B on and below H. -/
def OwIH (w : World) (B H : Nat) (v : Value) (zs : List Int) : Prop := OwI w B v zs ∧ ∀ g, v.ownBlock = some g → g < H
theorem OwI.toH {w : World} {B : Nat} {v : Value} {zs : List Int} (h : OwI w B v zs) : OwIH w B w.heap.size v zs := ⟨h, fun _ hg => (own_lt h hg).2⟩
theorem OwIH.below {w w' : World} {B H : Nat} {v : Value} {zs : List Int} (h : OwIH w B H v zs) (hb : Nx w w') : OwIH w' B H v zs := ⟨h.1.below hb, h.2⟩
theorem OwIH.outb {w w' : World} {B H lo hi : Nat} {v : Value} {zs : List Int} (h : OwIH w B H v zs) (k : Outb lo hi w w') (ha : H ≤ lo ∨ hi ≤ B) : OwIH w' B H v zs :=
  ⟨owns_block h.1 fun g hg => by
    have h1 := own_lt h.1 hg
    have h2 := h.2 g hg
    exact k.block g h1.2 (by omega), h.2⟩
theorem OwIH.grownBy {w w' : World} {B H : Nat} {v : Value} {zs ys : List Int} (h : OwIH w B H v zs) (h' : OwI w' B v ys) (hg : w.grownBy w' v.ownBlock) : OwIH w' B H v ys ∧ Outb B H w w' :=
  ⟨⟨h', h.2⟩, (Outb.refl _ _ _).grown hg fun g hg => ⟨(own_lt h.1 hg).1, h.2 g hg⟩⟩
theorem OwIH.reads {w : World} {B H : Nat} {v : Value} {zs : List Int} (h : OwIH w B H v zs) : RdI w v zs := h.1.reads
/-- Rows of the program's own in blocks from B on and below H. -/
def OwMH (w : World) (B H : Nat) (v : Value) (rows : List (List Int)) : Prop :=
  ∃ rs : List Value, w.ownsRow B 36 1 v rows.length rs ∧ (∀ i, i < rows.length → OwI w B (vAt rs i) (rowAt rows i)) ∧ (∀ i, i < rows.length → Apart (vAt rs i) v) ∧ (∀ i j, i < j → j < rows.length → Apart (vAt rs i) (vAt rs j))
    ∧ (∀ g, v.ownBlock = some g → g < H) ∧ ∀ i, i < rows.length → ∀ g, (vAt rs i).ownBlock = some g → g < H
theorem OwMH.toM {w : World} {B H : Nat} {v : Value} {rows : List (List Int)} (h : OwMH w B H v rows) : OwM w B v rows := by
  obtain ⟨rs, h1, h2, h3, h4, _, _⟩ := h
  exact ⟨rfl, rs, h1, h2, h3, h4⟩
theorem OwM.toH {w : World} {B : Nat} {v : Value} {rows : List (List Int)} (h : OwM w B v rows) : OwMH w B w.heap.size v rows := by
  obtain ⟨_, rs, h1, h2, h3, h4⟩ := h
  exact ⟨rs, h1, h2, h3, h4, fun g hg => (World.ownsRow.lt h1 g hg).2, fun i hi g hg => (own_lt (h2 i hi) hg).2⟩
theorem OwMH.below {w w' : World} {B H : Nat} {v : Value} {rows : List (List Int)} (h : OwMH w B H v rows) (hb : Nx w w') : OwMH w' B H v rows := by
  obtain ⟨rs, h1, h2, h3, h4, h5, h6⟩ := h
  exact ⟨rs, owns_below h1 hb, fun i hi => (h2 i hi).below hb, h3, h4, h5, h6⟩
theorem OwMH.outb {w w' : World} {B H lo hi : Nat} {v : Value} {rows : List (List Int)} (h : OwMH w B H v rows) (k : Outb lo hi w w') (ha : H ≤ lo ∨ hi ≤ B) : OwMH w' B H v rows := by
  obtain ⟨rs, h1, h2, h3, h4, h5, h6⟩ := h
  refine ⟨rs, owns_block h1 fun g hg => ?_, fun i hi => ?_, h3, h4, h5, h6⟩
  · have e1 := World.ownsRow.lt h1 g hg
    have e2 := h5 g hg
    exact k.block g e1.2 (by omega)
  · exact (OwIH.outb ⟨h2 i hi, h6 i hi⟩ k ha).1
theorem OwMH.reads {w : World} {B H : Nat} {v : Value} {rows : List (List Int)} (h : OwMH w B H v rows) : RdM w v rows := h.toM.reads
/-- rows of numbers that go on from row to row. -/
def markRows (k : Int) (rows : List (List Int)) : List (List Int) := (List.range rows.length).map fun (i : Nat) => marks (k + (sumLen rows i : Int)) (rowAt rows i).length
theorem markRows_length (k : Int) (rows : List (List Int)) : (markRows k rows).length = rows.length := by simp [markRows]
theorem rowAt_markRows {k : Int} {rows : List (List Int)} {i : Nat} (h : i < rows.length) : rowAt (markRows k rows) i = marks (k + (sumLen rows i : Int)) (rowAt rows i).length := by simp [rowAt, markRows, h]

set_option maxHeartbeats 1000000 in
theorem markIntSS_any (v : Value) (rows : List (List Int)) (B H : Nat) (k : Int) (w : World) (h : OwMH w B H v rows) (hl : OkM rows) (k0 : 0 ≤ k) (k1 : k ≤ 1048576) :
    Calls Try.prog 31 #[v, .int .i64 k] w fun e w' => e = .returned (.int .i64 (k + (sumLen rows rows.length : Int))) ∧ OwMH w' B H v (markRows k rows) ∧ Outb B H w w' := by
  obtain ⟨rs, h1, h2, h3, h4, h5, h6⟩ := h
  have hn := hl.1
  have hrow := hide (fun i hi => hl.row (i := i) hi)
  have htot := hl.2
  have hmono := hide (fun i (hi : i ≤ rows.length) => sumLen_mono rows hi)
  have hrl : rs.length = rows.length := by have := h1.1; simpa using this
  have H2 := hide h2
  have H3 := hide h3
  have H4 := hide h4
  have H6 := hide h6
  clear h2 h3 h4 h6
  rcases owns_form h1 with ⟨rfl, he⟩ | ⟨g, cap, rfl, hB, hg, _, _⟩
  · obtain rfl : rows = [] := List.eq_nil_of_length_eq_zero he
    go_enter Try.func31, Try.ntmps31
    go_wp2_with fail
    go_loop [1, 5] (fun q i => q = .int .i64 k ∧ i = .int .i64 0) (fun _ _ => 0)
    case atStart => exact ⟨rfl, rfl⟩
    case round =>
      obtain ⟨rfl, rfl⟩ := hrel
      go_wp2_with fail
      go_ret
      exact ⟨by simp [sumLen], ⟨rs, h1, H2.out, H3.out, H4.out, h5, H6.out⟩, Outb.refl _ _ _⟩
  · have hgH := h5 g rfl
    have H1 := hide h1
    have Hrl := hide hrl
    clear h1 hrl h5
    go_enter Try.func31, Try.ntmps31
    go_wp2_with fail
    go_loopw [1, 5] (fun q i wr => ∃ j : Nat, j ≤ rows.length ∧ i = .int .i64 j ∧ q = .int .i64 (k + (sumLen rows j : Int)) ∧ wr.ownsRow B 36 1 (.slice (some ⟨g, 0, none⟩) rows.length cap) rows.length rs
        ∧ Hid (∀ i, i < rows.length → OwI wr B (vAt rs i) (if i < j then rowAt (markRows k rows) i else rowAt rows i)) ∧ Outb B H w wr) (fun _ i _ => rows.length - (intOf i).toNat)
    case atStart => exact ⟨0, Nat.zero_le _, rfl, by simp [sumLen], H1.out, fun i hi => by simpa using H2.out i hi, Outb.refl _ _ _⟩
    case round =>
      obtain ⟨j, hj, rfl, rfl, hown, hall, ho⟩ := hrel
      by_cases hlt : j < rows.length
      · have hck := (World.ownsRow.cellAt hown j (by have := Hrl.out; omega)).trans (vAt_some (by have := Hrl.out; omega))
        have hm1 := hmono.out (j + 1) (by omega)
        simp only [sumLen] at hm1
        have hjo := hall.out j hlt
        rw [if_neg (by omega)] at hjo
        obtain ⟨A1, c1, hve, _, _⟩ := hjo.open_
        have Hve := hide hve
        rw [hve] at hck
        have Hown := hide hown
        have Ho := hide ho
        have hjo' := hjo
        rw [hve] at hjo'
        have Hjo := hide hjo
        clear hown ho hve hjo
        go_wp2_with fail
        refine (markIntS_any _ _ _ B _ hjo' (hrow.out j hlt) (by omega) (by omega)).mono ?_
        rintro e w1 ⟨rfl, hj1, hg1⟩
        rw [← Hve.out] at hj1 hg1
        have R1 : w1.ownsRow B 36 1 (.slice (some ⟨g, 0, none⟩) rows.length cap) rows.length rs := World.ownsRow.kept Hown.out hg1 ((H3.out j hlt).symm.ne)
        have R2 : ∀ i, i < rows.length → OwI w1 B (vAt rs i) (if i < j + 1 then rowAt (markRows k rows) i else rowAt rows i) := fun i hi => by
          by_cases e : i = j
          · subst e
            rw [if_pos (by omega), rowAt_markRows hlt]
            exact hj1
          · have := hall.out i hi
            have hap : Apart (vAt rs i) (vAt rs j) := by
              rcases Nat.lt_or_ge i j with h | h
              · exact H4.out i j h hlt
              · exact (H4.out j i (by omega) hi).symm
            have := OwI.kept this hg1 hap.ne
            by_cases hij : i < j
            · rw [if_pos hij] at this
              rw [if_pos (by omega)]
              exact this
            · rw [if_neg hij] at this
              rw [if_neg (by omega)]
              exact this
        have R3 : Outb B H w w1 := Ho.out.grown hg1 fun b hb => ⟨(own_lt Hjo.out hb).1, H6.out j hlt b hb⟩
        have R1' := hide R1
        have R2' := hide R2
        have R3' := hide R3
        clear R1 R2 R3 hj1 hg1 hjo' hall
        go_wp2_with fail
        go_roundw
        case rel => exact ⟨j + 1, by omega, by go_num, by simp only [sumLen]; go_num, R1'.out, R2'.out, R3'.out⟩
        case measure => simp [intOf]; omega
      · obtain rfl : j = rows.length := by omega
        have Hown := hide hown
        have Ho := hide ho
        clear hown ho
        go_wp2_with fail
        go_ret
        refine ⟨rfl, ⟨rs, by rw [markRows_length]; exact Hown.out, fun i hi => ?_, ?_, ?_, fun b hb => ?_, ?_⟩, Ho.out⟩
        · rw [markRows_length] at hi
          have := hall.out i hi
          rwa [if_pos hi] at this
        · rw [markRows_length]; exact H3.out
        · rw [markRows_length]; exact H4.out
        · have e : g = b := by simpa [Value.ownBlock] using hb
          omega
        · rw [markRows_length]; exact H6.out

set_option maxHeartbeats 1000000 in
theorem heldIntSS_marks (v : Value) (rows : List (List Int)) (k : Int) (w : World) (h : RdM w v (markRows k rows)) (hl : OkM rows) (k0 : 0 ≤ k) (k1 : k ≤ 1048576) :
    Calls Try.prog 33 #[v, .int .i64 k] w fun e w' => e = .returned (.int .i64 (k + (sumLen rows rows.length : Int))) ∧ Nx w w' := by
  obtain ⟨A, c, rfl, hx⟩ := h
  rw [markRows_length] at hx ⊢
  have hn := hl.1
  have hrow := hide (fun i hi => hl.row (i := i) hi)
  have htot := hl.2
  have hmono := hide (fun i (hi : i ≤ rows.length) => sumLen_mono rows hi)
  go_enter Try.func33, Try.ntmps33
  go_wp2_with fail
  go_loopw [1, 5] (fun q i wr => ∃ j : Nat, j ≤ rows.length ∧ i = .int .i64 j ∧ q = .int .i64 (k + (sumLen rows j : Int)) ∧ Nx w wr) (fun _ i _ => rows.length - (intOf i).toNat)
  case atStart => exact ⟨0, Nat.zero_le _, rfl, by simp [sumLen], Below.refl _ _⟩
  case round =>
    obtain ⟨j, hj, rfl, rfl, hb⟩ := hrel
    by_cases hlt : j < rows.length
    · obtain ⟨b0, off, rfl, hb0, hc⟩ := hx (by omega)
      obtain ⟨A1, c1, hck0, hr0⟩ := hc j hlt
      rw [rowAt_markRows hlt] at hck0 hr0
      rw [marks_length] at hck0 hr0
      have hck : wr.cell? ⟨b0, off + j, none⟩ = some (.slice A1 (rowAt rows j).length c1) := (hb.cell (p := ⟨b0, off + j, none⟩) hb0).trans hck0
      have hrr := hr0.below hb
      have hm1 := hmono.out (j + 1) (by omega)
      simp only [sumLen] at hm1
      have Hb := hide hb
      have hj0 : 0 ≤ k + (sumLen rows j : Int) + ((rowAt rows j).length : Int) := by omega
      clear hc hx hck0 hr0 hb
      go_wp2_with fail
      refine (heldIntS_marks _ _ _ _ hrr (hrow.out j hlt) (by omega) (by omega)).mono ?_
      rintro e w1 ⟨rfl, b⟩
      have Hb1 := hide (Hb.out.trans b)
      clear b hrr
      go_wp2_with fail
      go_roundw
      case rel => exact ⟨j + 1, by omega, by go_num, by simp only [sumLen]; go_num, Hb1.out⟩
      case measure => simp [intOf]; omega
    · obtain rfl : j = rows.length := by omega
      have Hb := hide hb
      clear hb hx
      go_wp2_with fail
      go_ret
      exact ⟨rfl, Hb.out⟩

end Go.Proofs.Ytkjclpbemdilbaa
