/- Two rows of numbers; bits. -/
import Derived.Test.YthjiggihljiikaaSetP
import Derived.Test.YthjiggihljiikaaBits
import Derived.Laws.MakeOwn
import Derived.WalkKit
import Derived.ProofKit
import Derived.Handy
import Derived.OpenShut
import Derived.ShutString
import Derived.ChangeOld
import Derived.Below
import Derived.BigQuiet
import Derived.Deep.QuietTactic
import Derived.Deep.Draws
import Derived.Deep.DeepCutAuto
import Derived.Deep.DeepFit
import Derived.Deep.LoopGhost
import Derived.Outline
import Derived.WalkSpells
import Derived.WalkLawsBesides
import Derived.WalkSmall
import Derived.Laws.OwnMore
import Derived.OneCell
import Derived.Laws.Rows
import Derived.Maps.AppendAt
import Derived.StillTailTactics
import Derived.Lib.SmallJoins
import Derived.Deep.RegionWith
import Derived.Deep.RegionHeld3
import Derived.RegionTactic
import Derived.Deep.Matrix
import Derived.Deep.Fields
import Derived.ChangeSame
namespace Go.Proofs.Ythjiggihljiikaa
open Go.RowKit

theorem run_make_rowN {P : Program} (t e : TypeId) (i : TypeInfo) (z : Value) (ht : P.underlying t = some (.slice e)) (hi : P.info? e = some i) (hz : i.zero = some z)
    (kl kc : IntKind) (n c : Nat) (hnc : n ≤ c) (hbytes : i.bytes * c ≤ 281474976710656) (h63 : c ≤ 9223372036854775807) (w : World) :
    (Instr.makeSlice t (.int kl (n : Int)) (.int kc (c : Int))).run P w = .ok (.slice (some ⟨w.heap.size, 0, none⟩) n c) (w.alloc (.cells (madeCells z.cells (c * i.size)) e)) := by
  have hb : (i.bytes : Int) * (c : Int) ≤ 281474976710656 := by
    have h : ((i.bytes * c : Nat) : Int) ≤ 281474976710656 := by omega
    rwa [Int.natCast_mul] at h
  have hr := run_make (P := P) w t e i z ht hi hz kl kc n c (by omega) (by omega) hb (by omega)
  simp only [Int.toNat_natCast] at hr
  exact hr

/-- A row of the program's own that holds f 0, f 1, .. -/
def OwFn (w : World) (B : Nat) (T : TypeId) (v : Value) (n : Nat) (f : Nat → Value) : Prop := w.ownsRow B T 1 v n ((List.range n).map f)
theorem OwFn.cellAt {w : World} {B n g cap : Nat} {T : TypeId} {f : Nat → Value} (h : OwFn w B T (.slice (some ⟨g, 0, none⟩) n cap) n f) {j : Nat} (hj : j < n) : w.cell? ⟨g, j, none⟩ = some (f j) := by
  rw [World.ownsRow.cellAt h j (by omega)]; simp [hj]
theorem OwFn.frozenAt {w : World} {B n g cap : Nat} {T : TypeId} {f : Nat → Value} (h : OwFn w B T (.slice (some ⟨g, 0, none⟩) n cap) n f) (j : Nat) : w.frozen? ⟨g, j, none⟩ = false := World.ownsRow.frozenAt h j
theorem set_range_map (n j : Nat) (f : Nat → Value) (x : Value) : ((List.range n).map f).set j x = (List.range n).map fun i => if i = j then x else f i := by
  apply List.ext_getElem
  · simp
  · intro i h1 h2
    by_cases e : i = j
    · subst e; simp
    · simp [Ne.symm e, e]
theorem OwFn.stored {w : World} {B n g cap : Nat} {T : TypeId} {f : Nat → Value} (h : OwFn w B T (.slice (some ⟨g, 0, none⟩) n cap) n f) (j : Nat) (x : Value) :
    OwFn (w.setCell ⟨g, j, none⟩ x) B T (.slice (some ⟨g, 0, none⟩) n cap) n (fun i => if i = j then x else f i) ∧ w.grownBy (w.setCell ⟨g, j, none⟩ x) (some g) := by
  have := World.ownsRow.stored h j x
  rw [set_range_map] at this
  exact this
theorem OwFn.congr {w : World} {B n : Nat} {T : TypeId} {v : Value} {f g : Nat → Value} (h : OwFn w B T v n f) (hfg : ∀ i, i < n → f i = g i) : OwFn w B T v n g := by
  unfold OwFn at *
  rw [show (List.range n).map g = (List.range n).map f from List.map_congr_left fun i hi => (hfg i (List.mem_range.1 hi)).symm]
  exact h
theorem OwFn.below {w w' : World} {B n : Nat} {T : TypeId} {v : Value} {f : Nat → Value} (h : OwFn w B T v n f) (hb : Nx w w') : OwFn w' B T v n f := by
  obtain ⟨h1, h2⟩ := h
  refine ⟨h1, ?_⟩
  rcases h2 with h2 | ⟨g, cap, cur, hv, hB, hg, h3⟩
  · exact .inl h2
  · exact .inr ⟨g, cap, cur, hv, hB, (hb.block g (lt_of_block hg)).trans hg, h3⟩
theorem OwFn.lt {w : World} {B n g cap : Nat} {T : TypeId} {f : Nat → Value} (h : OwFn w B T (.slice (some ⟨g, 0, none⟩) n cap) n f) : B ≤ g ∧ g < w.heap.size := World.ownsRow.lt h g rfl
theorem OwFn.kept {w w' : World} {B n : Nat} {T : TypeId} {v : Value} {f : Nat → Value} {row : Option Nat} (h : OwFn w B T v n f) (hg : w.grownBy w' row) (hne : v.ownBlock = none ∨ v.ownBlock ≠ row) : OwFn w' B T v n f := World.ownsRow.kept h hg hne
theorem OwFn.mono {w : World} {B B' n : Nat} {T : TypeId} {v : Value} {f : Nat → Value} (h : OwFn w B T v n f) (hB : B' ≤ B) : OwFn w B' T v n f := by
  obtain ⟨h1, h2⟩ := h
  refine ⟨h1, ?_⟩
  rcases h2 with h2 | ⟨g, cap, cur, hv, hb, h3⟩
  · exact .inl h2
  · exact .inr ⟨g, cap, cur, hv, by omega, h3⟩
theorem OwFn.made (w : World) (T : TypeId) (z : Value) (n : Nat) (hn : n ≤ 16777216) : OwFn (w.alloc (.cells (madeCells #[z] n) T)) w.heap.size T (.slice (some ⟨w.heap.size, 0, none⟩) n n) n (fun _ => z) := by
  have h := World.ownsRow_lit (base := w.heap.size) (e := T) (size := 1) w (madeCells #[z] n) n (Nat.le_refl _) (by unfold maxLen; omega) (by rw [size_madeCells]; omega)
  rw [toList_madeCells_one] at h
  have e : (List.range n).map (fun _ => z) = List.replicate n z := by
    apply List.ext_getElem
    · simp
    · intro i h1 h2; simp
  unfold OwFn
  rw [e]
  exact h

/-- two rows of N numbers in two blocks. -/
def Two (w w' : World) (g g' N : Nat) (f l : Nat → Int) : Prop :=
  g ≠ g' ∧ OwFn w' w.heap.size 3 (.slice (some ⟨g, 0, none⟩) N N) N (fun j => .int .i64 (f j)) ∧ OwFn w' w.heap.size 3 (.slice (some ⟨g', 0, none⟩) N N) N (fun j => .int .i64 (l j)) ∧ Nx w w'
section
variable {w w' : World} {g g' N : Nat} {f l f' l' : Nat → Int}
theorem Two.cellF (h : Two w w' g g' N f l) {j : Nat} (hj : j < N) : w'.cell? ⟨g, j, none⟩ = some (.int .i64 (f j)) := h.2.1.cellAt hj
theorem Two.cellL (h : Two w w' g g' N f l) {j : Nat} (hj : j < N) : w'.cell? ⟨g', j, none⟩ = some (.int .i64 (l j)) := h.2.2.1.cellAt hj
theorem Two.frF (h : Two w w' g g' N f l) (j : Nat) : w'.frozen? ⟨g, j, none⟩ = false := h.2.1.frozenAt j
theorem Two.frL (h : Two w w' g g' N f l) (j : Nat) : w'.frozen? ⟨g', j, none⟩ = false := h.2.2.1.frozenAt j
theorem Two.setF (h : Two w w' g g' N f l) (j : Nat) (x : Int) : Two w (w'.setCell ⟨g, j, none⟩ (.int .i64 x)) g g' N (fun i => if i = j then x else f i) l := by
  have st := h.2.1.stored j (.int .i64 x)
  have hne := h.1
  refine ⟨h.1, st.1.congr fun i _ => ?_, h.2.2.1.kept st.2 (.inr (by simp [Value.ownBlock]; omega)), h.2.2.2.setCell (p := ⟨g, j, none⟩) h.2.1.lt.1 _⟩
  by_cases e : i = j <;> simp [e]
theorem Two.setL (h : Two w w' g g' N f l) (j : Nat) (x : Int) : Two w (w'.setCell ⟨g', j, none⟩ (.int .i64 x)) g g' N f (fun i => if i = j then x else l i) := by
  have st := h.2.2.1.stored j (.int .i64 x)
  have hne := h.1
  refine ⟨h.1, h.2.1.kept st.2 (.inr (by simp [Value.ownBlock]; omega)), st.1.congr fun i _ => ?_, h.2.2.2.setCell (p := ⟨g', j, none⟩) h.2.2.1.lt.1 _⟩
  by_cases e : i = j <;> simp [e]
theorem Two.congr (h : Two w w' g g' N f l) (hf : ∀ j, j < N → f j = f' j) (hl : ∀ j, j < N → l j = l' j) : Two w w' g g' N f' l' :=
  ⟨h.1, h.2.1.congr fun i hi => by rw [hf i hi], h.2.2.1.congr fun i hi => by rw [hl i hi], h.2.2.2⟩
theorem Two.drew (h : Two w w' g g' N f l) : Two w w'.drew g g' N f l := ⟨h.1, h.2.1, h.2.2.1, Nx.drew h.2.2.2⟩
theorem Two.drewN (h : Two w w' g g' N f l) (n : Nat) : Two w (w'.drewN n) g g' N f l := ⟨h.1, h.2.1, h.2.2.1, Nx.drewN h.2.2.2 n⟩
theorem Two.swap (h : Two w w' g g' N f l) : Two w w' g' g N l f := ⟨h.1.symm, h.2.2.1, h.2.1, h.2.2.2⟩
end
theorem Two.made {w w' : World} (hb : Nx w w') (N : Nat) (hN : N ≤ 4096) : Two w ((w'.alloc (.cells (madeCells #[.int .i64 0] N) 3)).alloc (.cells (madeCells #[.int .i64 0] N) 3)) w'.heap.size (w'.heap.size + 1) N (fun _ => 0) (fun _ => 0) := by
  have h1 := (OwFn.made w' 3 (.int .i64 0) N (by omega)).mono hb.size
  have h2 := OwFn.made (w'.alloc (.cells (madeCells #[.int .i64 0] N) 3)) 3 (.int .i64 0) N (by omega)
  have e : (w'.alloc (.cells (madeCells #[.int .i64 0] N) 3)).heap.size = w'.heap.size + 1 := by simp
  rw [e] at h2
  exact ⟨by omega, h1.below (Nx.made _ _), h2.mono (by have := hb.size; omega), hb.trans ((Nx.made _ _).trans (Nx.made _ _))⟩

/-- full boxes of what is found; none is found yet. -/
def fO (n : Nat) : Option (Int × Int) → Int
  | none => (n : Int) + 1
  | some q => q.1
def lO : Option (Int × Int) → Int
  | none => 0
  | some q => q.2
theorem candB_full {room s : Int} {p : Int × Int} (h : room < p.2 + s) : candB room s p = (p.1 + 1, s) := by unfold candB; rw [if_pos h]
theorem candB_part {room s : Int} {p : Int × Int} (h : ¬ room < p.2 + s) : candB room s p = (p.1, p.2 + s) := by unfold candB; rw [if_neg h]
/-- what one more puppet brings: nothing was found, or the new pair is better, or it is not. -/
theorem bst_yes {room : Int} {zs : List Int} {T : List (Int × Int)} {set i : Nat} (h : set.testBit i = true)
    (hc : bstTo room zs T set i = none ∨ ∃ q, bstTo room zs T set i = some q ∧ lessB (candB room (gt zs i) (tbl T (set - 2 ^ i))) q = true) :
    bstTo room zs T set (i + 1) = some (candB room (gt zs i) (tbl T (set - 2 ^ i))) := by
  rcases hc with hc | ⟨q, hq, hl⟩
  · exact bstTo_first h hc
  · exact bstTo_take h hq hl
theorem less_iff {c q : Int × Int} : lessB c q = true ↔ (c.1 < q.1 ∨ c.1 = q.1 ∧ c.2 < q.2) := by simp [lessB]
theorem fO_step {room : Int} {zs : List Int} {T : List (Int × Int)} {set i : Nat} (h : set.testBit i = true) (hb : (candB room (gt zs i) (tbl T (set - 2 ^ i))).1 ≤ zs.length) :
    ((candB room (gt zs i) (tbl T (set - 2 ^ i))).1 < fO zs.length (bstTo room zs T set i) ∨ (candB room (gt zs i) (tbl T (set - 2 ^ i))).1 = fO zs.length (bstTo room zs T set i) ∧ (candB room (gt zs i) (tbl T (set - 2 ^ i))).2 < lO (bstTo room zs T set i) →
      bstTo room zs T set (i + 1) = some (candB room (gt zs i) (tbl T (set - 2 ^ i)))) ∧
    (¬ ((candB room (gt zs i) (tbl T (set - 2 ^ i))).1 < fO zs.length (bstTo room zs T set i) ∨ (candB room (gt zs i) (tbl T (set - 2 ^ i))).1 = fO zs.length (bstTo room zs T set i) ∧ (candB room (gt zs i) (tbl T (set - 2 ^ i))).2 < lO (bstTo room zs T set i)) →
      bstTo room zs T set (i + 1) = bstTo room zs T set i) := by
  cases hq : bstTo room zs T set i with
  | none =>
    refine ⟨fun _ => bstTo_first h hq, fun hn => ?_⟩
    exact absurd (.inl (by simp only [fO]; omega)) hn
  | some q =>
    refine ⟨fun hc => bstTo_take h hq (less_iff.2 hc), fun hn => ?_⟩
    refine bstTo_leave h hq ?_
    rw [Bool.eq_false_iff]
    exact fun ht => hn (less_iff.1 ht)
theorem tbl_old' {room : Int} {zs : List Int} {s j : Nat} (hs : 1 ≤ s) (h : j < s) : tbl (tabB room zs s) j = tbl (tabB room zs (s - 1)) j := by
  obtain ⟨k, rfl⟩ : ∃ k, s = k + 1 := ⟨s - 1, by omega⟩
  exact tbl_old (by omega)
theorem tbl_new' {room : Int} {zs : List Int} {s : Nat} (hs : 1 ≤ s) : tbl (tabB room zs s) s = (bstTo room zs (tabB room zs (s - 1)) s zs.length).getD (0, 0) := by
  obtain ⟨k, rfl⟩ : ∃ k, s = k + 1 := ⟨s - 1, by omega⟩
  exact tbl_new
/-- the rows at set s after k puppets. -/
def fAt (room : Int) (zs : List Int) (s k : Nat) : Nat → Int := fun j => if j < s then (tbl (tabB room zs (s - 1)) j).1 else if j = s then fO zs.length (bstTo room zs (tabB room zs (s - 1)) s k) else 0
def lAt (room : Int) (zs : List Int) (s k : Nat) : Nat → Int := fun j => if j < s then (tbl (tabB room zs (s - 1)) j).2 else if j = s then lO (bstTo room zs (tabB room zs (s - 1)) s k) else 0
/-- the rows before set s. -/
def fSet (room : Int) (zs : List Int) (s : Nat) : Nat → Int := fun j => if j < s then (tbl (tabB room zs (s - 1)) j).1 else 0
def lSet (room : Int) (zs : List Int) (s : Nat) : Nat → Int := fun j => if j < s then (tbl (tabB room zs (s - 1)) j).2 else 0
theorem fSet_one (room : Int) (zs : List Int) (j : Nat) : (0 : Int) = fSet room zs 1 j := by
  unfold fSet
  split
  · obtain rfl : j = 0 := by omega
    rfl
  · rfl
theorem lSet_one (room : Int) (zs : List Int) (j : Nat) : (0 : Int) = lSet room zs 1 j := by
  unfold lSet
  split
  · obtain rfl : j = 0 := by omega
    rfl
  · rfl
theorem fAt_zero (room : Int) (zs : List Int) (s j : Nat) : (if j = s then ((zs.length : Int) + 1) else fSet room zs s j) = fAt room zs s 0 j := by
  unfold fSet fAt
  by_cases e : j = s
  · subst e; rw [if_pos rfl, if_neg (by omega), if_pos rfl]; rfl
  · rw [if_neg e, if_neg e]
theorem lAt_zero (room : Int) (zs : List Int) (s j : Nat) : lSet room zs s j = lAt room zs s 0 j := by
  unfold lSet lAt
  by_cases e : j < s
  · rw [if_pos e, if_pos e]
  · rw [if_neg e, if_neg e]
    by_cases e2 : j = s
    · rw [if_pos e2]; rfl
    · rw [if_neg e2]
theorem at_next {room : Int} {zs : List Int} {s : Nat} (hs : 1 ≤ s) {i : Nat} (hb : s.testBit i = true) (hi : i < zs.length) (j : Nat) : fAt room zs s zs.length j = fSet room zs (s + 1) j ∧ lAt room zs s zs.length j = lSet room zs (s + 1) j := by
  unfold fAt lAt fSet lSet
  rcases Nat.lt_or_ge j s with h | h
  · have h2 : j < s + 1 := by omega
    simp [h, h2, tbl_old' (room := room) (zs := zs) hs h]
  · have n1 : ¬ j < s := by omega
    by_cases e : j = s
    · subst e
      obtain ⟨q, hq⟩ := bstTo_some (room := room) (zs := zs) (T := tabB room zs (j - 1)) hb hi
      have e1 := tbl_new' (room := room) (zs := zs) hs
      rw [hq] at e1
      simp [e1, hq, fO, lO]
    · have n2 : ¬ j < s + 1 := by omega
      simp [n1, n2, e]
theorem at_same {room : Int} {zs : List Int} {s k : Nat} (h : bstTo room zs (tabB room zs (s - 1)) s (k + 1) = bstTo room zs (tabB room zs (s - 1)) s k) (j : Nat) : fAt room zs s k j = fAt room zs s (k + 1) j ∧ lAt room zs s k j = lAt room zs s (k + 1) j := by
  unfold fAt lAt
  rw [h]
  exact ⟨rfl, rfl⟩
theorem at_set {room : Int} {zs : List Int} {s k : Nat} {c : Int × Int} (h : bstTo room zs (tabB room zs (s - 1)) s (k + 1) = some c) (j : Nat) : (if j = s then c.1 else fAt room zs s k j) = fAt room zs s (k + 1) j ∧ (if j = s then c.2 else lAt room zs s k j) = lAt room zs s (k + 1) j := by
  unfold fAt lAt
  rw [h]
  by_cases e : j = s
  · subst e
    simp [fO, lO]
  · simp [e]
theorem fAt_low {room : Int} {zs : List Int} {s k j : Nat} (h : j < s) : fAt room zs s k j = (tbl (tabB room zs (s - 1)) j).1 := by unfold fAt; rw [if_pos h]
theorem lAt_low {room : Int} {zs : List Int} {s k j : Nat} (h : j < s) : lAt room zs s k j = (tbl (tabB room zs (s - 1)) j).2 := by unfold lAt; rw [if_pos h]
theorem fAt_at {room : Int} {zs : List Int} {s k : Nat} : fAt room zs s k s = fO zs.length (bstTo room zs (tabB room zs (s - 1)) s k) := by unfold fAt; rw [if_neg (by omega), if_pos rfl]
theorem lAt_at {room : Int} {zs : List Int} {s k : Nat} : lAt room zs s k s = lO (bstTo room zs (tabB room zs (s - 1)) s k) := by unfold lAt; rw [if_neg (by omega), if_pos rfl]

end Go.Proofs.Ythjiggihljiikaa
