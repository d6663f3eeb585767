/- CanPay: the plain law, rows of bools. -/
import Derived.Test.YtjifdheaeopdfaaSplit
import Derived.Laws.MakeOwn
import Derived.WalkKit
import Derived.ProofKit
import Derived.Handy
import Derived.OpenShut
import Derived.ShutString
import Derived.ChangeOld
import Derived.Below
import Derived.BigQuiet
import Derived.Deep.QuietTactic
import Derived.Deep.Draws
import Derived.Deep.DeepCutAuto
import Derived.Deep.DeepFit
import Derived.Deep.LoopGhost
import Derived.Outline
import Derived.WalkSpells
import Derived.WalkLawsBesides
import Derived.WalkSmall
import Derived.Laws.OwnMore
import Derived.OneCell
import Derived.Laws.Rows
import Derived.Maps.AppendAt
import Derived.StillTailTactics
import Derived.Lib.SmallJoins
import Derived.Deep.RegionWith
import Derived.Deep.RegionHeld3
import Derived.RegionTactic
import Derived.Deep.Matrix
import Derived.Deep.Fields
import Derived.ChangeSame
namespace Go.Proofs.Ytjifdheaeopdfaa
open Go.RowKit

theorem run_make_rowN {P : Program} (t e : TypeId) (i : TypeInfo) (z : Value) (ht : P.underlying t = some (.slice e)) (hi : P.info? e = some i) (hz : i.zero = some z)
    (kl kc : IntKind) (n c : Nat) (hnc : n ≤ c) (hbytes : i.bytes * c ≤ 281474976710656) (h63 : c ≤ 9223372036854775807) (w : World) :
    (Instr.makeSlice t (.int kl (n : Int)) (.int kc (c : Int))).run P w = .ok (.slice (some ⟨w.heap.size, 0, none⟩) n c) (w.alloc (.cells (madeCells z.cells (c * i.size)) e)) := by
  have hb : (i.bytes : Int) * (c : Int) ≤ 281474976710656 := by
    have h : ((i.bytes * c : Nat) : Int) ≤ 281474976710656 := by omega
    rwa [Int.natCast_mul] at h
  have hr := run_make (P := P) w t e i z ht hi hz kl kc n c (by omega) (by omega) hb (by omega)
  simp only [Int.toNat_natCast] at hr
  exact hr

/-- A row of the program's own that holds f 0, f 1, .. -/
def OwFn (w : World) (B : Nat) (T : TypeId) (v : Value) (n : Nat) (f : Nat → Value) : Prop := w.ownsRow B T 1 v n ((List.range n).map f)
theorem OwFn.cellAt {w : World} {B n g cap : Nat} {T : TypeId} {f : Nat → Value} (h : OwFn w B T (.slice (some ⟨g, 0, none⟩) n cap) n f) {j : Nat} (hj : j < n) : w.cell? ⟨g, j, none⟩ = some (f j) := by
  rw [World.ownsRow.cellAt h j (by omega)]; simp [hj]
theorem OwFn.frozenAt {w : World} {B n g cap : Nat} {T : TypeId} {f : Nat → Value} (h : OwFn w B T (.slice (some ⟨g, 0, none⟩) n cap) n f) (j : Nat) : w.frozen? ⟨g, j, none⟩ = false := World.ownsRow.frozenAt h j
theorem set_range_map (n j : Nat) (f : Nat → Value) (x : Value) : ((List.range n).map f).set j x = (List.range n).map fun i => if i = j then x else f i := by
  apply List.ext_getElem
  · simp
  · intro i h1 h2
    by_cases e : i = j
    · subst e; simp
    · simp [Ne.symm e, e]
theorem OwFn.stored {w : World} {B n g cap : Nat} {T : TypeId} {f : Nat → Value} (h : OwFn w B T (.slice (some ⟨g, 0, none⟩) n cap) n f) (j : Nat) (x : Value) :
    OwFn (w.setCell ⟨g, j, none⟩ x) B T (.slice (some ⟨g, 0, none⟩) n cap) n (fun i => if i = j then x else f i) ∧ w.grownBy (w.setCell ⟨g, j, none⟩ x) (some g) := by
  have := World.ownsRow.stored h j x
  rw [set_range_map] at this
  exact this
theorem OwFn.congr {w : World} {B n : Nat} {T : TypeId} {v : Value} {f g : Nat → Value} (h : OwFn w B T v n f) (hfg : ∀ i, i < n → f i = g i) : OwFn w B T v n g := by
  unfold OwFn at *
  rw [show (List.range n).map g = (List.range n).map f from List.map_congr_left fun i hi => (hfg i (List.mem_range.1 hi)).symm]
  exact h
theorem OwFn.below {w w' : World} {B n : Nat} {T : TypeId} {v : Value} {f : Nat → Value} (h : OwFn w B T v n f) (hb : Nx w w') : OwFn w' B T v n f := by
  obtain ⟨h1, h2⟩ := h
  refine ⟨h1, ?_⟩
  rcases h2 with h2 | ⟨g, cap, cur, hv, hB, hg, h3⟩
  · exact .inl h2
  · exact .inr ⟨g, cap, cur, hv, hB, (hb.block g (lt_of_block hg)).trans hg, h3⟩
theorem OwFn.lt {w : World} {B n g cap : Nat} {T : TypeId} {f : Nat → Value} (h : OwFn w B T (.slice (some ⟨g, 0, none⟩) n cap) n f) : B ≤ g ∧ g < w.heap.size := World.ownsRow.lt h g rfl
theorem OwFn.kept {w w' : World} {B n : Nat} {T : TypeId} {v : Value} {f : Nat → Value} {row : Option Nat} (h : OwFn w B T v n f) (hg : w.grownBy w' row) (hne : v.ownBlock = none ∨ v.ownBlock ≠ row) : OwFn w' B T v n f := World.ownsRow.kept h hg hne
theorem OwFn.mono {w : World} {B B' n : Nat} {T : TypeId} {v : Value} {f : Nat → Value} (h : OwFn w B T v n f) (hB : B' ≤ B) : OwFn w B' T v n f := by
  obtain ⟨h1, h2⟩ := h
  refine ⟨h1, ?_⟩
  rcases h2 with h2 | ⟨g, cap, cur, hv, hb, h3⟩
  · exact .inl h2
  · exact .inr ⟨g, cap, cur, hv, by omega, h3⟩
theorem OwFn.made (w : World) (T : TypeId) (z : Value) (n : Nat) (hn : n ≤ 16777216) : OwFn (w.alloc (.cells (madeCells #[z] n) T)) w.heap.size T (.slice (some ⟨w.heap.size, 0, none⟩) n n) n (fun _ => z) := by
  have h := World.ownsRow_lit (base := w.heap.size) (e := T) (size := 1) w (madeCells #[z] n) n (Nat.le_refl _) (by unfold maxLen; omega) (by rw [size_madeCells]; omega)
  rw [toList_madeCells_one] at h
  have e : (List.range n).map (fun _ => z) = List.replicate n z := by
    apply List.ext_getElem
    · simp
    · intro i h1 h2; simp
  unfold OwFn
  rw [e]
  exact h

/-- the value of piece k. -/
def pieceN : Nat → Nat
  | 0 => 50
  | 1 => 20
  | 2 => 10
  | 3 => 5
  | 4 => 2
  | _ => 1
theorem pieceN_bd (k : Nat) : 1 ≤ pieceN k ∧ pieceN k ≤ 50 := by unfold pieceN; split <;> omega
/-- with at most m more pieces of value v. -/
def orTo (can : Nat → Bool) (v s : Nat) : Nat → Bool
  | 0 => false
  | m + 1 => orTo can v s m || (decide (m * v ≤ s) && can (s - m * v))
theorem orTo_yes {can : Nat → Bool} {v s m : Nat} (h : m * v ≤ s) : orTo can v s (m + 1) = (orTo can v s m || can (s - m * v)) := by simp [orTo, h]
theorem orTo_stop {can : Nat → Bool} {v s m : Nat} (h : s < m * v) (n : Nat) (hn : m ≤ n) : orTo can v s n = orTo can v s m := by
  induction n with
  | zero => obtain rfl : m = 0 := by omega
            rfl
  | succ n ih =>
    rcases Nat.lt_or_ge m (n + 1) with h1 | h1
    · have : s < n * v := Nat.lt_of_lt_of_le h (Nat.mul_le_mul_right _ (by omega))
      rw [orTo, ih (by omega), show decide (n * v ≤ s) = false from by simp; omega]
      simp
    · obtain rfl : m = n + 1 := by omega
      rfl
/-- one round more of the other way: s itself, or s less one piece. -/
theorem orTo_one (can : Nat → Bool) (v s : Nat) : orTo can v s 1 = can s := by simp [orTo]
theorem orTo_low {can : Nat → Bool} {v s : Nat} (h : s < v) (m : Nat) : orTo can v s (m + 1) = can s := by
  rw [orTo_stop (m := 1) (by omega) (m + 1) (by omega), orTo_one]
theorem orTo_more {can : Nat → Bool} {v s : Nat} (h : v ≤ s) (m : Nat) : orTo can v s (m + 2) = (orTo can v s (m + 1) || orTo can v (s - v) (m + 1)) := by
  have hs : ∀ k, orTo can v s (k + 1) = (can s || orTo can v (s - v) k) := by
    intro k
    induction k with
    | zero => simp [orTo]
    | succ k ih =>
      have e : (k + 1) * v = k * v + v := by rw [Nat.add_mul, Nat.one_mul]
      rw [orTo, ih]
      conv => rhs; rw [orTo]
      rw [e, show s - (k * v + v) = s - v - k * v from by omega, show decide (k * v + v ≤ s) = decide (k * v ≤ s - v) from by rw [Bool.eq_iff_iff]; simp; omega, Bool.or_assoc]
  have hm : ∀ k, orTo can v (s - v) (k + 1) = (orTo can v (s - v) k || orTo can v (s - v) (k + 1)) := by
    intro k
    rw [orTo, ← Bool.or_assoc, Bool.or_self]
  rw [hs (m + 1), hs m, Bool.or_assoc, ← hm m]
/-- the sums that the first i kinds of pieces make. -/
def payTo (ts : List Int) : Nat → Nat → Bool
  | 0, s => decide (s = 0)
  | i + 1, s => orTo (payTo ts i) (pieceN i) s ((gt ts i).toNat + 1)
def canPay (ts : List Int) (sum : Int) : Bool := decide (ts.length = 6) && (allW 0 100 ts && (inR sum 0 500 && payTo ts 6 sum.toNat))

end Go.Proofs.Ytjifdheaeopdfaa
