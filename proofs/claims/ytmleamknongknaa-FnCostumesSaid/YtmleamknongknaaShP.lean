/- Shared costumes: the plain law. -/
import Derived.Test.YtmleamknongknaaMsC
import Derived.WalkKit
import Derived.ProofKit
import Derived.Handy
import Derived.OpenShut
import Derived.ShutString
import Derived.ChangeOld
import Derived.Below
import Derived.BigQuiet
import Derived.Deep.QuietTactic
import Derived.Deep.Draws
import Derived.Deep.DeepCutAuto
import Derived.Deep.DeepFit
import Derived.Deep.LoopGhost
import Derived.Outline
import Derived.WalkSpells
import Derived.WalkLawsBesides
import Derived.WalkSmall
import Derived.Laws.OwnMore
import Derived.OneCell
import Derived.Laws.Rows
import Derived.Maps.AppendAt
import Derived.StillTailTactics
import Derived.Lib.SmallJoins
import Derived.Deep.RegionWith
import Derived.Deep.RegionHeld3
import Derived.RegionTactic
import Derived.Deep.Matrix
import Derived.Deep.Fields
import Derived.ChangeSame
namespace Go.Proofs.Ytmleamknongknaa
open Go.RowKit

/-- A block that is known whole. -/
def Blk (w : World) (g : Nat) (t : TypeId) (cs : Array Value) : Prop := w.heap[g]? = some (.cells cs t (0, 0))
theorem Blk.lt {w : World} {g : Nat} {t : TypeId} {cs : Array Value} (h : Blk w g t cs) : g < w.heap.size := lt_of_block h
theorem Blk.cell {w : World} {g : Nat} {t : TypeId} {cs : Array Value} (h : Blk w g t cs) (i : Nat) : w.cell? ⟨g, i, none⟩ = cs[i]? := cell_of_row w g i cs t (0, 0) h
theorem Blk.frozen {w : World} {g : Nat} {t : TypeId} {cs : Array Value} (h : Blk w g t cs) (i : Nat) : w.frozen? ⟨g, i, none⟩ = false := by
  unfold Blk at h
  simp [World.frozen?, h]
theorem Blk.new (w : World) (t : TypeId) (cs : Array Value) : Blk (w.alloc (.cells cs t)) w.heap.size t cs := heap_alloc_new w _
theorem Blk.drew {w : World} {g : Nat} {t : TypeId} {cs : Array Value} (h : Blk w g t cs) : Blk w.drew g t cs := h
theorem Blk.drewN {w : World} {g : Nat} {t : TypeId} {cs : Array Value} (h : Blk w g t cs) (n : Nat) : Blk (w.drewN n) g t cs := h
theorem Blk.alloc {w : World} {g : Nat} {t : TypeId} {cs : Array Value} (h : Blk w g t cs) (o : Obj) : Blk (w.alloc o) g t cs := (Below.heap_alloc w o g h.lt).trans h
theorem Blk.set_ {w : World} {g : Nat} {t : TypeId} {cs : Array Value} (h : Blk w g t cs) (i : Nat) (u : Value) : Blk (w.setCell ⟨g, i, none⟩ u) g t (cs.setIfInBounds i u) := by
  unfold Blk at h ⊢
  simp [World.setCell, Array.getElem?_modify, h]
theorem Blk.far {w : World} {g : Nat} {t : TypeId} {cs : Array Value} (h : Blk w g t cs) {p : Addr} (hp : g ≠ p.block) (u : Value) : Blk (w.setCell p u) g t cs := (Below.heap_setCell w p u g hp).trans h
theorem Blk.below {w w' : World} {g : Nat} {t : TypeId} {cs : Array Value} (h : Blk w g t cs) (hb : Nx w w') : Blk w' g t cs := (hb.block g h.lt).trans h
theorem Blk.grown {w w' : World} {g : Nat} {t : TypeId} {cs : Array Value} {row : Option Nat} (h : Blk w g t cs) (hb : w.grownBy w' row) (hg : some g ≠ row) : Blk w' g t cs := (hb.block g h.lt hg).trans h

/-- the greatest measure in field j of the first k. -/
def mxTo (rows : List (List Int)) (j : Nat) : Nat → Int
  | 0 => 0
  | k + 1 => max (mxTo rows j k) (fd rows k j)
theorem mxTo_nonneg (rows : List (List Int)) (j k : Nat) : 0 ≤ mxTo rows j k := by
  induction k with
  | zero => simp [mxTo]
  | succ k ih => simp only [mxTo]; omega
theorem mxTo_i64 {rows : List (List Int)} (h : OkS rows) {j : Nat} (hj : j < 3) {k : Nat} (hk : k ≤ rows.length) : mxTo rows j k ≤ 9223372036854775807 := by
  induction k with
  | zero => simp [mxTo]
  | succ k ih =>
    have := ih (by omega)
    have h1 := h k j (by omega) hj
    unfold I64 at h1
    simp only [mxTo]
    omega
/-- the costume fits everybody. -/
def fitsAll (rows : List (List Int)) : Bool := (List.range rows.length).all fun k => fits (mxTo rows 0 rows.length) (mxTo rows 1 rows.length) (mxTo rows 2 rows.length) (fd rows k 0) (fd rows k 1) (fd rows k 2)
def sharedOk (rows : List (List Int)) : Bool := inR (rows.length : Int) 1 20 && fitsAll rows
theorem sharedOk_no {rows : List (List Int)} {k : Nat} (hk : k < rows.length) (h : fits (mxTo rows 0 rows.length) (mxTo rows 1 rows.length) (mxTo rows 2 rows.length) (fd rows k 0) (fd rows k 1) (fd rows k 2) = false) : sharedOk rows = false := by
  rw [Bool.eq_false_iff]
  intro ht
  simp only [sharedOk, Bool.and_eq_true] at ht
  have := List.all_eq_true.1 ht.2 k (List.mem_range.2 hk)
  rw [h] at this
  cases this
theorem sharedOk_yes {rows : List (List Int)} (h1 : inR (rows.length : Int) 1 20 = true) (h : ∀ k, k < rows.length → fits (mxTo rows 0 rows.length) (mxTo rows 1 rows.length) (mxTo rows 2 rows.length) (fd rows k 0) (fd rows k 1) (fd rows k 2) = true) : sharedOk rows = true := by
  simp only [sharedOk, h1, Bool.true_and, fitsAll, List.all_eq_true, List.mem_range]
  exact h
/-- what SharedCostume answers. -/
def sharedV (rows : List (List Int)) : Value := if sharedOk rows then .tuple #[Ms (mxTo rows 0 rows.length) (mxTo rows 1 rows.length) (mxTo rows 2 rows.length), .bool true] else .tuple #[Ms 0 0 0, .bool false]

theorem mx3 (rows : List (List Int)) (k j : Nat) : mxTo rows j (k + 1) = max (mxTo rows j k) (fd rows k j) := rfl
theorem max_if (a b : Int) : (if a < b then b else a) = max a b := by split <;> omega
/-- the cells of measures. -/
def msC (a b c : Int) : Array Value := #[.int .i64 a, .int .i64 b, .int .i64 c]
theorem shared_yes {rows : List (List Int)} (h : sharedOk rows = true) : sharedV rows = .tuple #[Ms (mxTo rows 0 rows.length) (mxTo rows 1 rows.length) (mxTo rows 2 rows.length), .bool true] := by unfold sharedV; rw [if_pos h]
theorem shared_no {rows : List (List Int)} (h : sharedOk rows = false) : sharedV rows = .tuple #[Ms 0 0 0, .bool false] := by unfold sharedV; rw [h]; rfl

end Go.Proofs.Ytmleamknongknaa
