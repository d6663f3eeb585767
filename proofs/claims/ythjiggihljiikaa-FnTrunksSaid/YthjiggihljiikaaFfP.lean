/- First fit: the plain law. -/
import Derived.Test.YthjiggihljiikaaBox
import Derived.WalkKit
import Derived.ProofKit
import Derived.Handy
import Derived.OpenShut
import Derived.ShutString
import Derived.ChangeOld
import Derived.Below
import Derived.BigQuiet
import Derived.Deep.QuietTactic
import Derived.Deep.Draws
import Derived.Deep.DeepCutAuto
import Derived.Deep.DeepFit
import Derived.Deep.LoopGhost
import Derived.Outline
import Derived.WalkSpells
import Derived.WalkLawsBesides
import Derived.WalkSmall
import Derived.Laws.OwnMore
import Derived.OneCell
import Derived.Laws.Rows
import Derived.Maps.AppendAt
import Derived.StillTailTactics
import Derived.Lib.SmallJoins
import Derived.Deep.RegionWith
import Derived.Deep.RegionHeld3
import Derived.RegionTactic
import Derived.Deep.Matrix
import Derived.Deep.Fields
import Derived.ChangeSame
namespace Go.Proofs.Ythjiggihljiikaa
open Go.RowKit

theorem own_alloc {w : World} {B : Nat} {v : Value} {zs : List Int} (h : OwI w B v zs) (o : Obj) : OwI (w.alloc o) B v zs := World.ownsRow.alloc h o
theorem grownBy_of_alloc {w w' : World} {o : Obj} {row : Option Nat} (h : (w.alloc o).grownBy w' row) : w.grownBy w' row := grownBy_trans (World.grownBy_alloc w o row) h

/-- append of one number to a row of the program's own. -/
theorem wpList_push {ops : Array Oper} {rest : List Oper} {o : Oper} {a : Act} {Q : Exit → Act → World → Prop} (hgd : o.guard = none) (s x : Operand)
    (ho : o.op = .call { callee := .builtin .append, args := #[s, x], argTypes := #[22, 22] })
    (w : World) (B : Nat) (v : Value) (xs : List Int) (n : Int) (hs : a.eval s = v) (hx : a.eval x = .slice (some ⟨w.heap.size, 0, none⟩) 1 1)
    (hown : OwI w B v xs) (hl : xs.length ≤ 16777216) (hB : B ≤ w.heap.size)
    (h : ∀ v' w', OwI w' B v' (xs ++ [n]) → w.grownBy w' v.ownBlock → (v'.ownBlock = v.ownBlock ∨ v'.ownBlock = some (w.heap.size + 1)) → wpList Try.prog ops Q rest (a.put o.dst v') w') :
    wpList Try.prog ops Q (o :: rest) a (w.alloc (.cells #[.int .i64 n] 3)) := by
  obtain ⟨i0, hi, hz0, hz1, hz2⟩ := info_parts intInfo
  refine wpList_append_own_at (P := Try.prog) (w.alloc (.cells #[.int .i64 n] 3)) hgd s x 22 ho B 3 i0 (.int .i64 0) 1 8 Try.underlying22 hi hz0 hz1 hz2 rfl (by decide) v xs.length (xs.map (Value.int .i64)) hs (own_alloc hown _) ⟨w.heap.size, 0, none⟩ 1 1 [.int .i64 n] hx rfl (cell_one_new _ _ _) ?_ ?_ ?_ ?_ ?_
  · intro u hu; simp at hu; subst hu; rfl
  · unfold maxLen; omega
  · omega
  · simp; omega
  · intro v' w' hown' hg _ hat
    refine h v' w' ?_ (grownBy_of_alloc hg) ?_
    · unfold OwI
      rw [List.length_append, List.map_append]
      exact hown'
    · rcases hat with e | e
      · exact .inl e
      · exact .inr (by rw [e]; simp)

theorem Nx.pushed {w0 w w' : World} {v : Value} {xs : List Int} {B : Nat} (hb : Nx w0 w) (hown : OwI w B v xs) (hB : w0.heap.size ≤ B) (hg : w.grownBy w' v.ownBlock) : Nx w0 w' := hb.only hown hg hB

theorem OwI.made0 (w : World) : OwI (w.alloc (.cells #[] 3)) w.heap.size (.slice (some ⟨w.heap.size, 0, none⟩) 0 0) [] :=
  World.ownsRow_made w #[] 0 (Nat.le_refl _) (by unfold maxLen; omega) rfl
/-- the same where the walk spells the heap's size by another name. -/
theorem wpList_pushH {ops : Array Oper} {rest : List Oper} {o : Oper} {a : Act} {Q : Exit → Act → World → Prop} (hgd : o.guard = none) (s x : Operand)
    (ho : o.op = .call { callee := .builtin .append, args := #[s, x], argTypes := #[22, 22] })
    (w : World) (B H : Nat) (hH : w.heap.size = H) (v : Value) (xs : List Int) (n : Int) (hs : a.eval s = v) (hx : a.eval x = .slice (some ⟨H, 0, none⟩) 1 1)
    (hown : OwI w B v xs) (hl : xs.length ≤ 16777216) (hB : B ≤ w.heap.size)
    (h : ∀ v' w', OwI w' B v' (xs ++ [n]) → w.grownBy w' v.ownBlock → (v'.ownBlock = v.ownBlock ∨ v'.ownBlock = some (H + 1)) → wpList Try.prog ops Q rest (a.put o.dst v') w') :
    wpList Try.prog ops Q (o :: rest) a (w.alloc (.cells #[.int .i64 n] 3)) := by
  subst hH
  exact wpList_push hgd s x ho w B v xs n hs hx hown hl hB h

/-- Two slices of the program's own that lie in different blocks. -/
def Apart (a b : Value) : Prop := ∀ g, a.ownBlock = some g → b.ownBlock ≠ some g
theorem Apart.symm {a b : Value} (h : Apart a b) : Apart b a := fun g hb ha => h g ha hb
theorem Apart.ne {a b : Value} (h : Apart a b) : a.ownBlock = none ∨ a.ownBlock ≠ b.ownBlock := by
  cases e : a.ownBlock with
  | none => exact .inl rfl
  | some g => exact .inr fun h' => h g e h'.symm
theorem Apart.pushed {w : World} {B n : Nat} {a b b' : Value} {zs : List Int} (h : Apart a b) (ha : OwI w B a zs) (hn : w.heap.size ≤ n) (hat : b'.ownBlock = b.ownBlock ∨ b'.ownBlock = some n) : Apart a b' := fun g hg he => by
  rcases hat with e | e
  · exact h g hg (e.symm.trans he)
  · rw [e] at he
    injection he with he
    have := (own_lt ha hg).2
    omega
theorem made_two (w : World) : OwI ((w.alloc (.cells #[] 3)).alloc (.cells #[] 3)) w.heap.size (.slice (some ⟨w.heap.size, 0, none⟩) 0 0) [] ∧ OwI ((w.alloc (.cells #[] 3)).alloc (.cells #[] 3)) w.heap.size (.slice (some ⟨w.heap.size + 1, 0, none⟩) 0 0) [] ∧
    Apart (.slice (some ⟨w.heap.size, 0, none⟩) 0 0) (.slice (some ⟨w.heap.size + 1, 0, none⟩) 0 0) ∧ Nx w ((w.alloc (.cells #[] 3)).alloc (.cells #[] 3)) := by
  refine ⟨own_alloc (OwI.made0 w) _, ?_, fun g h1 h2 => ?_, (Nx.made w _).trans (Nx.made _ _)⟩
  · have := OwI.made0 (w.alloc (.cells #[] 3))
    have e : (w.alloc (.cells #[] 3)).heap.size = w.heap.size + 1 := by simp
    rw [e] at this
    exact this.mono (by omega)
  · simp [Value.ownBlock] at h1 h2
    omega

/-- the first box with room, or the number of boxes. -/
def ffIdx (room s : Int) : List Int → Nat
  | [] => 0
  | u :: us => if u + s ≤ room then 0 else ffIdx room s us + 1
theorem ffIdx_eq {room s : Int} {us : List Int} {k : Nat} (hk : k ≤ us.length) (hb : ∀ j, j < k → room < gt us j + s) (he : k = us.length ∨ gt us k + s ≤ room) : ffIdx room s us = k := by
  induction us generalizing k with
  | nil => simp at hk; simp [ffIdx, hk]
  | cons u us ih =>
    cases k with
    | zero =>
      rcases he with he | he
      · simp at he
      · have : gt (u :: us) 0 = u := rfl
        rw [this] at he
        simp [ffIdx, he]
    | succ k =>
      have h0 := hb 0 (by omega)
      have : gt (u :: us) 0 = u := rfl
      rw [this] at h0
      have := ih (k := k) (by simpa using hk) (fun j hj => by have := hb (j + 1) (by omega); simpa [gt] using this) (by
        rcases he with he | he
        · exact .inl (by simpa using he)
        · exact .inr (by simpa [gt] using he))
      simp only [ffIdx]
      rw [if_neg (by omega), this]
/-- one puppet more: its box, and what is used. -/
def ffStep (room : Int) (p : List Int × List Int) (s : Int) : List Int × List Int :=
  (p.1 ++ [(ffIdx room s p.2 : Int)], if ffIdx room s p.2 = p.2.length then p.2 ++ [s] else p.2.set (ffIdx room s p.2) (gt p.2 (ffIdx room s p.2) + s))
def ffTo (room : Int) (zs : List Int) : Nat → List Int × List Int
  | 0 => ([], [])
  | k + 1 => ffStep room (ffTo room zs k) (gt zs k)
theorem ffTo_new {room : Int} {zs : List Int} {k : Nat} (h : ffIdx room (gt zs k) (ffTo room zs k).2 = (ffTo room zs k).2.length) :
    ffTo room zs (k + 1) = ((ffTo room zs k).1 ++ [((ffTo room zs k).2.length : Int)], (ffTo room zs k).2 ++ [gt zs k]) := by
  simp only [ffTo, ffStep]; rw [if_pos h, h]
theorem ffTo_old {room : Int} {zs : List Int} {k m : Nat} (h : ffIdx room (gt zs k) (ffTo room zs k).2 = m) (hm : m < (ffTo room zs k).2.length) :
    ffTo room zs (k + 1) = ((ffTo room zs k).1 ++ [(m : Int)], (ffTo room zs k).2.set m (gt (ffTo room zs k).2 m + gt zs k)) := by
  simp only [ffTo, ffStep]; rw [if_neg (by omega), h]
theorem ffTo_len (room : Int) (zs : List Int) (k : Nat) : (ffTo room zs k).1.length = k ∧ (ffTo room zs k).2.length ≤ k := by
  induction k with
  | zero => simp [ffTo]
  | succ k ih =>
    simp only [ffTo, ffStep]
    refine ⟨by simp [ih.1], ?_⟩
    split
    · simp; omega
    · simp; omega
theorem ffTo_bd {room : Int} {zs : List Int} (hz : ∀ k, k < zs.length → 1 ≤ gt zs k ∧ gt zs k ≤ room) {k : Nat} (hk : k ≤ zs.length) :
    ∀ j, j < (ffTo room zs k).2.length → 0 ≤ gt (ffTo room zs k).2 j ∧ gt (ffTo room zs k).2 j ≤ room := by
  induction k with
  | zero => intro j hj; simp [ffTo] at hj
  | succ k ih =>
    intro j hj
    have h1 := ih (by omega)
    have h2 := hz k (by omega)
    by_cases hn : ffIdx room (gt zs k) (ffTo room zs k).2 = (ffTo room zs k).2.length
    · rw [ffTo_new hn] at hj ⊢
      simp at hj
      rcases Nat.lt_or_ge j (ffTo room zs k).2.length with h | h
      · rw [gt_append_left h]; exact h1 j h
      · obtain rfl : j = (ffTo room zs k).2.length := by omega
        rw [gt_snoc]; omega
    · have hle : ∀ us : List Int, ffIdx room (gt zs k) us ≤ us.length ∧ (ffIdx room (gt zs k) us < us.length → gt us (ffIdx room (gt zs k) us) + gt zs k ≤ room) := by
        intro us
        induction us with
        | nil => simp [ffIdx]
        | cons u us ih =>
          simp only [ffIdx]
          split
          · refine ⟨by simp, fun _ => ?_⟩
            simpa [gt] using ‹_›
          · refine ⟨by simp; exact ih.1, fun h => ?_⟩
            have := ih.2 (by simpa using h)
            simpa [gt] using this
      have hm := hle (ffTo room zs k).2
      rw [ffTo_old rfl (by omega)] at hj ⊢
      simp at hj
      by_cases e : j = ffIdx room (gt zs k) (ffTo room zs k).2
      · subst e
        rw [gt_set_same hj]
        have := h1 _ hj
        have := hm.2 hj
        omega
      · rw [gt_set_other e]; exact h1 j hj
/-- the boxes that 'first fit' takes. -/
def firstFit (zs : List Int) (room : Int) : List Int := if boxesOk zs room then (ffTo room zs zs.length).1 else []
/-- what is left in each box. -/
def leftL (room : Int) (us : List Int) : List Int := us.map fun u => room - u
theorem leftL_length (room : Int) (us : List Int) : (leftL room us).length = us.length := by simp [leftL]
theorem gt_leftL {room : Int} {us : List Int} {k : Nat} (h : k < us.length) : gt (leftL room us) k = room - gt us k := by simp [leftL, gt, h]
theorem leftL_snoc (room u : Int) (us : List Int) : leftL room (us ++ [u]) = leftL room us ++ [room - u] := by simp [leftL]
theorem leftL_set (room u : Int) (us : List Int) (k : Nat) : leftL room (us.set k u) = (leftL room us).set k (room - u) := by simp [leftL, List.map_set]
theorem set_snoc_len (U : List Int) (x y : Int) : (U ++ [x]).set U.length y = U ++ [y] := by
  rw [List.set_append_right _ _ (Nat.le_refl _)]; simp

end Go.Proofs.Ythjiggihljiikaa
