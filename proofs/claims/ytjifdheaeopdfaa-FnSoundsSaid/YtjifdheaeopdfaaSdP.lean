/- Sounds: the plain law. -/
import Derived.Test.YtjifdheaeopdfaaMix
import Derived.Test.YtjifdheaeopdfaaEcho
import Derived.Test.YtjifdheaeopdfaaQuiet
import Derived.WalkKit
import Derived.ProofKit
import Derived.Handy
import Derived.OpenShut
import Derived.ShutString
import Derived.ChangeOld
import Derived.Below
import Derived.BigQuiet
import Derived.Deep.QuietTactic
import Derived.Deep.Draws
import Derived.Deep.DeepCutAuto
import Derived.Deep.DeepFit
import Derived.Deep.LoopGhost
import Derived.Outline
import Derived.WalkSpells
import Derived.WalkLawsBesides
import Derived.WalkSmall
import Derived.Laws.OwnMore
import Derived.OneCell
import Derived.Laws.Rows
import Derived.Maps.AppendAt
import Derived.StillTailTactics
import Derived.Lib.SmallJoins
import Derived.Deep.RegionWith
import Derived.Deep.RegionHeld3
import Derived.RegionTactic
import Derived.Deep.Matrix
import Derived.Deep.Fields
import Derived.ChangeSame
namespace Go.Proofs.Ytjifdheaeopdfaa
open Go.RowKit

/-- the greatest of the first k, 0 at least. -/
def topTo (zs : List Int) : Nat → Int
  | 0 => 0
  | k + 1 => max (topTo zs k) (gt zs k)
theorem topTo_le {zs : List Int} {c : Int} (h0 : 0 ≤ c) {k : Nat} (h : ∀ j, j < k → gt zs j ≤ c) : topTo zs k ≤ c := by
  induction k with
  | zero => exact h0
  | succ k ih =>
    have := ih fun j hj => h j (by omega)
    have := h k (by omega)
    simp only [topTo]; omega
theorem topTo_ge {zs : List Int} {k j : Nat} (h : j < k) : gt zs j ≤ topTo zs k := by
  induction k with
  | zero => omega
  | succ k ih =>
    simp only [topTo]
    rcases Nat.lt_or_ge j k with h1 | h1
    · have := ih h1; omega
    · obtain rfl : j = k := by omega
      omega
theorem topTo_bd {zs : List Int} {k : Nat} (h : ∀ j, j < k → 0 ≤ gt zs j ∧ gt zs j ≤ 1000) : 0 ≤ topTo zs k ∧ topTo zs k ≤ 1000 := by
  refine ⟨?_, topTo_le (by omega) fun j hj => (h j hj).2⟩
  clear h
  induction k with
  | zero => simp [topTo]
  | succ k ih => simp only [topTo]; omega
theorem mem_gt' {zs : List Int} {x : Int} (h : x ∈ zs) : ∃ i, i < zs.length ∧ gt zs i = x := by
  obtain ⟨i, hi, rfl⟩ := List.getElem_of_mem h
  exact ⟨i, hi, gt_getElem hi⟩
theorem fall_top {zs : List Int} (h0 : 0 < zs.length) (h : ∀ j, j < zs.length → 0 ≤ gt zs j) : gt (fallL zs) 0 = topTo zs zs.length := by
  have hl := fallL_length zs
  have hp : (fallL zs).Perm zs := (List.reverse_perm _).trans (sortL_perm zs)
  have h1 : topTo zs zs.length ≤ gt (fallL zs) 0 := by
    refine topTo_le ?_ fun j hj => ?_
    · obtain ⟨i, hi, e⟩ := mem_gt' (hp.mem_iff.1 (gt_mem (zs := fallL zs) (k := 0) (by omega)))
      rw [← e]; exact h i hi
    · obtain ⟨i, hi, e⟩ := mem_gt' (hp.mem_iff.2 (gt_mem hj))
      rw [← e]; exact fallL_head (by omega)
  have h2 : gt (fallL zs) 0 ≤ topTo zs zs.length := by
    obtain ⟨i, hi, e⟩ := mem_gt' (hp.mem_iff.1 (gt_mem (zs := fallL zs) (k := 0) (by omega)))
    rw [← e]; exact topTo_ge hi
  omega
theorem mixAll_bd {zs : List Int} (h1 : 1 ≤ zs.length) (h2 : zs.length ≤ 10) (h : ∀ j, j < zs.length → 0 ≤ gt zs j ∧ gt zs j ≤ 120) :
    topTo zs zs.length ≤ mixAll zs ∧ mixAll zs ≤ topTo zs zs.length + 3 * ((zs.length : Int) - 1) := by
  have e : mixAll zs = mixTo (fallL zs) zs.length := by
    unfold mixAll
    rw [if_pos]
    rw [Bool.and_eq_true]
    exact ⟨inR_iff.2 (by omega), allW_iff.2 h⟩
  rw [e]
  have := mixTo_bd (fallL zs) zs.length h1
  rw [fall_top (by omega) fun j hj => (h j hj).1] at this
  exact this
theorem sortL_perm_eq {xs ys : List Int} (h : xs.Perm ys) : sortL xs = sortL ys :=
  List.Perm.eq_of_pairwise (le := (· ≤ ·)) (fun _ _ _ _ h1 h2 => Int.le_antisymm h1 h2) (sortL_asc xs) (sortL_asc ys) ((sortL_perm xs).trans (h.trans (sortL_perm ys).symm))
theorem mixAll_perm {xs ys : List Int} (h : xs.Perm ys) : mixAll xs = mixAll ys := by
  have e1 : allW 0 120 xs = allW 0 120 ys := by
    rw [Bool.eq_iff_iff]
    simp only [allW, List.all_eq_true]
    exact ⟨fun h1 x hx => h1 x (h.mem_iff.2 hx), fun h1 x hx => h1 x (h.mem_iff.1 hx)⟩
  unfold mixAll fallL
  rw [sortL_perm_eq h, h.length_eq, e1]
theorem mixAll_rev (zs : List Int) : mixAll zs.reverse = mixAll zs := mixAll_perm (List.reverse_perm zs)
theorem quiet_three {a : Int} (h0 : 0 ≤ a) (h1 : a ≤ 255) : decide (quietest [1, a, 5] 70 = 1) = decide (4 ≤ a) := by
  have key : ∀ n : Nat, n < 256 → decide (quietest [1, (n : Int), 5] 70 = 1) = decide (4 ≤ (n : Int)) := by decide +kernel
  have := key a.toNat (by omega)
  rwa [Int.toNat_of_nonneg h0] at this
theorem quiet_bd {a : Int} (h0 : 0 ≤ a) (h1 : a ≤ 255) : 0 ≤ quietest [1, a, 5] 70 ∧ quietest [1, a, 5] 70 ≤ 2 := by
  have key : ∀ n : Nat, n < 256 → 0 ≤ quietest [1, (n : Int), 5] 70 ∧ quietest [1, (n : Int), 5] 70 ≤ 2 := by decide +kernel
  have := key a.toNat (by omega)
  rwa [Int.toNat_of_nonneg h0] at this
theorem mix_sixty : mixAll [60, 60] = 63 := by decide +kernel
theorem delay_mono {a b : Int} (h0 : 0 ≤ a) (h1 : a ≤ b) (h2 : b ≤ 1000) : 0 ≤ delay a ∧ delay a ≤ delay b ∧ gap a b = delay b - delay a := by
  have ha : delay a = a * 1000 / 343 := by unfold delay; rw [if_pos (by omega)]
  have hb : delay b = b * 1000 / 343 := by unfold delay; rw [if_pos (by omega)]
  have h3 : 0 ≤ delay a := by rw [ha]; omega
  have h4 : delay a ≤ delay b := by rw [ha, hb]; omega
  refine ⟨h3, h4, ?_⟩
  unfold gap
  rw [if_neg (by omega)]
theorem gap_back (b : Int) : gap (b + 1) b = -1 := by
  unfold gap
  rw [if_pos (by omega)]
theorem delay_343 : delay 343 = 1000 := by decide +kernel

end Go.Proofs.Ytjifdheaeopdfaa
