/- Tours: the plain law. -/
import Derived.Test.YtemijekdcifncaaSort
import Derived.WalkKit
import Derived.ProofKit
import Derived.Handy
import Derived.OpenShut
import Derived.ShutString
import Derived.ChangeOld
import Derived.Below
import Derived.BigQuiet
import Derived.Deep.QuietTactic
import Derived.Deep.Draws
import Derived.Deep.DeepCutAuto
import Derived.Deep.DeepFit
import Derived.Deep.LoopGhost
import Derived.Outline
import Derived.WalkSpells
import Derived.WalkLawsBesides
import Derived.WalkSmall
import Derived.Laws.OwnMore
import Derived.OneCell
import Derived.Laws.Rows
import Derived.Maps.AppendAt
import Derived.StillTailTactics
import Derived.Lib.SmallJoins
import Derived.Deep.RegionWith
import Derived.Deep.RegionHeld3
import Derived.RegionTactic
import Derived.Deep.Matrix
import Derived.Deep.Fields
import Derived.ChangeSame
namespace Go.Proofs.Ytemijekdcifncaa
open Go.RowKit

/-- the numbers rise strictly and lie from a to b. -/
def strictL (a b : Int) (zs : List Int) : Bool := ((List.range zs.length).all fun k => decide (k = 0) || decide (gt zs (k - 1) < gt zs k)) && allW a b zs
/-- no number twice. -/
def distL (zs : List Int) : Bool := (List.range zs.length).all fun k => (List.range k).all fun i => !decide (gt zs i = gt zs k)
theorem distL_iff {zs : List Int} : distL zs = true ↔ ∀ i k, i < k → k < zs.length → gt zs i ≠ gt zs k := by
  simp only [distL, List.all_eq_true, List.mem_range, Bool.not_eq_true', decide_eq_false_iff_not]
  exact ⟨fun h i k hi hk => h k hk i hi, fun h k hk i hi => h i k hi hk⟩
theorem distL_pair {zs : List Int} : distL zs = true ↔ zs.Pairwise (· ≠ ·) := by
  rw [distL_iff, List.pairwise_iff_getElem]
  constructor
  · intro h i j hi hj hij
    have := h i j hij hj
    rw [gt_getElem hi, gt_getElem hj] at this
    exact this
  · intro h i k hi hk
    rw [gt_getElem (by omega), gt_getElem hk]
    exact h i k (by omega) hk hi
theorem strictL_false1 {a b : Int} {zs : List Int} {k : Nat} (hk : k < zs.length) (h0 : 0 < k) (h : gt zs k ≤ gt zs (k - 1)) : strictL a b zs = false := by
  rw [Bool.eq_false_iff]
  intro ht
  simp only [strictL, Bool.and_eq_true, List.all_eq_true, List.mem_range, Bool.or_eq_true, decide_eq_true_eq] at ht
  have := ht.1 k hk
  omega
theorem strictL_of {a b : Int} {zs : List Int} (h : ∀ k, k < zs.length → 0 < k → gt zs (k - 1) < gt zs k) : strictL a b zs = allW a b zs := by
  have : ((List.range zs.length).all fun k => decide (k = 0) || decide (gt zs (k - 1) < gt zs k)) = true := by
    simp only [List.all_eq_true, List.mem_range, Bool.or_eq_true, decide_eq_true_eq]
    intro k hk
    by_cases h0 : k = 0
    · exact .inl h0
    · exact .inr (h k hk (by omega))
  simp [strictL, this]
theorem allW_perm {a b : Int} {xs ys : List Int} (h : xs.Perm ys) : allW a b xs = allW a b ys := by
  rw [Bool.eq_iff_iff]
  simp only [allW, List.all_eq_true]
  exact ⟨fun h1 x hx => h1 x (h.mem_iff.2 hx), fun h1 x hx => h1 x (h.mem_iff.1 hx)⟩
theorem strict_sorted (a b : Int) (zs : List Int) : strictL a b (sortL zs) = (distL zs && allW a b zs) := by
  rw [← allW_perm (a := a) (b := b) (sortL_perm zs)]
  cases hd : distL zs with
  | true =>
    have hp : (sortL zs).Pairwise (· ≠ ·) := ((sortL_perm zs).pairwise_iff (fun h => Ne.symm h)).2 (distL_pair.1 hd)
    have hp2 := distL_iff.1 (distL_pair.2 hp)
    rw [strictL_of fun k hk h0 => by
      have h1 := asc_gt (sortL_asc zs) (i := k - 1) (j := k) (by omega) hk
      have h2 := hp2 (k - 1) k (by omega) hk
      omega]
    rfl
  | false =>
    rw [Bool.false_and, Bool.eq_false_iff]
    intro ht
    rw [Bool.eq_false_iff] at hd
    apply hd
    have hs : ∀ k, k < (sortL zs).length → 0 < k → gt (sortL zs) (k - 1) < gt (sortL zs) k := by
      intro k hk h0
      rcases Int.lt_or_le (gt (sortL zs) (k - 1)) (gt (sortL zs) k) with h | h
      · exact h
      · rw [strictL_false1 hk h0 h] at ht
        cases ht
    have hd2 : distL (sortL zs) = true := distL_iff.2 fun i k hik hk => by
      have h1 := asc_gt (sortL_asc zs) (i := i) (j := k - 1) (by omega) (by omega)
      have h2 := hs k hk (by omega)
      omega
    exact distL_pair.2 (((sortL_perm zs).pairwise_iff (fun h => Ne.symm h)).1 (distL_pair.1 hd2))
/-- a tour of n towns. -/
def tourOk (n : Nat) (zs : List Int) : Bool := decide (zs.length = n - 1) && (allW 1 ((n : Int) - 1) zs && distL zs)
/-- the town before step k. -/
def atTo (zs : List Int) : Nat → Nat
  | 0 => 0
  | k + 1 => (gt zs k).toNat
def wayTo (rows : List (List Int)) (zs : List Int) : Nat → Int
  | 0 => 0
  | k + 1 => wayTo rows zs k + g2 rows (atTo zs k) (gt zs k).toNat
def tourLen (rows : List (List Int)) (zs : List Int) : Int := if mapOk rows && tourOk rows.length zs then wayTo rows zs zs.length + g2 rows (atTo zs zs.length) 0 else -1
theorem atTo_lt {n : Nat} (hn : 0 < n) {zs : List Int} (h : ∀ k, k < zs.length → 1 ≤ gt zs k ∧ gt zs k ≤ (n : Int) - 1) {k : Nat} (hk : k ≤ zs.length) : atTo zs k < n := by
  cases k with
  | zero => exact hn
  | succ k => have := h k hk; simp only [atTo]; omega
theorem wayTo_bd {rows : List (List Int)} {zs : List Int} (hn : 0 < rows.length) (hb : ∀ i k, i < rows.length → k < rows.length → 0 ≤ g2 rows i k ∧ g2 rows i k ≤ 1000)
    (h : ∀ k, k < zs.length → 1 ≤ gt zs k ∧ gt zs k ≤ (rows.length : Int) - 1) {k : Nat} (hk : k ≤ zs.length) : 0 ≤ wayTo rows zs k ∧ wayTo rows zs k ≤ 1000 * k := by
  induction k with
  | zero => simp [wayTo]
  | succ k ih =>
    have := ih (by omega)
    have h1 := h k (by omega)
    have := hb (atTo zs k) (gt zs k).toNat (atTo_lt hn h (by omega)) (by omega)
    simp only [wayTo]
    omega

end Go.Proofs.Ytemijekdcifncaa
