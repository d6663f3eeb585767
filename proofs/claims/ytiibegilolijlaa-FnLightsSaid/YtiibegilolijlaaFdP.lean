/- Fades: the plain law. -/
import Derived.Test.YtiibegilolijlaaFdC
import Derived.WalkKit
import Derived.ProofKit
import Derived.Handy
import Derived.OpenShut
import Derived.ShutString
import Derived.ChangeOld
import Derived.Below
import Derived.BigQuiet
import Derived.Deep.QuietTactic
import Derived.Deep.Draws
import Derived.Deep.DeepCutAuto
import Derived.Deep.DeepFit
import Derived.Deep.LoopGhost
import Derived.Outline
import Derived.WalkSpells
import Derived.WalkLawsBesides
import Derived.WalkSmall
import Derived.Laws.OwnMore
import Derived.OneCell
import Derived.Laws.Rows
import Derived.Maps.AppendAt
import Derived.StillTailTactics
import Derived.Lib.SmallJoins
import Derived.Deep.RegionWith
import Derived.Deep.RegionHeld3
import Derived.RegionTactic
import Derived.Deep.Matrix
import Derived.Deep.Fields
import Derived.ChangeSame
namespace Go.Proofs.Ytiibegilolijlaa
open Go.RowKit

/-- one fade more: f has the lamp, from, to, the level. -/
def lvStep (l t from_ to_ lev : Int) : Int := if t < from_ then l else if to_ ≤ t then lev else l + ((lev - l) * (t - from_)).tdiv (to_ - from_)
theorem tdiv_bd {a b c : Int} (hb : 0 < c) (h0 : 0 ≤ b) (h1 : b < c) : (0 ≤ a → 0 ≤ (a * b).tdiv c ∧ (a * b).tdiv c ≤ a) ∧ (a ≤ 0 → a ≤ (a * b).tdiv c ∧ (a * b).tdiv c ≤ 0) := by
  have pos : ∀ x : Int, 0 ≤ x → 0 ≤ (x * b).tdiv c ∧ (x * b).tdiv c ≤ x := by
    intro x hx
    have h2 : 0 ≤ x * b := Int.mul_nonneg hx h0
    rw [Int.tdiv_eq_ediv_of_nonneg h2]
    refine ⟨Int.ediv_nonneg h2 (by omega), ?_⟩
    have h3 : x * b ≤ x * c := Int.mul_le_mul_of_nonneg_left (by omega) hx
    have := Int.ediv_le_ediv hb h3
    rwa [Int.mul_ediv_cancel _ (by omega)] at this
  refine ⟨pos a, fun ha => ?_⟩
  have := pos (-a) (by omega)
  rw [Int.neg_mul, Int.neg_tdiv] at this
  omega
theorem lvStep_bd {l t from_ to_ lev : Int} (h0 : 0 ≤ l ∧ l ≤ 100) (h1 : 0 ≤ lev ∧ lev ≤ 100) : 0 ≤ lvStep l t from_ to_ lev ∧ lvStep l t from_ to_ lev ≤ 100 := by
  unfold lvStep
  split
  · exact h0
  · split
    · exact h1
    · have := tdiv_bd (a := lev - l) (b := t - from_) (c := to_ - from_) (by omega) (by omega) (by omega)
      omega

/-- a fade is one. -/
def fdOk (rows : List (List Int)) (k : Nat) : Bool := inR (fd rows k 0) 0 7 && (inR (fd rows k 2) 0 1000 && (inR (fd rows k 1) 0 (fd rows k 2) && inR (fd rows k 3) 0 100))
/-- an earlier fade of the same lamp ends too late. -/
def clash (rows : List (List Int)) (k i : Nat) : Bool := decide (fd rows i 0 = fd rows k 0 ∧ fd rows k 1 < fd rows i 2)
def fadeAt (rows : List (List Int)) (k : Nat) : Bool := fdOk rows k && (List.range k).all fun i => !clash rows k i
/-- fades are ones. -/
def fadesOk (rows : List (List Int)) : Bool := decide (rows.length ≤ 20) && (List.range rows.length).all fun k => fadeAt rows k
theorem fdOk_iff {rows : List (List Int)} {k : Nat} : fdOk rows k = true ↔ (0 ≤ fd rows k 0 ∧ fd rows k 0 ≤ 7) ∧ (0 ≤ fd rows k 2 ∧ fd rows k 2 ≤ 1000) ∧ (0 ≤ fd rows k 1 ∧ fd rows k 1 ≤ fd rows k 2) ∧ (0 ≤ fd rows k 3 ∧ fd rows k 3 ≤ 100) := by
  simp only [fdOk, Bool.and_eq_true, inR_iff]
theorem fdOk_false {rows : List (List Int)} {k : Nat} (h : ¬ ((0 ≤ fd rows k 0 ∧ fd rows k 0 ≤ 7) ∧ (0 ≤ fd rows k 2 ∧ fd rows k 2 ≤ 1000) ∧ (0 ≤ fd rows k 1 ∧ fd rows k 1 ≤ fd rows k 2) ∧ (0 ≤ fd rows k 3 ∧ fd rows k 3 ≤ 100))) : fdOk rows k = false := by
  rw [Bool.eq_false_iff]; exact fun ht => h (fdOk_iff.1 ht)
theorem clash_no {rows : List (List Int)} {k i : Nat} (h : ¬ (fd rows i 0 = fd rows k 0 ∧ fd rows k 1 < fd rows i 2)) : clash rows k i = false := by simp [clash]; omega
theorem fadeAt_clash {rows : List (List Int)} {k i : Nat} (hi : i < k) (h1 : fd rows i 0 = fd rows k 0) (h2 : fd rows k 1 < fd rows i 2) : fadeAt rows k = false := by
  rw [Bool.eq_false_iff]
  intro ht
  simp only [fadeAt, Bool.and_eq_true] at ht
  have := List.all_eq_true.1 ht.2 i (List.mem_range.2 hi)
  have hc : clash rows k i = true := by simp [clash, h1, h2]
  rw [hc] at this
  cases this
theorem fadeAt_of {rows : List (List Int)} {k : Nat} (h : fdOk rows k = true) (h1 : ∀ i, i < k → clash rows k i = false) : fadeAt rows k = true := by
  simp only [fadeAt, h, Bool.true_and, List.all_eq_true, List.mem_range]
  intro i hi
  rw [h1 i hi]; rfl
theorem fadeAt_bad {rows : List (List Int)} {k : Nat} (h : fdOk rows k = false) : fadeAt rows k = false := by simp [fadeAt, h]
theorem fadesOk_bad {rows : List (List Int)} {k : Nat} (hk : k < rows.length) (h : fadeAt rows k = false) : fadesOk rows = false := by
  rw [Bool.eq_false_iff]
  intro ht
  simp only [fadesOk, Bool.and_eq_true] at ht
  have := List.all_eq_true.1 ht.2 k (List.mem_range.2 hk)
  rw [h] at this
  cases this
theorem fadesOk_all {rows : List (List Int)} (h : ∀ k, k < rows.length → fadeAt rows k = true) : fadesOk rows = decide (rows.length ≤ 20) := by
  have : (List.range rows.length).all (fun k => fadeAt rows k) = true := List.all_eq_true.2 fun k hk => h k (List.mem_range.1 hk)
  simp [fadesOk, this]
theorem fadesOk_true {rows : List (List Int)} (h : fadesOk rows = true) : rows.length ≤ 20 ∧ ∀ k, k < rows.length → (0 ≤ fd rows k 0 ∧ fd rows k 0 ≤ 7) ∧ (0 ≤ fd rows k 2 ∧ fd rows k 2 ≤ 1000) ∧ (0 ≤ fd rows k 1 ∧ fd rows k 1 ≤ fd rows k 2) ∧ (0 ≤ fd rows k 3 ∧ fd rows k 3 ≤ 100) := by
  simp only [fadesOk, Bool.and_eq_true, decide_eq_true_eq] at h
  refine ⟨h.1, fun k hk => ?_⟩
  have := List.all_eq_true.1 h.2 k (List.mem_range.2 hk)
  simp only [fadeAt, Bool.and_eq_true] at this
  exact fdOk_iff.1 this.1
/-- the level of a lamp after the first k fades. -/
def lvTo (rows : List (List Int)) (lamp t : Int) : Nat → Int
  | 0 => 0
  | k + 1 => if fd rows k 0 = lamp then lvStep (lvTo rows lamp t k) t (fd rows k 1) (fd rows k 2) (fd rows k 3) else lvTo rows lamp t k
theorem lvTo_other {rows : List (List Int)} {lamp t : Int} {k : Nat} (h : fd rows k 0 ≠ lamp) : lvTo rows lamp t (k + 1) = lvTo rows lamp t k := by simp only [lvTo]; rw [if_neg h]
theorem lvTo_early {rows : List (List Int)} {lamp t : Int} {k : Nat} (h : t < fd rows k 1) : lvTo rows lamp t (k + 1) = lvTo rows lamp t k := by
  simp only [lvTo]; split
  · simp [lvStep, h]
  · rfl
theorem lvTo_late {rows : List (List Int)} {lamp t : Int} {k : Nat} (h : fd rows k 0 = lamp) (h1 : ¬ t < fd rows k 1) (h2 : fd rows k 2 ≤ t) : lvTo rows lamp t (k + 1) = fd rows k 3 := by
  simp only [lvTo]; rw [if_pos h]; simp [lvStep, h1, h2]
theorem lvTo_mid {rows : List (List Int)} {lamp t : Int} {k : Nat} (h : fd rows k 0 = lamp) (h1 : ¬ t < fd rows k 1) (h2 : ¬ fd rows k 2 ≤ t) :
    lvTo rows lamp t (k + 1) = lvTo rows lamp t k + ((fd rows k 3 - lvTo rows lamp t k) * (t - fd rows k 1)).tdiv (fd rows k 2 - fd rows k 1) := by
  simp only [lvTo]; rw [if_pos h]; simp [lvStep, h1, h2]
theorem lvTo_bd {rows : List (List Int)} (lamp t : Int) (h : fadesOk rows = true) {k : Nat} (hk : k ≤ rows.length) : 0 ≤ lvTo rows lamp t k ∧ lvTo rows lamp t k ≤ 100 := by
  induction k with
  | zero => simp [lvTo]
  | succ k ih =>
    have := ih (by omega)
    have hb := (fadesOk_true h).2 k (by omega)
    simp only [lvTo]
    split
    · exact lvStep_bd this hb.2.2.2
    · exact this
def levelAt (rows : List (List Int)) (lamp t : Int) : Int := if fadesOk rows && inR t 0 1000 then lvTo rows lamp t rows.length else -1
/-- the watts of the first k lamps. -/
def pwTo (rows : List (List Int)) (ws : List Int) (t : Int) : Nat → Int
  | 0 => 0
  | k + 1 => pwTo rows ws t k + gt ws k * lvTo rows (k : Int) t rows.length
def wattsOk (rows : List (List Int)) (ws : List Int) : Bool := fadesOk rows && (decide (ws.length = 8) && allW 0 2000 ws)
def power (rows : List (List Int)) (ws : List Int) (t : Int) : Int := pwTo rows ws t 8 / 100
theorem pw_term {a l : Int} (h : 0 ≤ a ∧ a ≤ 2000) (h1 : 0 ≤ l ∧ l ≤ 100) : 0 ≤ a * l ∧ a * l ≤ 200000 := by
  refine ⟨Int.mul_nonneg h.1 h1.1, ?_⟩
  have e1 : a * l ≤ 2000 * l := Int.mul_le_mul_of_nonneg_right h.2 h1.1
  omega
theorem pwTo_bd {rows : List (List Int)} {ws : List Int} (t : Int) (h : fadesOk rows = true) (hw : ∀ k, k < 8 → 0 ≤ gt ws k ∧ gt ws k ≤ 2000) {k : Nat} (hk : k ≤ 8) : 0 ≤ pwTo rows ws t k ∧ pwTo rows ws t k ≤ 200000 * k := by
  induction k with
  | zero => simp [pwTo]
  | succ k ih =>
    have := ih (by omega)
    have := pw_term (hw k (by omega)) (lvTo_bd (k : Int) t h (Nat.le_refl _))
    simp only [pwTo]
    omega
def powerAt (rows : List (List Int)) (ws : List Int) (t : Int) : Int := if wattsOk rows ws && inR t 0 1000 then power rows ws t else -1

end Go.Proofs.Ytiibegilolijlaa
