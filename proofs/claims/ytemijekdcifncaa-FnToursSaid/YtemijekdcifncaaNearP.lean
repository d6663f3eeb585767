/- NearestTour: the plain law. -/
import Derived.Test.YtemijekdcifncaaMap
import Derived.WalkKit
import Derived.ProofKit
import Derived.Handy
import Derived.OpenShut
import Derived.ShutString
import Derived.ChangeOld
import Derived.Below
import Derived.BigQuiet
import Derived.Deep.QuietTactic
import Derived.Deep.Draws
import Derived.Deep.DeepCutAuto
import Derived.Deep.DeepFit
import Derived.Deep.LoopGhost
import Derived.Outline
import Derived.WalkSpells
import Derived.WalkLawsBesides
import Derived.WalkSmall
import Derived.Laws.OwnMore
import Derived.OneCell
import Derived.Laws.Rows
import Derived.Maps.AppendAt
import Derived.StillTailTactics
import Derived.Lib.SmallJoins
import Derived.Deep.RegionWith
import Derived.Deep.RegionHeld3
import Derived.RegionTactic
import Derived.Deep.Matrix
import Derived.Deep.Fields
import Derived.ChangeSame
namespace Go.Proofs.Ytemijekdcifncaa
open Go.RowKit

/-- the nearest town of 1 .. t that is not in the list. -/
def nbTo (d : Nat → Nat → Int) (out : List Int) (now : Nat) : Nat → Option Nat
  | 0 => none
  | t + 1 => if ((t + 1 : Nat) : Int) ∈ out then nbTo d out now t else
    match nbTo d out now t with
    | none => some (t + 1)
    | some b => if d now (t + 1) < d now b then some (t + 1) else some b
section
variable {d : Nat → Nat → Int} {out : List Int} {now t b : Nat}
theorem nbTo_skip (h : ((t + 1 : Nat) : Int) ∈ out) : nbTo d out now (t + 1) = nbTo d out now t := by rw [nbTo, if_pos h]
theorem nbTo_first (h : ¬ ((t + 1 : Nat) : Int) ∈ out) (h1 : nbTo d out now t = none) : nbTo d out now (t + 1) = some (t + 1) := by rw [nbTo, if_neg h, h1]
theorem nbTo_take (h : ¬ ((t + 1 : Nat) : Int) ∈ out) (h1 : nbTo d out now t = some b) (h2 : d now (t + 1) < d now b) : nbTo d out now (t + 1) = some (t + 1) := by rw [nbTo, if_neg h, h1]; simp [h2]
theorem nbTo_leave (h : ¬ ((t + 1 : Nat) : Int) ∈ out) (h1 : nbTo d out now t = some b) (h2 : ¬ d now (t + 1) < d now b) : nbTo d out now (t + 1) = some b := by rw [nbTo, if_neg h, h1]; simp [h2]
theorem nbTo_lt (h : nbTo d out now t = some b) : 1 ≤ b ∧ b ≤ t ∧ ¬ (b : Int) ∈ out := by
  induction t generalizing b with
  | zero => simp [nbTo] at h
  | succ t ih =>
    by_cases h1 : ((t + 1 : Nat) : Int) ∈ out
    · rw [nbTo_skip h1] at h
      have := ih h
      exact ⟨this.1, by omega, this.2.2⟩
    · cases h2 : nbTo d out now t with
      | none => rw [nbTo_first h1 h2] at h; cases h; exact ⟨by omega, Nat.le_refl _, h1⟩
      | some c =>
        by_cases h3 : d now (t + 1) < d now c
        · rw [nbTo_take h1 h2 h3] at h; cases h; exact ⟨by omega, Nat.le_refl _, h1⟩
        · rw [nbTo_leave h1 h2 h3] at h
          cases h
          have := ih h2
          exact ⟨this.1, by omega, this.2.2⟩
theorem nbTo_none (h : nbTo d out now t = none) : ∀ k, 1 ≤ k → k ≤ t → (k : Int) ∈ out := by
  induction t with
  | zero => intro k h1 h2; omega
  | succ t ih =>
    by_cases h1 : ((t + 1 : Nat) : Int) ∈ out
    · rw [nbTo_skip h1] at h
      intro k hk hk2
      rcases Nat.lt_or_ge k (t + 1) with h2 | h2
      · exact ih h k hk (by omega)
      · obtain rfl : k = t + 1 := by omega
        exact h1
    · cases h2 : nbTo d out now t with
      | none => rw [nbTo_first h1 h2] at h; cases h
      | some c =>
        by_cases h3 : d now (t + 1) < d now c
        · rw [nbTo_take h1 h2 h3] at h; cases h
        · rw [nbTo_leave h1 h2 h3] at h; cases h
end
theorem sub_length {xs ys : List Int} (h : xs.Nodup) (hs : ∀ x, x ∈ xs → x ∈ ys) : xs.length ≤ ys.length := by
  induction xs generalizing ys with
  | nil => simp
  | cons x xs ih =>
    rw [List.nodup_cons] at h
    have hx := hs x (by simp)
    have := ih (ys := ys.erase x) h.2 (fun y hy => (List.mem_erase_of_ne (fun e => h.1 (by rw [← e]; exact hy))).2 (hs y (by simp [hy])))
    rw [List.length_erase_of_mem hx] at this
    have : 0 < ys.length := List.length_pos_of_mem hx
    simp
    omega
theorem some_free {out : List Int} {m : Nat} (h : out.length < m) : ∃ k, 1 ≤ k ∧ k ≤ m ∧ ¬ (k : Int) ∈ out := by
  refine Classical.byContradiction fun hn => ?_
  have hall : ∀ k : Nat, 1 ≤ k → k ≤ m → (k : Int) ∈ out := fun k h1 h2 => Classical.byContradiction fun h3 => hn ⟨k, h1, h2, h3⟩
  have nd : ((List.range m).map fun (i : Nat) => ((i + 1 : Nat) : Int)).Nodup := by
    unfold List.Nodup
    rw [List.pairwise_map]
    exact List.nodup_range.imp fun h => by omega
  have := sub_length nd (ys := out) (fun x hx => by
    obtain ⟨i, hi, rfl⟩ := List.mem_map.1 hx
    have := List.mem_range.1 hi
    exact hall (i + 1) (by omega) (by omega))
  simp at this
  omega
/-- the tour to the nearest towns, of j towns, and its last town. -/
def nearTo (d : Nat → Nat → Int) (n : Nat) : Nat → List Int × Nat
  | 0 => ([], 0)
  | j + 1 => ((nearTo d n j).1 ++ [(((nbTo d (nearTo d n j).1 (nearTo d n j).2 (n - 1)).getD 0 : Nat) : Int)], (nbTo d (nearTo d n j).1 (nearTo d n j).2 (n - 1)).getD 0)
theorem nearTo_ok (d : Nat → Nat → Int) {n : Nat} (hn : 2 ≤ n) {j : Nat} (hj : j ≤ n - 1) : (nearTo d n j).1.length = j ∧ (∀ x ∈ (nearTo d n j).1, 1 ≤ x ∧ x ≤ (n : Int) - 1) ∧ (nearTo d n j).2 < n := by
  induction j with
  | zero => simp [nearTo]; omega
  | succ j ih =>
    have ih := ih (by omega)
    obtain ⟨k, h1, h2, h3⟩ := some_free (out := (nearTo d n j).1) (m := n - 1) (by omega)
    cases hb : nbTo d (nearTo d n j).1 (nearTo d n j).2 (n - 1) with
    | none => exact absurd (nbTo_none hb k h1 h2) h3
    | some b =>
      have hl := nbTo_lt hb
      simp only [nearTo, hb, Option.getD_some]
      refine ⟨by simp [ih.1], fun x hx => ?_, by omega⟩
      rcases List.mem_append.1 hx with h | h
      · exact ih.2.1 x h
      · simp at h; omega
theorem nearTo_step (d : Nat → Nat → Int) {n : Nat} (hn : 2 ≤ n) {j : Nat} (hj : j < n - 1) :
    ∃ b, nbTo d (nearTo d n j).1 (nearTo d n j).2 (n - 1) = some b ∧ 1 ≤ b ∧ b < n ∧ nearTo d n (j + 1) = ((nearTo d n j).1 ++ [(b : Int)], b) := by
  have ih := nearTo_ok d hn (j := j) (by omega)
  obtain ⟨k, h1, h2, h3⟩ := some_free (out := (nearTo d n j).1) (m := n - 1) (by omega)
  cases hb : nbTo d (nearTo d n j).1 (nearTo d n j).2 (n - 1) with
  | none => exact absurd (nbTo_none hb k h1 h2) h3
  | some b =>
    have hl := nbTo_lt hb
    refine ⟨b, rfl, hl.1, by omega, ?_⟩
    simp only [nearTo, hb, Option.getD_some]
def nearest (rows : List (List Int)) : List Int := if mapOk rows then (nearTo (g2 rows) rows.length (rows.length - 1)).1 else []
theorem mem_gt {zs : List Int} {x : Int} : x ∈ zs ↔ ∃ k, k < zs.length ∧ gt zs k = x := by
  constructor
  · intro h
    obtain ⟨k, hk, e⟩ := List.getElem_of_mem h
    exact ⟨k, hk, by rw [gt_getElem hk, e]⟩
  · rintro ⟨k, hk, rfl⟩
    exact gt_mem hk
theorem mapP_bd {rows : List (List Int)} (h : MapP rows) : ∀ i k, i < rows.length → k < rows.length → 0 ≤ g2 rows i k ∧ g2 rows i k ≤ 1000 := fun i k hi hk => inR_iff.1 (h.2.2 i k hi hk).1
theorem mapP_len {rows : List (List Int)} (h : MapP rows) : 2 ≤ rows.length ∧ rows.length ≤ 7 := by have := inR_iff.1 h.1; omega
theorem NearestTour_len (rows : List (List Int)) (_ : OkM rows) : (nearest rows).length ≤ 1048576 := by
  unfold nearest
  split
  · rename_i hg
    have := mapP_len (mapOk_iff.1 hg)
    have := (nearTo_ok (g2 rows) (n := rows.length) (by omega) (Nat.le_refl _)).1
    omega
  · simp

end Go.Proofs.Ytemijekdcifncaa
