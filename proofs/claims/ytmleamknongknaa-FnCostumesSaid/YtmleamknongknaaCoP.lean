/- Costumes: the plain law. -/
import Derived.Test.YtmleamknongknaaFewC
import Derived.Test.YtmleamknongknaaShI
import Derived.Test.YtmleamknongknaaDraw
import Derived.WalkKit
import Derived.ProofKit
import Derived.Handy
import Derived.OpenShut
import Derived.ShutString
import Derived.ChangeOld
import Derived.Below
import Derived.BigQuiet
import Derived.Deep.QuietTactic
import Derived.Deep.Draws
import Derived.Deep.DeepCutAuto
import Derived.Deep.DeepFit
import Derived.Deep.LoopGhost
import Derived.Outline
import Derived.WalkSpells
import Derived.WalkLawsBesides
import Derived.WalkSmall
import Derived.Laws.OwnMore
import Derived.OneCell
import Derived.Laws.Rows
import Derived.Maps.AppendAt
import Derived.StillTailTactics
import Derived.Lib.SmallJoins
import Derived.Deep.RegionWith
import Derived.Deep.RegionHeld3
import Derived.RegionTactic
import Derived.Deep.Matrix
import Derived.Deep.Fields
import Derived.ChangeSame
namespace Go.Proofs.Ytmleamknongknaa
open Go.RowKit

/-- how many of the first i widths suit a chest. -/
def suitTo (W : List Int) (x e : Int) : Nat → Int
  | 0 => 0
  | i + 1 => suitTo W x e i + if x ≤ gt W i ∧ gt W i ≤ x + e then 1 else 0
theorem suitTo_bd (W : List Int) (x e : Int) (i : Nat) : 0 ≤ suitTo W x e i ∧ suitTo W x e i ≤ i := by
  induction i with
  | zero => simp [suitTo]
  | succ i ih => simp only [suitTo]; split <;> omega
theorem suitTo_zero {W : List Int} {x e : Int} {n : Nat} (h : ∀ i, i < n → ¬ (x ≤ gt W i ∧ gt W i ≤ x + e)) : suitTo W x e n = 0 := by
  induction n with
  | zero => rfl
  | succ n ih => simp only [suitTo]; rw [ih fun i hi => h i (by omega), if_neg (h n (by omega))]; rfl
theorem suitTo_one {W : List Int} {x e : Int} {n i0 : Nat} (h0 : i0 < n) (h1 : x ≤ gt W i0 ∧ gt W i0 ≤ x + e) (h : ∀ i, i < n → (x ≤ gt W i ∧ gt W i ≤ x + e) → i = i0) : suitTo W x e n = 1 := by
  induction n with
  | zero => omega
  | succ n ih =>
    simp only [suitTo]
    by_cases e1 : i0 = n
    · subst e1
      rw [suitTo_zero fun i hi hc => by have := h i (by omega) hc; omega, if_pos h1]; rfl
    · rw [ih (by omega) fun i hi hc => h i (by omega) hc, if_neg fun hc => e1 (h n (by omega) hc).symm]; rfl
/-- what holds of the widths after k numbers. -/
def WidOk (a : List Int) (e : Int) (k : Nat) (W : List Int) (L : Int) : Prop :=
  (∀ i, 0 < i → i < W.length → gt W (i - 1) + e < gt W i) ∧ (∀ i, i < W.length → ∃ j, j < k ∧ gt a j = gt W i - e) ∧
  (∀ j, j < k → ∃ i, i < W.length ∧ gt a j ≤ gt W i ∧ gt W i ≤ gt a j + e) ∧ (0 < k → 0 < W.length ∧ gt W (W.length - 1) = L) ∧ (k = 0 → W = [] ∧ L = 0)
theorem widOk_to {a : List Int} {e : Int} (he : 0 ≤ e) (ha : a.Pairwise (· ≤ ·)) (h1 : ∀ j, j < a.length → 1 ≤ gt a j) {k : Nat} (hk : k ≤ a.length) : WidOk a e k (wTo a e k).1 (wTo a e k).2 := by
  induction k with
  | zero => exact ⟨fun i h0 h => absurd h (by simp [wTo]), fun i h => absurd h (by simp [wTo]), fun j hj => absurd hj (by omega), fun h => absurd h (by omega), fun _ => ⟨rfl, rfl⟩⟩
  | succ k ih =>
    obtain ⟨i1, i2, i3, i4, i5⟩ := ih (by omega)
    have hak := h1 k (by omega)
    by_cases hc : (wTo a e k).2 < gt a k
    · rw [wTo_yes hc]
      generalize (wTo a e k).1 = W at *
      generalize (wTo a e k).2 = L at *
      refine ⟨fun i h0 hi => ?_, fun i hi => ?_, fun j hj => ?_, fun _ => ⟨by simp, by simp only [List.length_append, List.length_singleton, Nat.add_sub_cancel]; exact gt_snoc _ _⟩, fun h => absurd h (by omega)⟩
      · simp at hi
        rcases Nat.lt_or_ge i W.length with h | h
        · rw [gt_append_left (by omega), gt_append_left h]; exact i1 i h0 h
        · obtain rfl : i = W.length := by omega
          rw [gt_snoc, gt_append_left (by omega)]
          rcases Nat.eq_zero_or_pos k with e0 | e0
          · have := (i5 e0).1; subst this; simp at h0
          · rw [(i4 e0).2]; omega
      · simp at hi
        rcases Nat.lt_or_ge i W.length with h | h
        · rw [gt_append_left h]
          obtain ⟨j, hj, e1⟩ := i2 i h
          exact ⟨j, by omega, e1⟩
        · obtain rfl : i = W.length := by omega
          rw [gt_snoc]
          exact ⟨k, by omega, by omega⟩
      · rcases Nat.lt_or_ge j k with h | h
        · obtain ⟨i, hi, h2⟩ := i3 j h
          exact ⟨i, by simp; omega, by rw [gt_append_left hi]; exact h2⟩
        · obtain rfl : j = k := by omega
          exact ⟨W.length, by simp, by rw [gt_snoc]; omega⟩
    · rw [wTo_no hc]
      generalize (wTo a e k).1 = W at *
      generalize (wTo a e k).2 = L at *
      have hk0 : 0 < k := by
        rcases Nat.eq_zero_or_pos k with e0 | e0
        · have := (i5 e0).2; omega
        · exact e0
      refine ⟨i1, fun i hi => ?_, fun j hj => ?_, fun _ => i4 hk0, fun h => absurd h (by omega)⟩
      · obtain ⟨j, hj, e1⟩ := i2 i hi
        exact ⟨j, by omega, e1⟩
      · rcases Nat.lt_or_ge j k with h | h
        · exact i3 j h
        · obtain rfl : j = k := by omega
          obtain ⟨q, hq, e1⟩ := i2 (W.length - 1) (by have := (i4 hk0).1; omega)
          have hle := asc_gt ha (i := q) (j := j) (by omega) (by omega)
          have e2 := (i4 hk0).2
          exact ⟨W.length - 1, by have := (i4 hk0).1; omega, by omega, by omega⟩
theorem wid_gap {W : List Int} {e : Int} (he : 0 ≤ e) (h : ∀ i, 0 < i → i < W.length → gt W (i - 1) + e < gt W i) {i j : Nat} (hij : i < j) (hj : j < W.length) : gt W i + e < gt W j := by
  induction j with
  | zero => omega
  | succ j ih =>
    have h1 := h (j + 1) (by omega) hj
    rw [Nat.add_sub_cancel] at h1
    by_cases e1 : i = j
    · subst e1; exact h1
    · have := ih (by omega) (by omega)
      omega
/-- what the law asks of the widths. -/
theorem widths_law {zs : List Int} {e : Int} (ho : okC zs e = true) (h0 : 0 < zs.length) :
    1 ≤ (widthsL zs e).length ∧ (∀ k, k < zs.length → suitTo (widthsL zs e) (gt zs k) e (widthsL zs e).length = 1) ∧
    (∀ i, 0 < i → i < (widthsL zs e).length → gt (widthsL zs e) (i - 1) + e < gt (widthsL zs e) i) ∧ (∀ i, i < (widthsL zs e).length → gt (widthsL zs e) i - e ∈ zs) ∧
    (∀ i, i < (widthsL zs e).length → 0 ≤ gt (widthsL zs e) i ∧ gt (widthsL zs e) i ≤ 250) ∧ (widthsL zs e).length ≤ 30 := by
  have hoo := ho
  simp only [okC, Bool.and_eq_true, decide_eq_true_eq] at hoo
  have he := inR_iff.1 hoo.2
  have hz := allW_iff.1 hoo.1.2
  have hlen := sortL_length zs
  have hb : ∀ j, j < (sortL zs).length → 1 ≤ gt (sortL zs) j ∧ gt (sortL zs) j ≤ 200 := fun j hj => perm_bd (sortL_perm zs) hoo.1.2 hj
  have hw : widthsL zs e = (wTo (sortL zs) e zs.length).1 := by unfold widthsL; rw [if_pos ho]
  obtain ⟨i1, i2, i3, i4, _⟩ := widOk_to (a := sortL zs) (e := e) he.1 (sortL_asc zs) (fun j hj => (hb j hj).1) (k := zs.length) (by omega)
  have hll := wTo_len (sortL zs) e zs.length
  rw [← hw] at i1 i2 i3 i4 hll
  have i4 := i4 h0
  refine ⟨i4.1, fun k hk => ?_, i1, fun i hi => ?_, fun i hi => ?_, by omega⟩
  · obtain ⟨q, hq, e1⟩ := mem_gt ((sortL_perm zs).mem_iff.2 (gt_mem hk))
    obtain ⟨i, hi, h1, h2⟩ := i3 q (by omega)
    rw [e1] at h1 h2
    refine suitTo_one hi ⟨h1, h2⟩ fun j hj hc => ?_
    rcases Nat.lt_trichotomy j i with h | h | h
    · have := wid_gap he.1 i1 h hi; omega
    · exact h
    · have := wid_gap he.1 i1 h hj; omega
  · obtain ⟨j, hj, e1⟩ := i2 i hi
    rw [← e1]
    exact (sortL_perm zs).mem_iff.1 (gt_mem (by omega))
  · obtain ⟨j, hj, e1⟩ := i2 i hi
    have := hb j (by omega)
    omega

theorem two_fits {c L : Int} (hc : 20 ≤ c ∧ c ≤ 28) (hL : 15 ≤ L ∧ L ≤ 22) : fits (c + 3) 12 L c 10 L = true ∧ fits (c + 3) 12 L (c + 3) 12 (L - 2) = true ∧ mOk c 10 L = true ∧ cloth c 10 L < cloth (c + 3) 12 L ∧ (0 ≤ cloth c 10 L ∧ cloth (c + 3) 12 L ≤ 10000) := by
  have h1 : mOk c 10 L = true := mOk_iff.2 (by omega)
  have h2 : mOk (c + 3) 12 L = true := mOk_iff.2 (by omega)
  have h3 : mOk (c + 3) 12 (L - 2) = true := mOk_iff.2 (by omega)
  refine ⟨?_, ?_, h1, ?_⟩
  · simp only [fits, h1, h2, Bool.true_and, Bool.and_eq_true, inR_iff]; omega
  · simp only [fits, h2, h3, Bool.true_and, Bool.and_eq_true, inR_iff]; omega
  · unfold cloth
    rw [if_pos h1, if_pos h2]
    have m1 : max 10 L = L := by omega
    have m2 : max 12 L = L := by omega
    rw [m1, m2, Int.add_mul]
    have b1 : c * L ≤ 28 * L := Int.mul_le_mul_of_nonneg_right hc.2 (by omega)
    have b2 : 0 ≤ c * L := Int.mul_nonneg (by omega) (by omega)
    omega
theorem shared_two {c L : Int} (hc : 20 ≤ c ∧ c ≤ 28) (hL : 15 ≤ L ∧ L ≤ 22) : sharedV [[c, 10, L], [c + 3, 12, L - 2]] = .tuple #[Ms (c + 3) 12 L, .bool true] := by
  have e : ∀ j, mxTo [[c, 10, L], [c + 3, 12, L - 2]] j 2 = max (max 0 (gt [c, 10, L] j)) (gt [c + 3, 12, L - 2] j) := fun j => rfl
  have e0 : mxTo [[c, 10, L], [c + 3, 12, L - 2]] 0 2 = c + 3 := by rw [e]; show max (max 0 c) (c + 3) = c + 3; omega
  have e1 : mxTo [[c, 10, L], [c + 3, 12, L - 2]] 1 2 = 12 := by rw [e]; show max (max 0 10) 12 = (12 : Int); omega
  have e2 : mxTo [[c, 10, L], [c + 3, 12, L - 2]] 2 2 = L := by rw [e]; show max (max 0 L) (L - 2) = L; omega
  obtain ⟨f1, f2, _⟩ := two_fits hc hL
  have hl : ([[c, 10, L], [c + 3, 12, L - 2]] : List (List Int)).length = 2 := rfl
  have ok : sharedOk [[c, 10, L], [c + 3, 12, L - 2]] = true := by
    refine sharedOk_yes (by rw [hl]; decide) fun k hk => ?_
    rw [hl, e0, e1, e2]
    rw [hl] at hk
    have : k = 0 ∨ k = 1 := by omega
    rcases this with rfl | rfl
    · exact f1
    · exact f2
  rw [shared_yes ok, hl, e0, e1, e2]
theorem few_nil : fewC [] 3 = 0 := by decide +kernel
theorem rdS_two (w : World) (T : TypeId) (c L : Int) : RdS (w.alloc (.cells #[.int .i64 c, .int .i64 10, .int .i64 L, .int .i64 (c + 3), .int .i64 12, .int .i64 (L - 2)] T)) (.slice (some ⟨w.heap.size, 0, none⟩) 2 2) [[c, 10, L], [c + 3, 12, L - 2]] := by
  refine ⟨_, 2, Nat.le_refl _, rfl, fun _ => ⟨_, _, rfl, by simp, fun k j hk hj => ?_⟩⟩
  have hk' : k = 0 ∨ k = 1 := by simp at hk; omega
  have hj' : j = 0 ∨ j = 1 ∨ j = 2 := by omega
  rw [(Blk.new w T _).cell]
  rcases hk' with rfl | rfl <;> rcases hj' with rfl | rfl | rfl <;> rfl

end Go.Proofs.Ytmleamknongknaa
