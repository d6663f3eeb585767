/- Sets: the plain law. -/
import Derived.Test.YthjiggihljiikaaBox
import Derived.WalkKit
import Derived.ProofKit
import Derived.Handy
import Derived.OpenShut
import Derived.ShutString
import Derived.ChangeOld
import Derived.Below
import Derived.BigQuiet
import Derived.Deep.QuietTactic
import Derived.Deep.Draws
import Derived.Deep.DeepCutAuto
import Derived.Deep.DeepFit
import Derived.Deep.LoopGhost
import Derived.Outline
import Derived.WalkSpells
import Derived.WalkLawsBesides
import Derived.WalkSmall
import Derived.Laws.OwnMore
import Derived.OneCell
import Derived.Laws.Rows
import Derived.Maps.AppendAt
import Derived.StillTailTactics
import Derived.Lib.SmallJoins
import Derived.Deep.RegionWith
import Derived.Deep.RegionHeld3
import Derived.RegionTactic
import Derived.Deep.Matrix
import Derived.Deep.Fields
import Derived.ChangeSame
namespace Go.Proofs.Ythjiggihljiikaa
open Go.RowKit

theorem tb_sub {j i k : Nat} (h : j.testBit i = true) : (j - 2 ^ i).testBit k = (j.testBit k && decide (k ≠ i)) := by
  induction i generalizing j k with
  | zero =>
    have h0 : j % 2 = 1 := by simpa [Nat.testBit_zero] using h
    cases k with
    | zero => simp only [Nat.testBit_zero, Nat.pow_zero]; simp; omega
    | succ k =>
      simp only [Nat.testBit_succ, Nat.pow_zero]
      rw [show (j - 1) / 2 = j / 2 from by omega]
      simp
  | succ i ih =>
    rw [Nat.testBit_succ] at h
    have hge : 2 ^ i ≤ j / 2 := Nat.ge_two_pow_of_testBit h
    have h2 : 2 ^ (i + 1) = 2 * 2 ^ i := by rw [Nat.pow_succ]; omega
    cases k with
    | zero => simp only [Nat.testBit_zero]; rw [h2, show (j - 2 * 2 ^ i) % 2 = j % 2 from by omega]; simp
    | succ k =>
      simp only [Nat.testBit_succ]
      rw [h2, show (j - 2 * 2 ^ i) / 2 = j / 2 - 2 ^ i from by omega, ih h]
      simp
/-- how many of the first n are in a set. -/
def cnt : Nat → Nat → Nat
  | 0, _ => 0
  | n + 1, j => cnt n j + if j.testBit n then 1 else 0
theorem cnt_le (n j : Nat) : cnt n j ≤ n := by
  induction n with
  | zero => simp [cnt]
  | succ n ih => simp only [cnt]; split <;> omega
theorem cnt_same {n i j : Nat} (h : j.testBit i = true) (hi : n ≤ i) : cnt n (j - 2 ^ i) = cnt n j := by
  induction n with
  | zero => rfl
  | succ n ih =>
    simp only [cnt]
    rw [ih (by omega), tb_sub h, show decide (n ≠ i) = true from by simp; omega, Bool.and_true]
theorem cnt_sub {n i j : Nat} (h : j.testBit i = true) (hi : i < n) : cnt n (j - 2 ^ i) + 1 = cnt n j := by
  induction n with
  | zero => omega
  | succ n ih =>
    simp only [cnt]
    by_cases e : i = n
    · subst e
      rw [cnt_same h (Nat.le_refl _), tb_sub h, h]
      simp
    · have := ih (by omega)
      rw [tb_sub h, show decide (n ≠ i) = true from by simp; omega, Bool.and_true]
      omega
theorem some_bit {n j : Nat} (h0 : 0 < j) (hn : j < 2 ^ n) : ∃ i, i < n ∧ j.testBit i = true := by
  rcases Nat.exists_testBit_of_ne_zero (x := j) (by omega) with ⟨i, hi⟩
  refine ⟨i, ?_, hi⟩
  rcases Nat.lt_or_ge i n with h | h
  · exact h
  · have := Nat.ge_two_pow_of_testBit hi
    have := Nat.pow_le_pow_right (n := 2) (by omega) h
    omega
/-- one more of a set goes in last: the full boxes, and the load of the last one. -/
def candB (room s : Int) (p : Int × Int) : Int × Int := if room < p.2 + s then (p.1 + 1, s) else (p.1, p.2 + s)
/-- a pair is better. -/
def lessB (c q : Int × Int) : Bool := decide (c.1 < q.1 ∨ c.1 = q.1 ∧ c.2 < q.2)
def tbl (T : List (Int × Int)) (j : Nat) : Int × Int := T.getD j (0, 0)
/-- the best of the first i. -/
def bstTo (room : Int) (zs : List Int) (T : List (Int × Int)) (set : Nat) : Nat → Option (Int × Int)
  | 0 => none
  | i + 1 => if set.testBit i then some (match bstTo room zs T set i with
      | none => candB room (gt zs i) (tbl T (set - 2 ^ i))
      | some q => if lessB (candB room (gt zs i) (tbl T (set - 2 ^ i))) q then candB room (gt zs i) (tbl T (set - 2 ^ i)) else q) else bstTo room zs T set i
theorem bstTo_skip {room : Int} {zs : List Int} {T : List (Int × Int)} {set i : Nat} (h : set.testBit i = false) : bstTo room zs T set (i + 1) = bstTo room zs T set i := by simp [bstTo, h]
theorem bstTo_first {room : Int} {zs : List Int} {T : List (Int × Int)} {set i : Nat} (h : set.testBit i = true) (h1 : bstTo room zs T set i = none) : bstTo room zs T set (i + 1) = some (candB room (gt zs i) (tbl T (set - 2 ^ i))) := by simp [bstTo, h, h1]
theorem bstTo_take {room : Int} {zs : List Int} {T : List (Int × Int)} {set i : Nat} {q : Int × Int} (h : set.testBit i = true) (h1 : bstTo room zs T set i = some q) (h2 : lessB (candB room (gt zs i) (tbl T (set - 2 ^ i))) q = true) :
    bstTo room zs T set (i + 1) = some (candB room (gt zs i) (tbl T (set - 2 ^ i))) := by simp [bstTo, h, h1, h2]
theorem bstTo_leave {room : Int} {zs : List Int} {T : List (Int × Int)} {set i : Nat} {q : Int × Int} (h : set.testBit i = true) (h1 : bstTo room zs T set i = some q) (h2 : lessB (candB room (gt zs i) (tbl T (set - 2 ^ i))) q = false) :
    bstTo room zs T set (i + 1) = some q := by simp [bstTo, h, h1, h2]
/-- the table of the first k sets. -/
def tabB (room : Int) (zs : List Int) : Nat → List (Int × Int)
  | 0 => [(0, 0)]
  | k + 1 => tabB room zs k ++ [(bstTo room zs (tabB room zs k) (k + 1) zs.length).getD (0, 0)]
theorem tabB_length (room : Int) (zs : List Int) (k : Nat) : (tabB room zs k).length = k + 1 := by
  induction k with
  | zero => rfl
  | succ k ih => simp [tabB, ih]
theorem tbl_old {room : Int} {zs : List Int} {k j : Nat} (h : j ≤ k) : tbl (tabB room zs (k + 1)) j = tbl (tabB room zs k) j := by
  have := tabB_length room zs k
  simp only [tbl, tabB, List.getD]
  rw [List.getElem?_append_left (by omega)]
theorem tbl_new {room : Int} {zs : List Int} {k : Nat} : tbl (tabB room zs (k + 1)) (k + 1) = (bstTo room zs (tabB room zs k) (k + 1) zs.length).getD (0, 0) := by
  have := tabB_length room zs k
  simp only [tbl, tabB, List.getD]
  rw [List.getElem?_append_right (by omega), this]
  simp
/-- the bounds of a pair in a set of c. -/
def inB (room : Int) (c : Nat) (p : Int × Int) : Prop := 0 ≤ p.1 ∧ p.1 ≤ c ∧ 0 ≤ p.2 ∧ p.2 ≤ room
theorem candB_in {room s : Int} {c : Nat} {p : Int × Int} (h : inB room c p) (hs : 0 ≤ s ∧ s ≤ room) : inB room (c + 1) (candB room s p) := by
  unfold inB at *
  unfold candB
  split <;> refine ⟨?_, ?_, ?_, ?_⟩ <;> simp <;> omega
theorem bstTo_in {room : Int} {zs : List Int} {T : List (Int × Int)} {set : Nat} (hz : ∀ k, k < zs.length → 1 ≤ gt zs k ∧ gt zs k ≤ room)
    (hT : ∀ j, j < set → inB room (cnt zs.length j) (tbl T j)) {i : Nat} (hi : i ≤ zs.length) {q : Int × Int} (h : bstTo room zs T set i = some q) : inB room (cnt zs.length set) q := by
  induction i generalizing q with
  | zero => simp [bstTo] at h
  | succ i ih =>
    have ih := @ih (by omega)
    by_cases hb : set.testBit i = true
    · have hge := Nat.ge_two_pow_of_testBit hb
      have hpos : 0 < 2 ^ i := Nat.pos_of_ne_zero (by simp)
      have hc := candB_in (hT (set - 2 ^ i) (by omega)) (s := gt zs i) (by have := hz i (by omega); omega)
      rw [cnt_sub hb (by omega)] at hc
      cases hq : bstTo room zs T set i with
      | none => rw [bstTo_first hb hq] at h; cases h; exact hc
      | some q' =>
        cases hl : lessB (candB room (gt zs i) (tbl T (set - 2 ^ i))) q' with
        | true => rw [bstTo_take hb hq hl] at h; cases h; exact hc
        | false => rw [bstTo_leave hb hq hl] at h; cases h; exact ih hq
    · rw [bstTo_skip (by simpa using hb)] at h
      exact ih h
theorem bstTo_some {room : Int} {zs : List Int} {T : List (Int × Int)} {set i k : Nat} (hk : set.testBit k = true) (hki : k < i) : ∃ q, bstTo room zs T set i = some q := by
  induction i with
  | zero => omega
  | succ i ih =>
    by_cases hb : set.testBit i = true
    · simp [bstTo, hb]
    · rw [bstTo_skip (by simpa using hb)]
      refine ih ?_
      rcases Nat.lt_or_ge k i with h | h
      · exact h
      · obtain rfl : k = i := by omega
        exact absurd hk hb
theorem tab_in {room : Int} {zs : List Int} (hr : 0 ≤ room) (hz : ∀ k, k < zs.length → 1 ≤ gt zs k ∧ gt zs k ≤ room) {k : Nat} (hk : k < 2 ^ zs.length) : ∀ j, j ≤ k → inB room (cnt zs.length j) (tbl (tabB room zs k) j) := by
  induction k with
  | zero =>
    intro j hj
    obtain rfl : j = 0 := by omega
    simp [tabB, tbl, inB]; omega
  | succ k ih =>
    intro j hj
    have ih := ih (by omega)
    rcases Nat.lt_or_ge j (k + 1) with h | h
    · rw [tbl_old (by omega)]; exact ih j (by omega)
    · obtain rfl : j = k + 1 := by omega
      obtain ⟨b, hb, hbit⟩ := some_bit (n := zs.length) (by omega) hk
      obtain ⟨q, hq⟩ := bstTo_some (room := room) (zs := zs) (T := tabB room zs k) hbit hb
      rw [tbl_new, hq]
      exact bstTo_in hz (fun j hj => ih j (by omega)) (Nat.le_refl _) hq
/-- the least number of boxes. -/
def fewestBoxes (zs : List Int) (room : Int) : Int :=
  if boxesOk zs room then (if zs.length = 0 then 0 else (tbl (tabB room zs (2 ^ zs.length - 1)) (2 ^ zs.length - 1)).1 + 1) else -1

end Go.Proofs.Ythjiggihljiikaa
