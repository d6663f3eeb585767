/- Contracts of areFree. -/
import Derived.Test.YtkjclpbemdilbaaGrid
import Derived.WalkKit
import Derived.ProofKit
import Derived.Handy
import Derived.OpenShut
import Derived.ShutString
import Derived.ChangeOld
import Derived.Below
import Derived.BigQuiet
import Derived.Deep.QuietTactic
import Derived.Deep.Draws
import Derived.Deep.DeepCutAuto
import Derived.Deep.DeepFit
import Derived.Deep.LoopGhost
import Derived.Outline
import Derived.WalkSpells
import Derived.WalkLawsBesides
import Derived.WalkSmall
import Derived.Laws.OwnMore
import Derived.OneCell
import Derived.Laws.Rows
import Derived.Maps.AppendAt
import Derived.StillTailTactics
import Derived.Lib.SmallJoins
import Derived.Deep.RegionWith
import Derived.Deep.RegionHeld3
import Derived.RegionTactic
import Derived.Deep.Matrix
import Derived.Deep.Fields
import Derived.ChangeSame
namespace Go.Proofs.Ytkjclpbemdilbaa
open Go.RowKit

/-- the free seats from s on. -/
def freeAt (f : Nat → Nat → Int) (ww n y s : Nat) : Bool := decide (s + n ≤ ww) && (List.range n).all fun i => decide (f y (s + i) = -1)
def rowFree (f : Nat → Nat → Int) (ww n y : Nat) : Option Nat := (List.range ww).find? (freeAt f ww n y)
theorem rowFree_yes {f : Nat → Nat → Int} {ww n y s : Nat} (hs : s < ww) (hc : freeAt f ww n y s = true) (h : ∀ j, j < s → freeAt f ww n y j = false) : rowFree f ww n y = some s := by
  unfold rowFree
  rw [List.find?_range_eq_some]
  exact ⟨hc, by simpa using hs, fun j hj => by simp [h j hj]⟩
theorem rowFree_no {f : Nat → Nat → Int} {ww n y : Nat} (h : ∀ j, j < ww → freeAt f ww n y j = false) : rowFree f ww n y = none := by
  unfold rowFree
  rw [List.find?_eq_none]
  intro x hx
  simp [h x (List.mem_range.1 hx)]
theorem freeAt_no {f : Nat → Nat → Int} {ww n y s j : Nat} (h1 : s ≤ j) (h2 : j < s + n) (h : f y j ≠ -1) : freeAt f ww n y s = false := by
  rw [Bool.eq_false_iff]
  intro ht
  simp only [freeAt, Bool.and_eq_true, List.all_eq_true, List.mem_range, decide_eq_true_eq] at ht
  have := ht.2 (j - s) (by omega)
  rw [show s + (j - s) = j from by omega] at this
  exact h this
theorem freeAt_far {f : Nat → Nat → Int} {ww n y s : Nat} (h : ww < s + n) : freeAt f ww n y s = false := by
  simp only [freeAt]; rw [decide_eq_false (by omega)]; rfl
theorem freeAt_yes {f : Nat → Nat → Int} {ww n y s : Nat} (h : s + n ≤ ww) (hf : ∀ j, s ≤ j → j < s + n → f y j = -1) : freeAt f ww n y s = true := by
  simp only [freeAt, decide_eq_true h, Bool.true_and, List.all_eq_true, List.mem_range, decide_eq_true_eq]
  exact fun i hi => hf _ (by omega) (by omega)
/-- the first row that has one. -/
def fTo (c : Nat → Option Nat) : Nat → Option (Nat × Nat)
  | 0 => none
  | k + 1 => match fTo c k with
    | some p => some p
    | none => (c k).map fun s => (k, s)
theorem fTo_none {c : Nat → Option Nat} {n : Nat} (h : ∀ j, j < n → c j = none) : fTo c n = none := by
  induction n with
  | zero => rfl
  | succ n ih => simp only [fTo]; rw [ih fun j hj => h j (by omega), h n (by omega)]; rfl
theorem fTo_yes {c : Nat → Option Nat} {n k s : Nat} (hk : k < n) (h : ∀ j, j < k → c j = none) (hc : c k = some s) : fTo c n = some (k, s) := by
  induction n with
  | zero => omega
  | succ n ih =>
    simp only [fTo]
    rcases Nat.lt_or_ge k n with h1 | h1
    · rw [ih h1]
    · obtain rfl : k = n := by omega
      rw [fTo_none h, hc]; rfl
/-- what FreeTogether answers. -/
def triV : Option (Nat × Nat) → Value
  | none => .tuple #[.int .i64 0, .int .i64 0, .bool false]
  | some p => .tuple #[.int .i64 (p.1 : Int), .int .i64 (p.2 : Int), .bool true]
def freeT (rows : List (List Int)) (n : Int) : Option (Nat × Nat) :=
  if gridOk rows 8 10 (-1) 200 && inR n 1 10 then fTo (rowFree (g2 rows) (rowAt rows 0).length n.toNat) rows.length else none
/-- seats side by side are free. -/
def areFreeB (g : Nat → Int) (len : Nat) (seat n : Int) : Bool := decide (0 ≤ seat) && decide (seat + n ≤ (len : Int)) && (List.range n.toNat).all fun i => decide (g (seat.toNat + i) = -1)

theorem OwM.cap {w : World} {B b off n c : Nat} {rows : List (List Int)} (h : OwM w B (.slice (some ⟨b, off, none⟩) n c) rows) {y : Nat} (hy : y < rows.length) {A1 : Option Addr} {n1 c1 : Nat}
    (hc : w.cell? ⟨b, off + y, none⟩ = some (.slice A1 n1 c1)) : n1 ≤ c1 := by
  obtain ⟨h0, rs, h1, h2, _⟩ := h
  have hl : rs.length = rows.length := by have := h1.1; simpa using this
  rcases owns_form h1 with ⟨e, _⟩ | ⟨g, cap, e, _⟩
  · cases e
  · injection e with e1 e2 e3
    injection e1 with e1
    injection e1 with e4 e5
    subst e4; subst e5; subst e2
    rw [Nat.zero_add, World.ownsRow.cellAt h1 y (by omega), vAt_some (by omega)] at hc
    injection hc with hc
    rcases (h2 y hy).form with ⟨e, _⟩ | ⟨g1, cap1, e, _, _, hle, _⟩
    · rw [hc] at e; injection e with _ e6 e7; omega
    · rw [hc] at e; injection e with _ e6 e7; omega

set_option maxHeartbeats 2000000 in
theorem areFree_any (b off len c : Nat) (g : Nat → Int) (seat n : Int) (w : World) (h1 : 1 ≤ len) (h2 : len ≤ 1048576) (hcap : len ≤ c) (hcell : ∀ j, j < len → w.cell? ⟨b, off + j, none⟩ = some (.int .i64 (g j))) (hn : 1 ≤ n) (hn2 : n ≤ 1048576) (hs : I64 seat) :
    Calls Try.prog 38 #[.slice (some ⟨b, off, none⟩) len c, .int .i64 seat, .int .i64 n] w fun e w' => e = .returned (.bool (areFreeB g len seat n)) ∧ w = w' := by
  unfold I64 at hs
  by_cases c1 : seat < 0
  · have hf := hide (show areFreeB g len seat n = false from by simp only [areFreeB]; rw [decide_eq_false (by omega)]; rfl)
    clear hcell
    go_enter Try.func38, Try.ntmps38
    go_wp2_with fail
    go_ret
    exact ⟨ret_bool hf.out.symm, rfl⟩
  · by_cases c2 : (len : Int) < n
    · have hf := hide (show areFreeB g len seat n = false from by simp only [areFreeB]; rw [decide_eq_false (p := seat + n ≤ (len : Int)) (by omega)]; simp)
      clear hcell
      go_enter Try.func38, Try.ntmps38
      go_wp2_with fail
      go_ret
      exact ⟨ret_bool hf.out.symm, rfl⟩
    · by_cases c3 : (len : Int) - n < seat
      · have hf := hide (show areFreeB g len seat n = false from by simp only [areFreeB]; rw [decide_eq_false (p := seat + n ≤ (len : Int)) (by omega)]; simp)
        clear hcell
        go_enter Try.func38, Try.ntmps38
        go_wp2_with fail
        go_ret
        exact ⟨ret_bool hf.out.symm, rfl⟩
      · obtain ⟨S, rfl⟩ := Int.eq_ofNat_of_zero_le (show 0 ≤ seat by omega)
        obtain ⟨N, rfl⟩ := Int.eq_ofNat_of_zero_le (show 0 ≤ n by omega)
        have hSN : S + N ≤ len := by omega
        have hcc : S + N ≤ c := by omega
        have hcs : ¬ c = S := by omega
        have hyes : Hid ((∀ i, i < N → g (S + i) = -1) → areFreeB g len (S : Int) (N : Int) = true) := fun h => by
          simp only [areFreeB, Int.toNat_natCast]
          rw [decide_eq_true (by omega), decide_eq_true (p := (S : Int) + (N : Int) ≤ (len : Int)) (by omega)]
          simp only [Bool.true_and, List.all_eq_true, List.mem_range, decide_eq_true_eq]
          exact h
        have hno : Hid (∀ i, i < N → g (S + i) ≠ -1 → areFreeB g len (S : Int) (N : Int) = false) := fun i hi h => by
          rw [Bool.eq_false_iff]
          intro ht
          simp only [areFreeB, Int.toNat_natCast, Bool.and_eq_true, List.all_eq_true, List.mem_range, decide_eq_true_eq] at ht
          exact h (ht.2 i hi)
        have Hcell : Hid (∀ i, i < N → w.cell? ⟨b, off + S + i, none⟩ = some (.int .i64 (g (S + i)))) := fun i hi => by
          rw [Nat.add_assoc]; exact hcell _ (by omega)
        clear hcell hs
        go_enter Try.func38, Try.ntmps38
        go_wp2_with fail
        go_loop [32] (fun i => ∃ k : Nat, k ≤ N ∧ i = .int .i64 k ∧ Hid (∀ j, j < k → g (S + j) = -1)) (fun i => N - (intOf i).toNat)
        case atStart => exact ⟨0, by omega, rfl, fun j hj => absurd hj (by omega)⟩
        case round =>
          obtain ⟨k, hk, rfl, hall⟩ := hrel
          by_cases hlt : k < N
          · have hck := Hcell.out k hlt
            by_cases hg : g (S + k) = -1
            · have d1 : (g (S + k) != -1) = false := by simp [hg]
              have d2 : (g (S + k) == -1) = true := by simp [hg]
              have R : Hid (∀ j, j < k + 1 → g (S + j) = -1) := fun j hj => by
                rcases Nat.lt_or_ge j k with h | h
                · exact hall.out j h
                · obtain rfl : j = k := by omega
                  exact hg
              clear hg
              go_wp2_with fail
              go_round
              case rel => exact ⟨k + 1, by omega, by go_num, R.out⟩
              case measure => simp [intOf]; omega
            · have d1 : (g (S + k) != -1) = true := by simp [hg]
              have d2 : (g (S + k) == -1) = false := by simp [hg]
              have hf := hide (hno.out k hlt hg)
              clear hg
              go_wp2_with fail
              go_ret
              exact ⟨ret_bool hf.out.symm, rfl⟩
          · obtain rfl : k = N := by omega
            have hf := hide (hyes.out hall.out)
            go_wp2_with fail
            go_ret
            exact ⟨ret_bool hf.out.symm, rfl⟩

end Go.Proofs.Ytkjclpbemdilbaa
