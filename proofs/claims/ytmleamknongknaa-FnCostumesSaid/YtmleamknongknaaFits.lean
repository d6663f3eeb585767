/- Contracts of MeasureOk, FitsFor, ClothOf. -/
import Derived.Test.YtmleamknongknaaHlp
import Derived.WalkKit
import Derived.ProofKit
import Derived.Handy
import Derived.OpenShut
import Derived.ShutString
import Derived.ChangeOld
import Derived.Below
import Derived.BigQuiet
import Derived.Deep.QuietTactic
import Derived.Deep.Draws
import Derived.Deep.DeepCutAuto
import Derived.Deep.DeepFit
import Derived.Deep.LoopGhost
import Derived.Outline
import Derived.WalkSpells
import Derived.WalkLawsBesides
import Derived.WalkSmall
import Derived.Laws.OwnMore
import Derived.OneCell
import Derived.Laws.Rows
import Derived.Maps.AppendAt
import Derived.StillTailTactics
import Derived.Lib.SmallJoins
import Derived.Deep.RegionWith
import Derived.Deep.RegionHeld3
import Derived.RegionTactic
import Derived.Deep.Matrix
import Derived.Deep.Fields
import Derived.ChangeSame
namespace Go.Proofs.Ytmleamknongknaa
open Go.RowKit

/-- measures as a value. -/
abbrev Ms (a b c : Int) : Value := .agg #[.int .i64 a, .int .i64 b, .int .i64 c]
/-- measures are ones. -/
def mOk (a b c : Int) : Bool := inR a 1 200 && inR b 1 200 && inR c 1 200
theorem mOk_iff {a b c : Int} : mOk a b c = true ↔ (1 ≤ a ∧ a ≤ 200) ∧ (1 ≤ b ∧ b ≤ 200) ∧ (1 ≤ c ∧ c ≤ 200) := by
  simp only [mOk, Bool.and_eq_true, inR_iff]; omega
/-- a costume fits. -/
def fits (a b c p q r : Int) : Bool := mOk a b c && mOk p q r && inR (a - p) 0 5 && inR (b - q) 0 5 && inR (c - r) 0 5
/-- the cloth. -/
def cloth (a b c : Int) : Int := if mOk a b c then a * max b c + 2 * b + 2 * c else -1

set_option maxHeartbeats 400000 in
theorem toMeasure_any (a b c : Int) (w : World) : Calls Try.prog 11 #[Ms a b c] w fun e w' => e = .returned (Ms a b c) ∧ Nx w w' := by
  go_enter Try.func11, Try.ntmps11
  go_wp2
  go_returns
  exact ⟨rfl, by go_grown⟩

set_option maxHeartbeats 1000000 in
theorem spec_MeasureOk (a b c : Int) (w : World) : Calls Try.prog 10 #[Ms a b c] w fun e w' => e = .returned (.bool (mOk a b c)) ∧ Nx w w' := by
  cases h1 : inR a 1 200 with
  | false =>
    have hf := hide (show mOk a b c = false from by simp [mOk, h1])
    go_enter Try.func10, Try.ntmps10
    go_wp2_with (go_at_call 36; refine (l01In_any _ _ _ _).mono ?_; rintro e w' ⟨rfl, rfl⟩)
    go_ret
    exact ⟨ret_bool hf.out.symm, by go_grown⟩
  | true =>
    cases h2 : inR b 1 200 with
    | false =>
      have hf := hide (show mOk a b c = false from by simp [mOk, h2])
      go_enter Try.func10, Try.ntmps10
      go_wp2_with (go_at_call 36; refine (l01In_any _ _ _ _).mono ?_; rintro e w' ⟨rfl, rfl⟩)
      go_ret
      exact ⟨ret_bool hf.out.symm, by go_grown⟩
    | true =>
      have hf := hide (show mOk a b c = inR c 1 200 from by simp [mOk, h1, h2])
      go_enter Try.func10, Try.ntmps10
      go_wp2_with (go_at_call 36; refine (l01In_any _ _ _ _).mono ?_; rintro e w' ⟨rfl, rfl⟩)
      go_ret
      exact ⟨ret_bool hf.out.symm, by go_grown⟩

set_option maxHeartbeats 1000000 in
theorem impl_MeasureOk (a b c : Int) (w : World) : Calls Try.prog 12 #[Ms a b c] w fun e w' => e = .returned (.bool (mOk a b c)) ∧ Nx w w' := by
  have hf := hide (show allW 1 200 [a, b, c] = mOk a b c from by simp [allW, mOk, Bool.and_assoc])
  have hr : ∀ W : World, RdI (W.alloc (.cells #[.int .i64 a, .int .i64 b, .int .i64 c] 3)) (.slice (some ⟨W.heap.size, 0, none⟩) 3 3) [a, b, c] := fun W =>
    OwI.reads (B := W.heap.size) (World.ownsRow_lit W #[.int .i64 a, .int .i64 b, .int .i64 c] 3 (Nat.le_refl _) (by unfold maxLen; omega) rfl)
  have Hr := hide (hr (w.alloc (.cells #[.int .i64 a, .int .i64 b, .int .i64 c] 25)))
  clear hr
  go_enter Try.func12, Try.ntmps12
  go_wp2_with (go_at_call 37; fail)
  have hr := unhide Hr
  simp only [World.size_alloc] at hr
  refine (allWithin_any _ _ _ _ _ hr (by simp)).mono ?_
  rintro e w' ⟨rfl, rfl⟩
  go_wp2_with fail
  go_ret
  exact ⟨ret_bool hf.out, by go_grown⟩


theorem mul_bd {a m : Int} (h0 : 1 ≤ a ∧ a ≤ 200) (h1 : 1 ≤ m ∧ m ≤ 200) : 0 ≤ a * m ∧ a * m ≤ 40000 := by
  constructor
  · exact Int.mul_nonneg (by omega) (by omega)
  · have := Int.mul_le_mul h0.2 h1.2 (by omega) (by omega)
    omega

set_option maxHeartbeats 2000000 in
theorem spec_FitsFor (a b c p q r : Int) (w : World) : Calls Try.prog 13 #[Ms a b c, Ms p q r] w fun e w' => e = .returned (.bool (fits a b c p q r)) ∧ Nx w w' := by
  have g0 : Nx w ((w.alloc (.cells #[.int .i64 a, .int .i64 b, .int .i64 c] 25)).alloc (.cells #[.int .i64 p, .int .i64 q, .int .i64 r] 25)) := by go_grown
  have G0 := hide g0
  clear g0
  cases h1 : mOk a b c with
  | false =>
    have hf := hide (show fits a b c p q r = false from by simp [fits, h1])
    go_enter Try.func13, Try.ntmps13
    go_wp2_with (go_at_call 10; fail)
    refine (spec_MeasureOk _ _ _ _).mono ?_
    rintro e w1 ⟨rfl, b1⟩
    go_wp2_with fail
    go_ret
    exact ⟨ret_bool hf.out.symm, G0.out.trans b1⟩
  | true =>
    cases h2 : mOk p q r with
    | false =>
      have hf := hide (show fits a b c p q r = false from by simp [fits, h2])
      go_enter Try.func13, Try.ntmps13
      go_wp2_with (go_at_call 10; fail)
      refine (spec_MeasureOk _ _ _ _).mono ?_
      rintro e w1 ⟨rfl, b1⟩
      have c1 := fun o => b1.cells w.heap.size o (by simp <;> omega)
      have c2 := fun o => b1.cells (w.heap.size + 1) o (by simp <;> omega)
      go_wp2_with (go_at_call 10; fail)
      refine (spec_MeasureOk _ _ _ _).mono ?_
      rintro e w2 ⟨rfl, b2⟩
      go_wp2_with fail
      go_ret
      exact ⟨ret_bool hf.out.symm, (G0.out.trans b1).trans b2⟩
    | true =>
      have m1 := mOk_iff.1 h1
      have m2 := mOk_iff.1 h2
      cases h3 : inR (a - p) 0 5 with
      | false =>
        have hf := hide (show fits a b c p q r = false from by simp [fits, h3])
        go_enter Try.func13, Try.ntmps13
        go_wp2_with (go_at_call 10; fail)
        refine (spec_MeasureOk _ _ _ _).mono ?_
        rintro e w1 ⟨rfl, b1⟩
        have c1 := fun o => b1.cells w.heap.size o (by simp <;> omega)
        have c2 := fun o => b1.cells (w.heap.size + 1) o (by simp <;> omega)
        go_wp2_with (go_at_call 10; fail)
        refine (spec_MeasureOk _ _ _ _).mono ?_
        rintro e w2 ⟨rfl, b2⟩
        have s1 : w.heap.size + 2 ≤ w1.heap.size := by have := b1.size; simpa using this
        have d1 := fun o => (b2.cells w.heap.size o (by omega)).trans (c1 o)
        have d2 := fun o => (b2.cells (w.heap.size + 1) o (by omega)).trans (c2 o)
        clear c1 c2
        go_wp2_with (go_at_call 36; refine (l01In_any _ _ _ _).mono ?_; rintro e w' ⟨rfl, rfl⟩)
        go_ret
        exact ⟨ret_bool hf.out.symm, (G0.out.trans b1).trans b2⟩
      | true =>
        cases h4 : inR (b - q) 0 5 with
        | false =>
          have hf := hide (show fits a b c p q r = false from by simp [fits, h4])
          go_enter Try.func13, Try.ntmps13
          go_wp2_with (go_at_call 10; fail)
          refine (spec_MeasureOk _ _ _ _).mono ?_
          rintro e w1 ⟨rfl, b1⟩
          have c1 := fun o => b1.cells w.heap.size o (by simp <;> omega)
          have c2 := fun o => b1.cells (w.heap.size + 1) o (by simp <;> omega)
          go_wp2_with (go_at_call 10; fail)
          refine (spec_MeasureOk _ _ _ _).mono ?_
          rintro e w2 ⟨rfl, b2⟩
          have s1 : w.heap.size + 2 ≤ w1.heap.size := by have := b1.size; simpa using this
          have d1 := fun o => (b2.cells w.heap.size o (by omega)).trans (c1 o)
          have d2 := fun o => (b2.cells (w.heap.size + 1) o (by omega)).trans (c2 o)
          clear c1 c2
          go_wp2_with (go_at_call 36; refine (l01In_any _ _ _ _).mono ?_; rintro e w' ⟨rfl, rfl⟩)
          go_ret
          exact ⟨ret_bool hf.out.symm, (G0.out.trans b1).trans b2⟩
        | true =>
          have hf := hide (show fits a b c p q r = inR (c - r) 0 5 from by simp [fits, h1, h2, h3, h4])
          go_enter Try.func13, Try.ntmps13
          go_wp2_with (go_at_call 10; fail)
          refine (spec_MeasureOk _ _ _ _).mono ?_
          rintro e w1 ⟨rfl, b1⟩
          have c1 := fun o => b1.cells w.heap.size o (by simp <;> omega)
          have c2 := fun o => b1.cells (w.heap.size + 1) o (by simp <;> omega)
          go_wp2_with (go_at_call 10; fail)
          refine (spec_MeasureOk _ _ _ _).mono ?_
          rintro e w2 ⟨rfl, b2⟩
          have s1 : w.heap.size + 2 ≤ w1.heap.size := by have := b1.size; simpa using this
          have d1 := fun o => (b2.cells w.heap.size o (by omega)).trans (c1 o)
          have d2 := fun o => (b2.cells (w.heap.size + 1) o (by omega)).trans (c2 o)
          clear c1 c2
          go_wp2_with (go_at_call 36; refine (l01In_any _ _ _ _).mono ?_; rintro e w' ⟨rfl, rfl⟩)
          go_ret
          exact ⟨ret_bool hf.out.symm, (G0.out.trans b1).trans b2⟩

set_option maxHeartbeats 1000000 in
theorem spec_ClothOf (a b c : Int) (w : World) : Calls Try.prog 15 #[Ms a b c] w fun e w' => e = .returned (.int .i64 (cloth a b c)) ∧ Nx w w' := by
  have G0 : Hid (Nx w (w.alloc (.cells #[.int .i64 a, .int .i64 b, .int .i64 c] 25))) := Nx.made w _
  cases h1 : mOk a b c with
  | false =>
    have hf := hide (show cloth a b c = -1 from by simp [cloth, h1])
    go_enter Try.func15, Try.ntmps15
    go_wp2_with (go_at_call 10; fail)
    refine (spec_MeasureOk _ _ _ _).mono ?_
    rintro e w1 ⟨rfl, b1⟩
    go_wp2_with fail
    go_ret
    exact ⟨ret_int hf.out.symm, G0.out.trans b1⟩
  | true =>
    have m1 := mOk_iff.1 h1
    by_cases hbc : b < c
    · have hf := hide (show cloth a b c = a * c + 2 * b + 2 * c from by simp only [cloth, h1, if_true]; rw [Int.max_eq_right (by omega)])
      have hm := mul_bd m1.1 m1.2.2
      go_enter Try.func15, Try.ntmps15
      go_wp2_with (go_at_call 10; fail)
      refine (spec_MeasureOk _ _ _ _).mono ?_
      rintro e w1 ⟨rfl, b1⟩
      have c1 := fun o => b1.cells w.heap.size o (by simp <;> omega)
      go_wp2_with fail
      go_ret
      exact ⟨ret_int hf.out.symm, G0.out.trans b1⟩
    · have hf := hide (show cloth a b c = a * b + 2 * b + 2 * c from by simp only [cloth, h1, if_true]; rw [Int.max_eq_left (by omega)])
      have hm := mul_bd m1.1 m1.2.1
      go_enter Try.func15, Try.ntmps15
      go_wp2_with (go_at_call 10; fail)
      refine (spec_MeasureOk _ _ _ _).mono ?_
      rintro e w1 ⟨rfl, b1⟩
      have c1 := fun o => b1.cells w.heap.size o (by simp <;> omega)
      go_wp2_with fail
      go_ret
      exact ⟨ret_int hf.out.symm, G0.out.trans b1⟩

set_option maxHeartbeats 2000000 in
theorem impl_FitsFor (a b c p q r : Int) (w : World) : Calls Try.prog 14 #[Ms a b c, Ms p q r] w fun e w' => e = .returned (.bool (fits a b c p q r)) ∧ Nx w w' := by
  have g0 : Nx w ((w.alloc (.cells #[.int .i64 a, .int .i64 b, .int .i64 c] 25)).alloc (.cells #[.int .i64 p, .int .i64 q, .int .i64 r] 25)) := by go_grown
  have G0 := hide g0
  clear g0
  cases h1 : mOk a b c with
  | false =>
    have hf := hide (show fits a b c p q r = false from by simp [fits, h1])
    go_enter Try.func14, Try.ntmps14
    go_wp2_with (go_at_call 12; fail)
    refine (impl_MeasureOk _ _ _ _).mono ?_
    rintro e w1 ⟨rfl, b1⟩
    go_wp2_with fail
    go_ret
    exact ⟨ret_bool hf.out.symm, G0.out.trans b1⟩
  | true =>
    cases h2 : mOk p q r with
    | false =>
      have hf := hide (show fits a b c p q r = false from by simp [fits, h2])
      go_enter Try.func14, Try.ntmps14
      go_wp2_with (go_at_call 12; fail)
      refine (impl_MeasureOk _ _ _ _).mono ?_
      rintro e w1 ⟨rfl, b1⟩
      have c1 := fun o => b1.cells w.heap.size o (by simp <;> omega)
      have c2 := fun o => b1.cells (w.heap.size + 1) o (by simp <;> omega)
      go_wp2_with (go_at_call 12; fail)
      refine (impl_MeasureOk _ _ _ _).mono ?_
      rintro e w2 ⟨rfl, b2⟩
      go_wp2_with fail
      go_ret
      exact ⟨ret_bool hf.out.symm, (G0.out.trans b1).trans b2⟩
    | true =>
      have m1 := mOk_iff.1 h1
      have m2 := mOk_iff.1 h2
      cases h3 : inR (a - p) 0 5 with
      | false =>
        have hf := hide (show fits a b c p q r = false from by simp [fits, h3])
        go_enter Try.func14, Try.ntmps14
        go_wp2_with (go_at_call 12; fail)
        refine (impl_MeasureOk _ _ _ _).mono ?_
        rintro e w1 ⟨rfl, b1⟩
        have c1 := fun o => b1.cells w.heap.size o (by simp <;> omega)
        have c2 := fun o => b1.cells (w.heap.size + 1) o (by simp <;> omega)
        go_wp2_with (go_at_call 12; fail)
        refine (impl_MeasureOk _ _ _ _).mono ?_
        rintro e w2 ⟨rfl, b2⟩
        have s1 : w.heap.size + 2 ≤ w1.heap.size := by have := b1.size; simpa using this
        have d1 := fun o => (b2.cells w.heap.size o (by omega)).trans (c1 o)
        have d2 := fun o => (b2.cells (w.heap.size + 1) o (by omega)).trans (c2 o)
        clear c1 c2
        go_wp2_with (go_at_call 38; refine (within_any _ _ _ _).mono ?_; rintro e w' ⟨rfl, rfl⟩)
        go_ret
        exact ⟨ret_bool hf.out.symm, (G0.out.trans b1).trans b2⟩
      | true =>
        cases h4 : inR (b - q) 0 5 with
        | false =>
          have hf := hide (show fits a b c p q r = false from by simp [fits, h4])
          go_enter Try.func14, Try.ntmps14
          go_wp2_with (go_at_call 12; fail)
          refine (impl_MeasureOk _ _ _ _).mono ?_
          rintro e w1 ⟨rfl, b1⟩
          have c1 := fun o => b1.cells w.heap.size o (by simp <;> omega)
          have c2 := fun o => b1.cells (w.heap.size + 1) o (by simp <;> omega)
          go_wp2_with (go_at_call 12; fail)
          refine (impl_MeasureOk _ _ _ _).mono ?_
          rintro e w2 ⟨rfl, b2⟩
          have s1 : w.heap.size + 2 ≤ w1.heap.size := by have := b1.size; simpa using this
          have d1 := fun o => (b2.cells w.heap.size o (by omega)).trans (c1 o)
          have d2 := fun o => (b2.cells (w.heap.size + 1) o (by omega)).trans (c2 o)
          clear c1 c2
          go_wp2_with (go_at_call 38; refine (within_any _ _ _ _).mono ?_; rintro e w' ⟨rfl, rfl⟩)
          go_ret
          exact ⟨ret_bool hf.out.symm, (G0.out.trans b1).trans b2⟩
        | true =>
          have hf := hide (show fits a b c p q r = inR (c - r) 0 5 from by simp [fits, h1, h2, h3, h4])
          go_enter Try.func14, Try.ntmps14
          go_wp2_with (go_at_call 12; fail)
          refine (impl_MeasureOk _ _ _ _).mono ?_
          rintro e w1 ⟨rfl, b1⟩
          have c1 := fun o => b1.cells w.heap.size o (by simp <;> omega)
          have c2 := fun o => b1.cells (w.heap.size + 1) o (by simp <;> omega)
          go_wp2_with (go_at_call 12; fail)
          refine (impl_MeasureOk _ _ _ _).mono ?_
          rintro e w2 ⟨rfl, b2⟩
          have s1 : w.heap.size + 2 ≤ w1.heap.size := by have := b1.size; simpa using this
          have d1 := fun o => (b2.cells w.heap.size o (by omega)).trans (c1 o)
          have d2 := fun o => (b2.cells (w.heap.size + 1) o (by omega)).trans (c2 o)
          clear c1 c2
          go_wp2_with (go_at_call 38; refine (within_any _ _ _ _).mono ?_; rintro e w' ⟨rfl, rfl⟩)
          go_ret
          exact ⟨ret_bool hf.out.symm, (G0.out.trans b1).trans b2⟩

set_option maxHeartbeats 1000000 in
theorem impl_ClothOf (a b c : Int) (w : World) : Calls Try.prog 16 #[Ms a b c] w fun e w' => e = .returned (.int .i64 (cloth a b c)) ∧ Nx w w' := by
  have G0 : Hid (Nx w (w.alloc (.cells #[.int .i64 a, .int .i64 b, .int .i64 c] 25))) := Nx.made w _
  cases h1 : mOk a b c with
  | false =>
    have hf := hide (show cloth a b c = -1 from by simp [cloth, h1])
    go_enter Try.func16, Try.ntmps16
    go_wp2_with (go_at_call 12; fail)
    refine (impl_MeasureOk _ _ _ _).mono ?_
    rintro e w1 ⟨rfl, b1⟩
    go_wp2_with fail
    go_ret
    exact ⟨ret_int hf.out.symm, G0.out.trans b1⟩
  | true =>
    have m1 := mOk_iff.1 h1
    by_cases hbc : b < c
    · have hf := hide (show cloth a b c = a * c + 2 * b + 2 * c from by simp only [cloth, h1, if_true]; rw [Int.max_eq_right (by omega)])
      have hm := mul_bd m1.1 m1.2.2
      go_enter Try.func16, Try.ntmps16
      go_wp2_with (go_at_call 12; fail)
      refine (impl_MeasureOk _ _ _ _).mono ?_
      rintro e w1 ⟨rfl, b1⟩
      have c1 := fun o => b1.cells w.heap.size o (by simp <;> omega)
      go_wp2_with fail
      go_ret
      exact ⟨ret_int hf.out.symm, G0.out.trans b1⟩
    · have hf := hide (show cloth a b c = a * b + 2 * b + 2 * c from by simp only [cloth, h1, if_true]; rw [Int.max_eq_left (by omega)])
      have hm := mul_bd m1.1 m1.2.1
      go_enter Try.func16, Try.ntmps16
      go_wp2_with (go_at_call 12; fail)
      refine (impl_MeasureOk _ _ _ _).mono ?_
      rintro e w1 ⟨rfl, b1⟩
      have c1 := fun o => b1.cells w.heap.size o (by simp <;> omega)
      go_wp2_with fail
      go_ret
      exact ⟨ret_int hf.out.symm, G0.out.trans b1⟩

end Go.Proofs.Ytmleamknongknaa
