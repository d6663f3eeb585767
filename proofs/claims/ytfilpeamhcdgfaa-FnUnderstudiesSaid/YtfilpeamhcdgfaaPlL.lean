/- Players: the best lesson, plain. -/
import Derived.Test.YtfilpeamhcdgfaaPlS
import Derived.WalkKit
import Derived.ProofKit
import Derived.Handy
import Derived.OpenShut
import Derived.ShutString
import Derived.ChangeOld
import Derived.Below
import Derived.BigQuiet
import Derived.Deep.QuietTactic
import Derived.Deep.Draws
import Derived.Deep.DeepCutAuto
import Derived.Deep.DeepFit
import Derived.Deep.LoopGhost
import Derived.Outline
import Derived.WalkSpells
import Derived.WalkLawsBesides
import Derived.WalkSmall
import Derived.Laws.OwnMore
import Derived.OneCell
import Derived.Laws.Rows
import Derived.Maps.AppendAt
import Derived.StillTailTactics
import Derived.Lib.SmallJoins
import Derived.Deep.RegionWith
import Derived.Deep.RegionHeld3
import Derived.RegionTactic
import Derived.Deep.Matrix
import Derived.Deep.Fields
import Derived.ChangeSame
namespace Go.Proofs.Ytfilpeamhcdgfaa
open Go.RowKit

/-- what BestLesson answers. -/
def lesV (ps : List Plr) (pu : List Int) : Value := match lesson ps pu with
  | some q => .tuple #[.int .i64 (q.1 : Int), .int .i64 (gt pu q.2), .bool true]
  | none => .tuple #[.int .i64 0, .int .i64 0, .bool false]
theorem lesV_none {ps : List Plr} {pu : List Int} (h : lesson ps pu = none) : lesV ps pu = .tuple #[.int .i64 0, .int .i64 0, .bool false] := by unfold lesV; rw [h]
theorem lesV_some {ps : List Plr} {pu : List Int} {k j : Nat} (h : lesson ps pu = some (k, j)) : lesV ps pu = .tuple #[.int .i64 (k : Int), .int .i64 (gt pu j), .bool true] := by unfold lesV; rw [h]
theorem lessonIn_no {ps : List Plr} {pu : List Int} {k j : Nat} (h : lessonIn ps pu k j = none) (hb : lessonB ps pu k j = false) : lessonIn ps pu k (j + 1) = none := by simp [lessonIn, h, hb]
theorem lessonTo_no {ps : List Plr} {pu : List Int} {k : Nat} (h : lessonTo ps pu k = none) (hb : lessonIn ps pu k pu.length = none) : lessonTo ps pu (k + 1) = none := by simp [lessonTo, h, hb]
theorem lessonIn_keep {ps : List Plr} {pu : List Int} {k i j : Nat} (h : lessonIn ps pu k i = some j) {n : Nat} (hn : i ≤ n) : lessonIn ps pu k n = some j := by
  induction n with
  | zero => obtain rfl : i = 0 := by omega
            exact h
  | succ n ih =>
    rcases Nat.lt_or_ge i (n + 1) with h1 | h1
    · simp only [lessonIn]
      rw [ih (by omega)]
    · obtain rfl : i = n + 1 := by omega
      exact h
theorem lessonTo_keep {ps : List Plr} {pu : List Int} {k : Nat} {q : Nat × Nat} (h : lessonTo ps pu k = some q) {n : Nat} (hn : k ≤ n) : lessonTo ps pu n = some q := by
  induction n with
  | zero => obtain rfl : k = 0 := by omega
            exact h
  | succ n ih =>
    rcases Nat.lt_or_ge k (n + 1) with h1 | h1
    · simp only [lessonTo]
      rw [ih (by omega)]
    · obtain rfl : k = n + 1 := by omega
      exact h
theorem lessonTo_found {ps : List Plr} {pu : List Int} {k j : Nat} (h1 : lessonTo ps pu k = none) (h2 : lessonIn ps pu k j = none) (hb : lessonB ps pu k j = true) (hj : j < pu.length) (hk : k < ps.length) : lessonTo ps pu ps.length = some (k, j) := by
  have h3 : lessonIn ps pu k (j + 1) = some j := by simp [lessonIn, h2, hb]
  have h4 := lessonIn_keep h3 (n := pu.length) (by omega)
  have h5 : lessonTo ps pu (k + 1) = some (k, j) := by simp [lessonTo, h1, h4]
  exact lessonTo_keep h5 (by omega)
theorem strict_mem {a b : Int} {zs : List Int} (h : strictL a b zs = true) {k : Nat} (hk : k < zs.length) : a ≤ gt zs k ∧ gt zs k ≤ b := by
  simp only [strictL, Bool.and_eq_true] at h
  exact allW_iff.1 h.2 k hk
theorem strict_len {zs : List Int} (h : strictL 0 6 zs = true) : zs.length ≤ 7 := by
  have h1 : ∀ k, k < zs.length → (k : Int) ≤ gt zs k := by
    intro k
    induction k with
    | zero => intro hk; exact (strict_mem h hk).1
    | succ k ih =>
      intro hk
      have := ih (by omega)
      have h2 := h
      simp only [strictL, Bool.and_eq_true, List.all_eq_true, List.mem_range, Bool.or_eq_true, decide_eq_true_eq] at h2
      have h3 := h2.1 (k + 1) hk
      rw [Nat.add_sub_cancel] at h3
      omega
  rcases Nat.lt_or_ge zs.length 8 with h2 | h2
  · omega
  · have := h1 7 (by omega)
    have := (strict_mem h (show 7 < zs.length by omega)).2
    omega
theorem sumP_le {ps : List Plr} {m n : Nat} (h : ∀ k, k < n → (kn ps k).length ≤ m) : sumP ps n ≤ n * (m + 1) := by
  induction n with
  | zero => simp [sumP]
  | succ n ih =>
    have h1 := ih fun k hk => h k (by omega)
    have h2 := h n (by omega)
    simp only [sumP, Nat.succ_mul]
    omega
theorem ok_fit {ps : List Plr} (h : playersOk ps = true) : FitP ps := by
  have h1 := playersOk_iff.1 h
  have h2 := sumP_le (ps := ps) (m := 7) (n := ps.length) (fun k hk => strict_len (h1.1 k hk).1)
  have h3 := Nat.mul_le_mul_right (7 + 1) h1.2.2
  exact ⟨by omega, by omega⟩
theorem teach_fit {ps : List Plr} {k x : Int} (h : teachB ps k x = true) : FitP (teachP ps k x) := by
  have h0 := h
  simp only [teachB, Bool.and_eq_true] at h0
  have h1 := playersOk_iff.1 h0.1.1.1
  have hlen : (teachP ps k x).length = ps.length := by unfold teachP; split <;> simp
  have h2 := sumP_le (ps := teachP ps k x) (m := 8) (n := ps.length) (fun j hj => by
    unfold teachP
    rw [if_pos h]
    by_cases e : j = k.toNat
    · subst e
      rw [kn_set_same hj, putL_length]
      have := strict_len (h1.1 _ hj).1
      omega
    · rw [kn_set_other e]
      have := strict_len (h1.1 _ hj).1
      omega)
  have h3 := Nat.mul_le_mul_right (8 + 1) h1.2.2
  refine ⟨by omega, ?_⟩
  rw [hlen]
  omega
theorem lesV_form (ps : List Plr) (pu : List Int) : ∃ a b c, lesV ps pu = .tuple #[.int .i64 a, .int .i64 b, .bool c] := by
  unfold lesV
  split <;> exact ⟨_, _, _, rfl⟩

end Go.Proofs.Ytfilpeamhcdgfaa
