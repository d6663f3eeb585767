/- Understudies, plain. -/
import Derived.Test.YtfilpeamhcdgfaaPlL
import Derived.Test.YtfilpeamhcdgfaaPlN
import Derived.WalkKit
import Derived.ProofKit
import Derived.Handy
import Derived.OpenShut
import Derived.ShutString
import Derived.ChangeOld
import Derived.Below
import Derived.BigQuiet
import Derived.Deep.QuietTactic
import Derived.Deep.Draws
import Derived.Deep.DeepCutAuto
import Derived.Deep.DeepFit
import Derived.Deep.LoopGhost
import Derived.Outline
import Derived.WalkSpells
import Derived.WalkLawsBesides
import Derived.WalkSmall
import Derived.Laws.OwnMore
import Derived.OneCell
import Derived.Laws.Rows
import Derived.Maps.AppendAt
import Derived.StillTailTactics
import Derived.Lib.SmallJoins
import Derived.Deep.RegionWith
import Derived.Deep.RegionHeld3
import Derived.RegionTactic
import Derived.Deep.Matrix
import Derived.Deep.Fields
import Derived.ChangeSame
namespace Go.Proofs.Ytfilpeamhcdgfaa
open Go.RowKit

theorem illP_eq {ps : List Plr} {k : Nat} (hok : playersOk ps = true) (hk : k < ps.length) : illP ps (k : Int) = ill ps k := by
  have h : inR (k : Int) 0 ((ps.length : Int) - 1) = true := inR_iff.2 (by omega)
  simp [illP, hok, h]
theorem illB_yes {ps : List Plr} {k : Nat} (hok : playersOk ps = true) (hk : k < ps.length) : illB ps (k : Int) = true := by
  have h : inR (k : Int) 0 ((ps.length : Int) - 1) = true := inR_iff.2 (by omega)
  simp [illB, hok, h]
theorem fr_ill {ps : List Plr} {k : Nat} (hok : playersOk ps = true) (hk : k < ps.length) : fr (illP ps (k : Int)) k = 0 := by
  rw [illP_eq hok hk]
  simp [fr, ill, hk]
theorem needTo_mem {ps : List Plr} {pu : List Int} (n : Nat) (k : Nat) : (k : Int) ∈ needTo ps pu n ↔ k < n ∧ canP (illP ps (k : Int)) pu = false := by
  induction n with
  | zero => simp [needTo]
  | succ n ih =>
    simp only [needTo]
    split
    · rename_i h
      rw [ih]
      constructor
      · rintro ⟨a, b⟩; exact ⟨by omega, b⟩
      · rintro ⟨a, b⟩
        refine ⟨?_, b⟩
        rcases Nat.lt_or_ge k n with h1 | h1
        · exact h1
        · obtain rfl : k = n := by omega
          rw [h] at b; cases b
    · rename_i h
      rw [List.mem_append, ih, List.mem_singleton]
      constructor
      · rintro (⟨a, b⟩ | a)
        · exact ⟨by omega, b⟩
        · obtain rfl : k = n := by omega
          exact ⟨by omega, by simpa using h⟩
      · rintro ⟨a, b⟩
        rcases Nat.lt_or_ge k n with h1 | h1
        · exact .inl ⟨h1, b⟩
        · exact .inr (by omega)
theorem needTo_all {ps : List Plr} {pu : List Int} (n : Nat) (h : ∀ k, k < n → canP (illP ps (k : Int)) pu = true) : needTo ps pu n = [] := by
  induction n with
  | zero => rfl
  | succ n ih => simp only [needTo, h n (by omega), if_true]; exact ih fun k hk => h k (by omega)
/-- has, told by membership. -/
theorem needed_has {ps : List Plr} {pu : List Int} {k : Nat} (hk : k < ps.length) (h : canP ps pu = true) : decide ((k : Int) ∈ needed ps pu) = !canP (illP ps (k : Int)) pu := by
  simp only [needed, h, if_true]
  rw [show decide ((k : Int) ∈ needTo ps pu ps.length) = decide (canP (illP ps (k : Int)) pu = false) from decide_eq_decide.2 ⟨fun e => ((needTo_mem _ _).1 e).2, fun e => (needTo_mem _ _).2 ⟨hk, e⟩⟩]
  cases canP (illP ps (k : Int)) pu <;> rfl
theorem needed_length (ps : List Plr) (pu : List Int) : (needed ps pu).length ≤ ps.length := by
  unfold needed; split
  · exact needTo_length _ _ _
  · simp
/-- the three ways: there is no casting, the cast is safe, or somebody is needed. -/
theorem three_ways (ps : List Plr) (pu : List Int) : (canP ps pu = false ∧ safeP ps pu = false ∧ (needed ps pu).length = 0) ∨ (canP ps pu = true ∧ safeP ps pu = true ∧ (needed ps pu).length = 0 ∧ ∀ k, k < ps.length → canP (illP ps (k : Int)) pu = true) ∨ (canP ps pu = true ∧ safeP ps pu = false ∧ 0 < (needed ps pu).length) := by
  cases hc : canP ps pu
  · exact .inl ⟨rfl, safeP_no0 hc, by simp [needed, hc]⟩
  · cases hs : safeP ps pu
    · refine .inr (.inr ⟨rfl, rfl, ?_⟩)
      rcases Nat.eq_zero_or_pos (needed ps pu).length with h | h
      · exfalso
        have : safeP ps pu = true := safeP_yes hc fun k hk => by
          have := needed_has hk hc
          rw [List.length_eq_zero_iff.1 h] at this
          simpa using this
        rw [hs] at this; cases this
      · exact h
    · have hall : ∀ k, k < ps.length → canP (illP ps (k : Int)) pu = true := by
        simp only [safeP, hc, Bool.true_and, List.all_eq_true, List.mem_range] at hs
        exact hs
      refine .inr (.inl ⟨rfl, rfl, ?_, hall⟩)
      simp [needed, hc, needTo_all _ hall]
theorem lessonIn_spec {ps : List Plr} {pu : List Int} {k n j : Nat} (h : lessonIn ps pu k n = some j) : j < n ∧ lessonB ps pu k j = true := by
  induction n with
  | zero => simp [lessonIn] at h
  | succ n ih =>
    simp only [lessonIn] at h
    split at h
    · rename_i q hq
      injection h with h; subst h
      have := ih hq
      exact ⟨by omega, this.2⟩
    · split at h
      · rename_i hb
        injection h with h; subst h
        exact ⟨by omega, hb⟩
      · cases h
theorem lessonTo_spec {ps : List Plr} {pu : List Int} {n k j : Nat} (h : lessonTo ps pu n = some (k, j)) : k < n ∧ j < pu.length ∧ lessonB ps pu k j = true := by
  induction n with
  | zero => simp [lessonTo] at h
  | succ n ih =>
    simp only [lessonTo] at h
    split at h
    · rename_i q hq
      injection h with h; subst h
      have := ih hq
      exact ⟨by omega, this.2⟩
    · cases hq : lessonIn ps pu n pu.length with
      | none => rw [hq] at h; simp at h
      | some i =>
        rw [hq] at h
        simp at h
        obtain ⟨rfl, rfl⟩ := h
        have := lessonIn_spec hq
        exact ⟨by omega, this⟩
theorem lesson_spec {ps : List Plr} {pu : List Int} {k j : Nat} (h : lesson ps pu = some (k, j)) : safeP ps pu = false ∧ k < ps.length ∧ j < pu.length ∧ teachB ps (k : Int) (gt pu j) = true ∧ safeP (teachP ps (k : Int) (gt pu j)) pu = true := by
  unfold lesson at h
  split at h
  · rename_i hc
    have h1 := lessonTo_spec h
    simp only [lessonB, Bool.and_eq_true] at h1
    simp only [Bool.and_eq_true, Bool.not_eq_true'] at hc
    exact ⟨hc.2, h1⟩
  · cases h
theorem teach_six {ps : List Plr} (hok : playersOk ps = true) (h5 : ∀ x ∈ kn ps 0, x ≤ 5) : teachB ps 0 6 = true := by
  have h1 := (playersOk_iff.1 hok).2
  have h2 : inR 0 0 ((ps.length : Int) - 1) = true := inR_iff.2 (by omega)
  have h3 : decide ((6 : Int) ∈ kn ps 0) = false := decide_eq_false fun h => by have := h5 6 h; omega
  have h4 : inR 6 0 6 = true := by decide
  unfold teachB
  rw [hok, h2, h4, Int.toNat_zero, h3]
  rfl
theorem putL_mem (xs : List Int) (x : Int) : x ∈ putL xs x := by
  induction xs with
  | nil => simp [putL]
  | cons y ys ih => unfold putL; split <;> simp [ih]
theorem teach_twice {ps : List Plr} (h : teachB ps 0 6 = true) : teachB (teachP ps 0 6) 0 6 = false := by
  have h0 : 0 < ps.length := by
    simp only [teachB, Bool.and_eq_true] at h
    have := inR_iff.1 h.1.1.2
    omega
  have : (6 : Int) ∈ kn (teachP ps 0 6) 0 := by
    simp only [teachP, h, if_true]
    have : kn (ps.set (0 : Int).toNat (putL (kn ps (0 : Int).toNat) 6, fr ps (0 : Int).toNat)) 0 = putL (kn ps 0) 6 := by simp [kn, h0]
    rw [this]
    exact putL_mem _ _
  simp [teachB, this]
theorem teachP_length (ps : List Plr) (k x : Int) : (teachP ps k x).length = ps.length := by
  unfold teachP; split <;> simp
theorem ok_ill {ps : List Plr} {k : Nat} (hok : playersOk ps = true) (hk : k < ps.length) : playersOk (illP ps (k : Int)) = true := by
  rw [illP_eq hok hk]
  obtain ⟨h1, h2⟩ := playersOk_iff.1 hok
  refine playersOk_iff.2 ⟨fun j hj => ?_, by simpa [ill] using h2⟩
  rw [show (ill ps k).length = ps.length by simp [ill]] at hj
  by_cases e : k = j
  · subst e
    have e1 : kn (_root_.List.set ps k (kn ps k, 0)) k = kn ps k := by rw [kn_set_same hk]
    have e2 : fr (_root_.List.set ps k (kn ps k, 0)) k = 0 := by rw [fr_set_same hk]
    unfold ill
    rw [e1, e2]
    exact ⟨(h1 k hk).1, by omega⟩
  · have := h1 j hj
    unfold ill
    rw [kn_set_other (Ne.symm e), fr_set_other (Ne.symm e)]
    exact this
theorem safe_nil {ps : List Plr} (hok : playersOk ps = true) : safeP ps [] = true := by
  have key : ∀ qs : List Plr, playersOk qs = true → canP qs [] = true := fun qs h => by simp [canP, h, canF, show strictL 0 6 [] = true from rfl]
  exact safeP_yes (key _ hok) fun k hk => key _ (ok_ill hok hk)
set_option maxHeartbeats 1000000 in
theorem has_dec (v : Value) (zs : List Int) (x : Int) (w : World) (h : RdI w v zs) (hl : zs.length ≤ 1048576) : Calls Try.prog 21 #[v, .int .i64 x] w fun e w' => e = .returned (.bool (decide (x ∈ zs))) ∧ w = w' := by
  obtain ⟨A, c, rfl, hx⟩ := h
  go_enter Try.func21, Try.ntmps21
  go_wp2_with fail
  go_loopw [5] (fun i wr => ∃ k : Nat, k ≤ zs.length ∧ i = .int .i64 k ∧ wr = w ∧ Hid (∀ j, j < k → gt zs j ≠ x)) (fun i _ => zs.length - (intOf i).toNat)
  case atStart => exact ⟨0, Nat.zero_le _, rfl, (by first | trivial | rfl), fun j hj => absurd hj (by omega)⟩
  case round =>
    obtain ⟨k, hk, rfl, rfl, hall⟩ := hrel
    by_cases hlt : k < zs.length
    · obtain ⟨b0, off, rfl, hb0, hc⟩ := hx (by omega)
      have hck := hc k hlt
      have hk1 : (k : Int) < (zs.length : Int) := by omega
      clear hc hx
      by_cases he : gt zs k = x
      · have e1 : (gt zs k == x) = true := by simpa using he
        have HM := hide (show decide (x ∈ zs) = true from decide_eq_true (he ▸ gt_mem hlt))
        clear he
        go_wp2_with fail
        go_ret
        rw [HM.out]
        exact ⟨rfl, rfl⟩
      · have e1 : (gt zs k == x) = false := by simpa using he
        have HE := hide he
        clear he
        go_wp2_with fail
        go_roundw
        case rel => exact ⟨k + 1, by omega, by go_num, (by first | trivial | rfl), fun j hj => by
          rcases Nat.lt_or_ge j k with h | h
          · exact hall.out j h
          · obtain rfl : j = k := by omega
            exact HE.out⟩
        case measure => simp [intOf]; omega
    · obtain rfl : k = zs.length := by omega
      have HM := hide (show decide (x ∈ zs) = false from decide_eq_false fun hm => by
        obtain ⟨j, hj, rfl⟩ := List.getElem_of_mem hm
        exact absurd (gt_getElem hj) (hall.out j hj))
      go_wp2_with fail
      go_ret
      rw [HM.out]
      exact ⟨rfl, rfl⟩

end Go.Proofs.Ytfilpeamhcdgfaa
