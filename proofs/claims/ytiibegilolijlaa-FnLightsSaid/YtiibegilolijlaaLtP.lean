/- Lights, plain. -/
import Derived.Test.YtiibegilolijlaaFuse
import Derived.Test.YtiibegilolijlaaMost
import Derived.WalkKit
import Derived.ProofKit
import Derived.Handy
import Derived.OpenShut
import Derived.ShutString
import Derived.ChangeOld
import Derived.Below
import Derived.BigQuiet
import Derived.Deep.QuietTactic
import Derived.Deep.Draws
import Derived.Deep.DeepCutAuto
import Derived.Deep.DeepFit
import Derived.Deep.LoopGhost
import Derived.Outline
import Derived.WalkSpells
import Derived.WalkLawsBesides
import Derived.WalkSmall
import Derived.Laws.OwnMore
import Derived.OneCell
import Derived.Laws.Rows
import Derived.Maps.AppendAt
import Derived.StillTailTactics
import Derived.Lib.SmallJoins
import Derived.Deep.RegionWith
import Derived.Deep.RegionHeld3
import Derived.RegionTactic
import Derived.Deep.Matrix
import Derived.Deep.Fields
import Derived.ChangeSame
namespace Go.Proofs.Ytiibegilolijlaa
open Go.RowKit

theorem fadesOk_clash {rows : List (List Int)} (h : fadesOk rows = true) {i k : Nat} (hik : i < k) (hk : k < rows.length) (he : fd rows i 0 = fd rows k 0) : fd rows i 2 ≤ fd rows k 1 := by
  simp only [fadesOk, Bool.and_eq_true, decide_eq_true_eq] at h
  have := List.all_eq_true.1 h.2 k (List.mem_range.2 hk)
  simp only [fadeAt, Bool.and_eq_true] at this
  have := List.all_eq_true.1 this.2 i (List.mem_range.2 hik)
  simp [clash, he] at this
  exact this
theorem fadesOk_of {rows : List (List Int)} (hl : rows.length ≤ 20) (h1 : ∀ k, k < rows.length → fdOk rows k = true) (h2 : ∀ i k, i < k → k < rows.length → fd rows i 0 = fd rows k 0 → fd rows i 2 ≤ fd rows k 1) : fadesOk rows = true := by
  rw [fadesOk_all fun k hk => fadeAt_of (h1 k hk) fun i hi => clash_no fun hc => by have := h2 i k hi hk hc.1; omega]
  simpa using hl
/-- a lamp before fade k does not change from the fade's beginning on. -/
theorem lvTo_before {rows : List (List Int)} {lamp s t : Int} {k : Nat} (hb : ∀ i, i < k → fd rows i 0 = lamp → fd rows i 1 ≤ fd rows i 2 ∧ fd rows i 2 ≤ s) (hst : s ≤ t) : lvTo rows lamp t k = lvTo rows lamp s k := by
  induction k with
  | zero => rfl
  | succ k ih =>
    have ih := ih fun i hi => hb i (by omega)
    by_cases hc : fd rows k 0 = lamp
    · have := hb k (by omega) hc
      rw [lvTo_late hc (by omega) (by omega), lvTo_late hc (by omega) (by omega)]
    · rw [lvTo_other hc, lvTo_other hc, ih]
theorem lvTo_behind {rows : List (List Int)} {lamp t : Int} {k n : Nat} (hkn : k ≤ n) (h : ∀ j, k ≤ j → j < n → fd rows j 0 = lamp → t < fd rows j 1) : lvTo rows lamp t n = lvTo rows lamp t k := by
  induction n with
  | zero => obtain rfl : k = 0 := by omega
            rfl
  | succ n ih =>
    by_cases e : k = n + 1
    · subst e; rfl
    · have ih := ih (by omega) fun j h1 h2 => h j h1 (by omega)
      by_cases hc : fd rows n 0 = lamp
      · rw [lvTo_early (h n (by omega) (by omega) hc), ih]
      · rw [lvTo_other hc, ih]
/-- some later fade of the lamp begins before fade k ends. -/
def laterTo (rows : List (List Int)) (k : Nat) : Nat → Bool
  | 0 => false
  | j + 1 => laterTo rows k j || (decide (k < j) && (decide (fd rows j 0 = fd rows k 0) && decide (fd rows j 1 ≤ fd rows k 2)))
theorem laterTo_false {rows : List (List Int)} {k n : Nat} (h : laterTo rows k n = false) : ∀ j, k < j → j < n → fd rows j 0 = fd rows k 0 → fd rows k 2 < fd rows j 1 := by
  induction n with
  | zero => intro j _ hj; omega
  | succ n ih =>
    simp only [laterTo, Bool.or_eq_false_iff] at h
    intro j h1 h2 h3
    rcases Nat.lt_or_ge j n with hj | hj
    · exact ih h.1 j h1 hj h3
    · obtain rfl : j = n := by omega
      have := h.2
      simp [h1, h3] at this
      exact this
theorem laterTo_skip {rows : List (List Int)} {k n : Nat} (h : n ≤ k + 1) : laterTo rows k n = false := by
  induction n with
  | zero => rfl
  | succ n ih => simp only [laterTo]; rw [ih (by omega)]; simp; omega
/-- between its beginning and its end. -/
theorem fade_between {rows : List (List Int)} (h : fadesOk rows = true) {k : Nat} (hk : k < rows.length) (hl : laterTo rows k rows.length = false) {t : Int} (h1 : fd rows k 1 ≤ t) (h2 : t ≤ fd rows k 2) :
    levelAt rows (fd rows k 0) (fd rows k 2) = fd rows k 3 ∧ min (levelAt rows (fd rows k 0) (fd rows k 1)) (fd rows k 3) ≤ levelAt rows (fd rows k 0) t ∧ levelAt rows (fd rows k 0) t ≤ max (levelAt rows (fd rows k 0) (fd rows k 1)) (fd rows k 3) := by
  obtain ⟨hlen, hf⟩ := fadesOk_true h
  have hfk := hf k hk
  have key : ∀ s, fd rows k 1 ≤ s → s ≤ fd rows k 2 → levelAt rows (fd rows k 0) s = lvStep (lvTo rows (fd rows k 0) (fd rows k 1) k) s (fd rows k 1) (fd rows k 2) (fd rows k 3) := by
    intro s hs1 hs2
    unfold levelAt
    rw [if_pos (by rw [h, Bool.true_and]; exact inR_iff.2 (by omega))]
    rw [lvTo_behind (k := k + 1) (by omega) fun j hj1 hj2 he => by have := laterTo_false hl j (by omega) hj2 he; omega]
    simp only [lvTo]
    rw [if_pos trivial, lvTo_before (s := fd rows k 1) (fun i hi he => ⟨(hf i (by omega)).2.2.1.2, fadesOk_clash h hi hk he⟩) hs1]
  rw [key _ (by omega) (Int.le_refl _), key _ (Int.le_refl _) (by omega), key t h1 h2]
  generalize lvTo rows (fd rows k 0) (fd rows k 1) k = L
  have hb : lvStep L (fd rows k 2) (fd rows k 1) (fd rows k 2) (fd rows k 3) = fd rows k 3 := by unfold lvStep; rw [if_neg (by omega), if_pos (Int.le_refl _)]
  rw [hb]
  refine ⟨rfl, ?_⟩
  by_cases e : fd rows k 2 ≤ fd rows k 1
  · have ha : lvStep L (fd rows k 1) (fd rows k 1) (fd rows k 2) (fd rows k 3) = fd rows k 3 := by unfold lvStep; rw [if_neg (by omega), if_pos e]
    have ht : lvStep L t (fd rows k 1) (fd rows k 2) (fd rows k 3) = fd rows k 3 := by unfold lvStep; rw [if_neg (by omega), if_pos (by omega)]
    rw [ha, ht]; omega
  · have ha : lvStep L (fd rows k 1) (fd rows k 1) (fd rows k 2) (fd rows k 3) = L := by unfold lvStep; rw [if_neg (by omega), if_neg e, Int.sub_self, Int.mul_zero, Int.zero_tdiv]; omega
    rw [ha]
    by_cases e2 : fd rows k 2 ≤ t
    · have ht : lvStep L t (fd rows k 1) (fd rows k 2) (fd rows k 3) = fd rows k 3 := by unfold lvStep; rw [if_neg (by omega), if_pos e2]
      rw [ht]; omega
    · have ht : lvStep L t (fd rows k 1) (fd rows k 2) (fd rows k 3) = L + ((fd rows k 3 - L) * (t - fd rows k 1)).tdiv (fd rows k 2 - fd rows k 1) := by unfold lvStep; rw [if_neg (by omega), if_neg e2]
      rw [ht]
      have := tdiv_bd (a := fd rows k 3 - L) (b := t - fd rows k 1) (c := fd rows k 2 - fd rows k 1) (by omega) (by omega) (by omega)
      omega
theorem mostTo_ge {rows : List (List Int)} {ws : List Int} {n j : Nat} (h : j < n) : power rows ws (j : Int) ≤ mostTo rows ws n := by
  induction n with
  | zero => omega
  | succ n ih =>
    simp only [mostTo]
    rcases Nat.lt_or_ge j n with h1 | h1
    · have := ih h1; omega
    · obtain rfl : j = n := by omega
      omega
theorem mostTo_le {rows : List (List Int)} {ws : List Int} {c : Int} (h0 : 0 ≤ c) {n : Nat} (h : ∀ j : Nat, j < n → power rows ws (j : Int) ≤ c) : mostTo rows ws n ≤ c := by
  induction n with
  | zero => exact h0
  | succ n ih =>
    have := ih fun j hj => h j (by omega)
    have := h n (by omega)
    simp only [mostTo]; omega
theorem blows_spec {rows : List (List Int)} {ws : List Int} (h : wattsOk rows ws = true) (fuse : Int) :
    (blowsAt rows ws fuse = -1 ∧ ∀ t : Nat, t < 1001 → power rows ws (t : Int) ≤ fuse) ∨ ∃ k : Nat, k < 1001 ∧ blowsAt rows ws fuse = (k : Int) ∧ fuse < power rows ws (k : Int) ∧ ∀ j : Nat, j < k → power rows ws (j : Int) ≤ fuse := by
  unfold blowsAt
  rw [if_pos h]
  cases hf : (List.range 1001).find? fun (t : Nat) => decide (fuse < power rows ws (t : Int)) with
  | none =>
    refine .inl ⟨rfl, fun t ht => ?_⟩
    have := List.find?_eq_none.1 hf t (List.mem_range.2 ht)
    simpa using this
  | some k =>
    have := List.find?_range_eq_some.1 hf
    refine .inr ⟨k, by simpa using this.2.1, rfl, by simpa using this.1, fun j hj => by simpa using this.2.2 j hj⟩
/-- what the law asks of lights. -/
theorem lights_law {rows : List (List Int)} {ws : List Int} (h : wattsOk rows ws = true) {t : Nat} (ht : t < 1001) :
    powerAt rows ws (t : Int) = power rows ws (t : Int) ∧ power rows ws (t : Int) ≤ mostPower rows ws ∧
    (blowsAt rows ws (power rows ws (t : Int)) = -1 ↔ mostPower rows ws ≤ power rows ws (t : Int)) ∧
    (0 ≤ blowsAt rows ws (power rows ws (t : Int)) → power rows ws (t : Int) < powerAt rows ws (blowsAt rows ws (power rows ws (t : Int)))) ∧ blowsAt rows ws (-1) = 0 ∧
    -1 ≤ blowsAt rows ws (power rows ws (t : Int)) ∧ blowsAt rows ws (power rows ws (t : Int)) ≤ 1000 := by
  have hin : ∀ k : Nat, k < 1001 → powerAt rows ws (k : Int) = power rows ws (k : Int) := fun k hk => by
    unfold powerAt
    rw [if_pos (by rw [h, Bool.true_and]; exact inR_iff.2 (by omega))]
  have hm : mostPower rows ws = mostTo rows ws 1001 := by unfold mostPower; rw [if_pos h]
  have hp := fun k : Nat => power_bd (k : Int) h
  have hge := mostTo_ge (rows := rows) (ws := ws) ht
  refine ⟨hin t ht, by rw [hm]; exact hge, ?_⟩
  have h0 : blowsAt rows ws (-1) = 0 := blowsAt_some h (k := 0) (by omega) (by have := hp 0; omega) fun j hj => absurd hj (by omega)
  rw [h0, hm]
  rcases blows_spec h (power rows ws (t : Int)) with ⟨e, hall⟩ | ⟨k, hk, e, h1, h2⟩
  · rw [e]
    exact ⟨⟨fun _ => mostTo_le (hp t).1 hall, fun _ => rfl⟩, fun h => by omega, rfl, by omega, by omega⟩
  · rw [e, hin k hk]
    have := mostTo_ge (rows := rows) (ws := ws) hk
    exact ⟨⟨fun h => by omega, fun h => by omega⟩, fun _ => h1, rfl, by omega, by omega⟩

end Go.Proofs.Ytiibegilolijlaa
