/- Contracts of PriceOf and GroupPrice. -/
import Derived.Test.YtjifdheaeopdfaaHlp
import Derived.WalkKit
import Derived.ProofKit
import Derived.Handy
import Derived.OpenShut
import Derived.ShutString
import Derived.ChangeOld
import Derived.Below
import Derived.BigQuiet
import Derived.Deep.QuietTactic
import Derived.Deep.Draws
import Derived.Deep.DeepCutAuto
import Derived.Deep.DeepFit
import Derived.Deep.LoopGhost
import Derived.Outline
import Derived.WalkSpells
import Derived.WalkLawsBesides
import Derived.WalkSmall
import Derived.Laws.OwnMore
import Derived.OneCell
import Derived.Laws.Rows
import Derived.Maps.AppendAt
import Derived.StillTailTactics
namespace Go.Proofs.Ytjifdheaeopdfaa
open Go.RowKit

/-- the price without a child's share. -/
def basePrice (r : Int) : Int := if r ≤ 2 then 12 else if r ≤ 5 then 9 else 6
/-- the price of a ticket. -/
def price (a r : Int) : Int := if inR a 0 120 && inR r 0 20 then (if a < 14 then (basePrice r + 1) / 2 else basePrice r) else -1
theorem price_bd (a r : Int) : -1 ≤ price a r ∧ price a r ≤ 12 := by
  unfold price basePrice
  split <;> (try split) <;> (try split) <;> (try split) <;> omega

set_option maxHeartbeats 1000000 in
theorem spec_PriceOf (a r : Int) (w : World) : Calls Try.prog 29 #[.int .i64 a, .int .i64 r] w fun e w' => e = .returned (.int .i64 (price a r)) ∧ w = w' := by
  cases h1 : inR a 0 120 with
  | false =>
    go_enter Try.func29, Try.ntmps29
    go_wp2_with (go_at_call 41; refine (l01In_any _ _ _ _).mono ?_; rintro e w' ⟨rfl, rfl⟩)
    go_ret
    exact ⟨ret_int (by simp [price, h1]), rfl⟩
  | true =>
    cases h2 : inR r 0 20 with
    | false =>
      go_enter Try.func29, Try.ntmps29
      go_wp2_with (go_at_call 41; refine (l01In_any _ _ _ _).mono ?_; rintro e w' ⟨rfl, rfl⟩)
      go_ret
      exact ⟨ret_int (by simp [price, h2]), rfl⟩
    | true =>
      by_cases c1 : r ≤ 2 <;> by_cases c2 : r ≤ 5 <;> by_cases c3 : a < 14
      all_goals first
        | (exfalso; omega)
        | (go_enter Try.func29, Try.ntmps29
           go_wp2_with (go_at_call 41; refine (l01In_any _ _ _ _).mono ?_; rintro e w' ⟨rfl, rfl⟩)
           go_ret
           exact ⟨ret_int (by simp only [price, basePrice, h1, h2, Bool.and_self, if_true]; omega), rfl⟩)

set_option maxHeartbeats 1000000 in
theorem impl_PriceOf (a r : Int) (w : World) : Calls Try.prog 30 #[.int .i64 a, .int .i64 r] w fun e w' => e = .returned (.int .i64 (price a r)) ∧ w = w' := by
  cases h1 : inR a 0 120 with
  | false =>
    go_enter Try.func30, Try.ntmps30
    go_wp2_with (go_at_call 42; refine (within_any _ _ _ _).mono ?_; rintro e w' ⟨rfl, rfl⟩)
    go_ret
    exact ⟨ret_int (by simp [price, h1]), rfl⟩
  | true =>
    cases h2 : inR r 0 20 with
    | false =>
      go_enter Try.func30, Try.ntmps30
      go_wp2_with (go_at_call 42; refine (within_any _ _ _ _).mono ?_; rintro e w' ⟨rfl, rfl⟩)
      go_ret
      exact ⟨ret_int (by simp [price, h2]), rfl⟩
    | true =>
      by_cases c1 : r ≤ 2 <;> by_cases c2 : r ≤ 5 <;> by_cases c3 : a < 14
      all_goals first
        | (exfalso; omega)
        | (go_enter Try.func30, Try.ntmps30
           go_wp2_with (go_at_call 42; refine (within_any _ _ _ _).mono ?_; rintro e w' ⟨rfl, rfl⟩)
           go_ret
           exact ⟨ret_int (by simp only [price, basePrice, h1, h2, Bool.and_self, if_true]; omega), rfl⟩)

/-- all prices are ones. -/
def okP (r : Int) (zs : List Int) : Bool := zs.all fun a => decide (0 ≤ price a r)
theorem okP_iff {r : Int} {zs : List Int} : okP r zs = true ↔ ∀ k, k < zs.length → 0 ≤ price (gt zs k) r := by
  unfold okP
  rw [List.all_eq_true]
  constructor
  · intro h k hk
    exact of_decide_eq_true (h _ (gt_mem hk))
  · intro h x hx
    obtain ⟨k, hk, rfl⟩ := List.getElem_of_mem hx
    rw [← gt_getElem hk]
    exact decide_eq_true (h k hk)
theorem okP_false {r : Int} {zs : List Int} {k : Nat} (hk : k < zs.length) (h : price (gt zs k) r < 0) : okP r zs = false := by
  rw [Bool.eq_false_iff]
  intro ht
  have := okP_iff.1 ht k hk
  omega
def sumTo (zs : List Int) (r : Int) : Nat → Int
  | 0 => 0
  | k + 1 => sumTo zs r k + price (gt zs k) r
def minTo (zs : List Int) (r : Int) : Nat → Int
  | 0 => 100
  | k + 1 => min (minTo zs r k) (price (gt zs k) r)
theorem sumTo_bd (zs : List Int) (r : Int) (k : Nat) : -(k : Int) ≤ sumTo zs r k ∧ sumTo zs r k ≤ 12 * k := by
  induction k with
  | zero => simp [sumTo]
  | succ k ih => have := price_bd (gt zs k) r; simp only [sumTo]; omega
theorem minTo_bd (zs : List Int) (r : Int) (k : Nat) : -1 ≤ minTo zs r k ∧ minTo zs r k ≤ 100 := by
  induction k with
  | zero => simp [minTo]
  | succ k ih => have := price_bd (gt zs k) r; simp only [minTo]; omega
theorem minTo_pos {zs : List Int} {r : Int} {k : Nat} (h : ∀ j, j < k → 0 ≤ price (gt zs j) r) : 0 ≤ minTo zs r k := by
  induction k with
  | zero => simp [minTo]
  | succ k ih => have := h k (by omega); have := ih fun j hj => h j (by omega); simp only [minTo]; omega
/-- the reference's least so far. -/
def lstTo (zs : List Int) (r : Int) : Nat → Int
  | 0 => -1
  | k + 1 => minTo zs r (k + 1)
/-- the price of a group. -/
def groupP (zs : List Int) (r : Int) : Int := if inR (zs.length : Int) 1 30 && okP r zs then (if 5 ≤ zs.length then sumTo zs r zs.length - minTo zs r zs.length else sumTo zs r zs.length) else -1

set_option maxHeartbeats 1000000 in
theorem impl_GroupPrice (v : Value) (zs : List Int) (r : Int) (w : World) (h : RdI w v zs) (hl : zs.length ≤ 1048576) (_ : I64 r) :
    Calls Try.prog 40 #[v, .int .i64 r] w fun e w' => e = .returned (.int .i64 (groupP zs r)) ∧ Nx w w' := by
  obtain ⟨A, c, rfl, hx⟩ := h
  cases h1 : inR (zs.length : Int) 1 30 with
  | false =>
    have hf := hide (show groupP zs r = -1 from by simp [groupP, h1])
    go_enter Try.func40, Try.ntmps40
    go_wp2_with (go_at_call 42; refine (within_any _ _ _ _).mono ?_; rintro e w' ⟨rfl, rfl⟩)
    go_ret
    exact ⟨ret_int hf.out.symm, Below.refl _ _⟩
  | true =>
    have hn := inR_iff.1 h1
    have hn2 : zs.length ≤ 30 := by omega
    have hn1 : 1 ≤ zs.length := by omega
    clear hn
    have H1 := hide h1
    by_cases h5 : 5 ≤ zs.length
    all_goals
      have H5 := hide h5
      go_enter Try.func40, Try.ntmps40
      go_wp2_with (go_at_call 42; refine (within_any _ _ _ _).mono ?_; rintro e w' ⟨rfl, rfl⟩)
      go_loop [5, 6, 16] (fun s l i => ∃ k : Nat, k ≤ zs.length ∧ i = .int .i64 k ∧ s = .int .i64 (sumTo zs r k) ∧ l = .int .i64 (minTo zs r k) ∧ Hid (∀ j, j < k → 0 ≤ price (gt zs j) r)) (fun _ _ i => zs.length - (intOf i).toNat)
      case atStart => exact ⟨0, Nat.zero_le _, rfl, rfl, rfl, fun j hj => absurd hj (by omega)⟩
      case round =>
        obtain ⟨k, hk, rfl, rfl, rfl, hall⟩ := hrel
        have b1 := sumTo_bd zs r k
        have b2 := minTo_bd zs r k
        by_cases hlt : k < zs.length
        · obtain ⟨b0, off, rfl, hb0, hc⟩ := hx (by omega)
          have hck := hc k hlt
          have b3 := price_bd (gt zs k) r
          clear hc hx
          by_cases hp : price (gt zs k) r < 0
          · have hf := hide (show groupP zs r = -1 from by simp [groupP, okP_false hlt hp])
            go_wp2_with (go_at_call 30; refine (impl_PriceOf _ _ _).mono ?_; rintro e w' ⟨rfl, rfl⟩)
            go_ret
            exact ⟨ret_int hf.out.symm, Below.refl _ _⟩
          · have e1 : Hid (minTo zs r (k + 1) = min (minTo zs r k) (price (gt zs k) r)) := rfl
            go_wp2_with (go_at_call 30; refine (impl_PriceOf _ _ _).mono ?_; rintro e w' ⟨rfl, rfl⟩)
            all_goals
              go_round
              case rel => exact ⟨k + 1, by omega, by go_num, rfl, by rw [e1.out]; go_num, fun j hj => by
                rcases Nat.lt_or_ge j k with h | h
                · exact hall.out j h
                · obtain rfl : j = k := by omega
                  omega⟩
              case measure => simp [intOf]; omega
        · obtain rfl : k = zs.length := by omega
          have hok := okP_iff.2 hall.out
          have hf := hide (show groupP zs r = _ from by simp only [groupP, H1.out, hok, Bool.and_self, if_true]; first | rw [if_pos H5.out] | rw [if_neg H5.out])
          clear hx hok
          go_wp2_with fail
          go_ret
          exact ⟨ret_int hf.out.symm, Below.refl _ _⟩

set_option maxHeartbeats 1000000 in
theorem spec_GroupPrice (v : Value) (zs : List Int) (r : Int) (w : World) (h : RdI w v zs) (hl : zs.length ≤ 1048576) (_ : I64 r) :
    Calls Try.prog 39 #[v, .int .i64 r] w fun e w' => e = .returned (.int .i64 (groupP zs r)) ∧ Nx w w' := by
  obtain ⟨A, c, rfl, hx⟩ := h
  cases h1 : inR (zs.length : Int) 1 30 with
  | false =>
    have hf := hide (show groupP zs r = -1 from by simp [groupP, h1])
    go_enter Try.func39, Try.ntmps39
    go_wp2_with (go_at_call 41; refine (l01In_any _ _ _ _).mono ?_; rintro e w' ⟨rfl, rfl⟩)
    go_ret
    exact ⟨ret_int hf.out.symm, Below.refl _ _⟩
  | true =>
    have hn := inR_iff.1 h1
    have hn2 : zs.length ≤ 30 := by omega
    have hn1 : 1 ≤ zs.length := by omega
    clear hn
    have H1 := hide h1
    by_cases h5 : 5 ≤ zs.length
    all_goals
      have H5 := hide h5
      go_enter Try.func39, Try.ntmps39
      go_wp2_with (go_at_call 41; refine (l01In_any _ _ _ _).mono ?_; rintro e w' ⟨rfl, rfl⟩)
      go_loop [5, 6, 7] (fun s l i => ∃ k : Nat, k ≤ zs.length ∧ i = .int .i64 k ∧ s = .int .i64 (sumTo zs r k) ∧ l = .int .i64 (lstTo zs r k) ∧ Hid (∀ j, j < k → 0 ≤ price (gt zs j) r)) (fun _ _ i => zs.length - (intOf i).toNat)
      case atStart => exact ⟨0, Nat.zero_le _, rfl, rfl, rfl, fun j hj => absurd hj (by omega)⟩
      case round =>
        obtain ⟨k, hk, rfl, rfl, rfl, hall⟩ := hrel
        have b1 := sumTo_bd zs r k
        by_cases hlt : k < zs.length
        · obtain ⟨b0, off, rfl, hb0, hc⟩ := hx (by omega)
          have hck := hc k hlt
          have b3 := price_bd (gt zs k) r
          clear hc hx
          by_cases hp : price (gt zs k) r < 0
          · have hf := hide (show groupP zs r = -1 from by simp [groupP, okP_false hlt hp])
            go_wp2_with (go_at_call 29; refine (spec_PriceOf _ _ _).mono ?_; rintro e w' ⟨rfl, rfl⟩)
            go_ret
            exact ⟨ret_int hf.out.symm, Below.refl _ _⟩
          · have e1 : Hid (lstTo zs r (k + 1) = min (minTo zs r k) (price (gt zs k) r)) := rfl
            have hk0 : k = 0 ∨ lstTo zs r k = minTo zs r k ∧ 0 ≤ minTo zs r k := by
              rcases Nat.eq_zero_or_pos k with h | h
              · exact .inl h
              · obtain ⟨q, rfl⟩ : ∃ q, k = q + 1 := ⟨k - 1, by omega⟩
                exact .inr ⟨rfl, minTo_pos hall.out⟩
            have hall' : Hid (∀ j, j < k + 1 → 0 ≤ price (gt zs j) r) := fun j hj => by
              rcases Nat.lt_or_ge j k with h | h
              · exact hall.out j h
              · obtain rfl : j = k := by omega
                omega
            have e2 : Hid (sumTo zs r (k + 1) = sumTo zs r k + price (gt zs k) r) := rfl
            have e3 : Hid (k = 0 → minTo zs r k = 100) := fun h => by subst h; rfl
            generalize hq : lstTo zs r k = q at hk0
            by_cases hq0 : q < 0
            · have hk00 : k = 0 := by omega
              have e4 := hide (e3.out hk00)
              clear hk0 hk00 hq
              go_wp2_with (go_at_call 29; refine (spec_PriceOf _ _ _).mono ?_; rintro e w' ⟨rfl, rfl⟩)
              go_round
              case rel => exact ⟨k + 1, by omega, by go_num, by rw [e2.out], by rw [e1.out, e4.out]; go_num, hall'⟩
              case measure => simp [intOf]; omega
            · by_cases hpq : price (gt zs k) r < q
              · have e4 : Hid (min (minTo zs r k) (price (gt zs k) r) = price (gt zs k) r) := by
                  show min (minTo zs r k) (price (gt zs k) r) = price (gt zs k) r
                  rcases hk0 with h | h
                  · rw [e3.out h]; omega
                  · omega
                clear hk0 hq
                go_wp2_with (go_at_call 29; refine (spec_PriceOf _ _ _).mono ?_; rintro e w' ⟨rfl, rfl⟩)
                go_round
                case rel => exact ⟨k + 1, by omega, by go_num, by rw [e2.out], by rw [e1.out, e4.out], hall'⟩
                case measure => simp [intOf]; omega
              · have e4 : Hid (min (minTo zs r k) (price (gt zs k) r) = q) := by
                  show min (minTo zs r k) (price (gt zs k) r) = q
                  rcases hk0 with h | h
                  · subst h; simp [lstTo] at hq; omega
                  · omega
                clear hk0 hq
                go_wp2_with (go_at_call 29; refine (spec_PriceOf _ _ _).mono ?_; rintro e w' ⟨rfl, rfl⟩)
                go_round
                case rel => exact ⟨k + 1, by omega, by go_num, by rw [e2.out], by rw [e1.out, e4.out], hall'⟩
                case measure => simp [intOf]; omega
        · obtain rfl : k = zs.length := by omega
          have hok := okP_iff.2 hall.out
          have hf := hide (show groupP zs r = _ from by simp only [groupP, H1.out, hok, Bool.and_self, if_true]; first | rw [if_pos H5.out] | rw [if_neg H5.out])
          have e1 : Hid (lstTo zs r zs.length = minTo zs r zs.length) := by
            obtain ⟨q, hq⟩ : ∃ q, zs.length = q + 1 := ⟨zs.length - 1, by omega⟩
            rw [hq]; rfl
          have b2 := minTo_bd zs r zs.length
          rw [e1.out]
          clear hx hok
          go_wp2_with fail
          go_ret
          exact ⟨ret_int hf.out.symm, Below.refl _ _⟩

end Go.Proofs.Ytjifdheaeopdfaa
