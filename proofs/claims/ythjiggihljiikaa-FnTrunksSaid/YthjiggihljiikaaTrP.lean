/- Boxes: the plain law. -/
import Derived.Test.YthjiggihljiikaaFfI
import Derived.Test.YthjiggihljiikaaFbI
import Derived.Test.YthjiggihljiikaaRm
import Derived.WalkKit
import Derived.ProofKit
import Derived.Handy
import Derived.OpenShut
import Derived.ShutString
import Derived.ChangeOld
import Derived.Below
import Derived.BigQuiet
import Derived.Deep.QuietTactic
import Derived.Deep.Draws
import Derived.Deep.DeepCutAuto
import Derived.Deep.DeepFit
import Derived.Deep.LoopGhost
import Derived.Outline
import Derived.WalkSpells
import Derived.WalkLawsBesides
import Derived.WalkSmall
import Derived.Laws.OwnMore
import Derived.OneCell
import Derived.Laws.Rows
import Derived.Maps.AppendAt
import Derived.StillTailTactics
import Derived.Lib.SmallJoins
import Derived.Deep.RegionWith
import Derived.Deep.RegionHeld3
import Derived.RegionTactic
import Derived.Deep.Matrix
import Derived.Deep.Fields
import Derived.ChangeSame
namespace Go.Proofs.Ythjiggihljiikaa
open Go.RowKit

theorem run_append_nil {P : Program} {w : World} {base n size : Nat} {e : TypeId} {v : Value} {xs : List Value} (t ty : TypeId) (i : TypeInfo) (ht : P.underlying t = some (.slice e)) (hi : P.info? e = some i)
    (hown : w.ownsRow base e size v n xs) (c : Nat) : (Builtin.append_ #[t, t] ty #[v, .slice none 0 c]).run P w = .ok v w := by
  rcases hown.2 with ⟨rfl, rfl⟩ | ⟨g, cap, cur, rfl, _, _, hnc, _⟩
  · simp [Builtin.append_, run_underlying ht, sizeOf, typeInfo, hi, Builtin.lenOf, Builtin.firstCells]
  · simp [Builtin.append_, run_underlying ht, sizeOf, typeInfo, hi, Builtin.lenOf, Builtin.firstCells, hnc, storeCells]
/-- append of all numbers of a slice to a row of the program's own. -/
theorem wpList_joinI {ops : Array Oper} {rest : List Oper} {o : Oper} {a : Act} {Q : Exit → Act → World → Prop} (hgd : o.guard = none) (s x : Operand)
    (ho : o.op = .call { callee := .builtin .append, args := #[s, x], argTypes := #[22, 22] })
    (w : World) (B : Nat) (v : Value) (xs : List Int) (u : Value) (zs : List Int) (hs : a.eval s = v) (hx : a.eval x = u)
    (hown : OwI w B v xs) (hr : RdI w u zs) (hl : xs.length + zs.length ≤ 16777216) (hB : B ≤ w.heap.size)
    (h : ∀ v' w', OwI w' B v' (xs ++ zs) → w.grownBy w' v.ownBlock → (v'.ownBlock = v.ownBlock ∨ v'.ownBlock = some w.heap.size) → wpList Try.prog ops Q rest (a.put o.dst v') w') :
    wpList Try.prog ops Q (o :: rest) a w := by
  obtain ⟨i0, hi, hz0, hz1, hz2⟩ := info_parts intInfo
  obtain ⟨A, c, rfl, hc⟩ := hr
  rcases A with _ | ad
  · have hz : zs = [] := by
      by_cases h0 : 0 < zs.length
      · obtain ⟨b, off, e, _⟩ := hc h0
        cases e
      · exact List.eq_nil_of_length_eq_zero (by omega)
    subst hz
    refine wpList_plain hgd fun K hK => ?_
    have hrun := run_append_nil (P := Try.prog) 22 o.type i0 Try.underlying22 hi hown c
    unfold Oper.wp execOp
    simp only [ho, resolve, invoke, builtin, Sem.run_bind, Sem.run_pure, Result.andThen_ok, List.map_toArray, List.map_cons, List.map_nil, hs, hx, List.length_nil, hrun]
    exact hK _ _ (h v w (by simpa using hown) (World.grownBy.refl w _) (.inl rfl))
  · have hcells : ∀ j u, (zs.map (Value.int .i64))[j]? = some u → w.cell? (ad.add j) = some u := by
      intro j u hu
      by_cases h0 : 0 < zs.length
      · obtain ⟨b, off, e, _, hc'⟩ := hc h0
        cases e
        have hj : j < zs.length := by
          rcases Nat.lt_or_ge j zs.length with h1 | h1
          · exact h1
          · rw [List.getElem?_eq_none (by simpa using h1)] at hu; cases hu
        rw [add_off, hc' j hj, ← gt_map zs j hj, hu]
      · have hz : zs = [] := List.eq_nil_of_length_eq_zero (by omega)
        subst hz
        simp at hu
    refine wpList_append_own_at (P := Try.prog) w hgd s x 22 ho B 3 i0 (.int .i64 0) 1 8 Try.underlying22 hi hz0 hz1 hz2 rfl (by decide) v xs.length (xs.map (Value.int .i64)) hs hown ad zs.length c (zs.map (Value.int .i64)) hx (by simp) hcells ?_ ?_ ?_ hB ?_
    · intro u hu
      obtain ⟨z, _, rfl⟩ := List.mem_map.1 hu
      rfl
    · unfold maxLen; omega
    · omega
    · intro v' w' hown' hg _ hat
      refine h v' w' ?_ hg hat
      unfold OwI
      rw [List.length_append, List.map_append]
      exact hown'

/-- the order of pairs. -/
def leP (p q : Int × Int) : Prop := p.1 < q.1 ∨ p.1 = q.1 ∧ p.2 ≤ q.2
theorem leP_refl (p : Int × Int) : leP p p := .inr ⟨rfl, Int.le_refl _⟩
theorem leP_trans {p q r : Int × Int} (h : leP p q) (k : leP q r) : leP p r := by unfold leP at *; omega
theorem leP_anti {p q : Int × Int} (h : leP p q) (k : leP q p) : p = q := by
  unfold leP at *
  apply Prod.ext <;> omega
theorem leP_of_not {c q : Int × Int} (h : lessB c q = false) : leP q c := by
  unfold lessB at h; unfold leP
  rw [decide_eq_false_iff_not] at h
  omega
theorem leP_of_less {c q : Int × Int} (h : lessB c q = true) : leP c q := by
  unfold lessB at h; unfold leP
  rw [decide_eq_true_eq] at h
  omega
theorem candB_mono {room s : Int} {p q : Int × Int} (h : leP p q) (_ : 0 ≤ s) (hq : 0 ≤ q.2) : leP (candB room s p) (candB room s q) := by
  unfold leP at *
  unfold candB
  split <;> split <;> simp only [] <;> omega
theorem candB_shift (room s : Int) (q : Int × Int) : candB room s (q.1 + 1, q.2) = ((candB room s q).1 + 1, (candB room s q).2) := by
  unfold candB
  simp only []
  split <;> rfl
/-- the best of the first i is one of them, and none of them is better. -/
theorem bstTo_is {room : Int} {zs : List Int} {T : List (Int × Int)} {set i : Nat} {q : Int × Int} (h : bstTo room zs T set i = some q) :
    (∃ k, k < i ∧ set.testBit k = true ∧ q = candB room (gt zs k) (tbl T (set - 2 ^ k))) ∧ ∀ k, k < i → set.testBit k = true → leP q (candB room (gt zs k) (tbl T (set - 2 ^ k))) := by
  induction i generalizing q with
  | zero => simp [bstTo] at h
  | succ i ih =>
    by_cases hb : set.testBit i = true
    · cases hq : bstTo room zs T set i with
      | none =>
        rw [bstTo_first hb hq] at h
        cases h
        refine ⟨⟨i, by omega, hb, rfl⟩, fun k hk hkb => ?_⟩
        rcases Nat.lt_or_ge k i with h1 | h1
        · obtain ⟨q, hq2⟩ := bstTo_some (room := room) (zs := zs) (T := T) hkb h1
          rw [hq] at hq2; cases hq2
        · obtain rfl : k = i := by omega
          exact leP_refl _
      | some q' =>
        obtain ⟨⟨k0, hk0, hb0, e0⟩, hall⟩ := ih hq
        cases hl : lessB (candB room (gt zs i) (tbl T (set - 2 ^ i))) q' with
        | true =>
          rw [bstTo_take hb hq hl] at h
          cases h
          refine ⟨⟨i, by omega, hb, rfl⟩, fun k hk hkb => ?_⟩
          rcases Nat.lt_or_ge k i with h1 | h1
          · exact leP_trans (leP_of_less hl) (hall k h1 hkb)
          · obtain rfl : k = i := by omega
            exact leP_refl _
        | false =>
          rw [bstTo_leave hb hq hl] at h
          cases h
          refine ⟨⟨k0, by omega, hb0, e0⟩, fun k hk hkb => ?_⟩
          rcases Nat.lt_or_ge k i with h1 | h1
          · exact hall k h1 hkb
          · obtain rfl : k = i := by omega
            exact leP_of_not hl
    · rw [bstTo_skip (by simpa using hb)] at h
      obtain ⟨⟨k0, hk0, hb0, e0⟩, hall⟩ := ih h
      refine ⟨⟨k0, by omega, hb0, e0⟩, fun k hk hkb => ?_⟩
      rcases Nat.lt_or_ge k i with h1 | h1
      · exact hall k h1 hkb
      · obtain rfl : k = i := by omega
        exact absurd hkb hb
/-- what the final table holds for a set. -/
def vSet (room : Int) (zs : List Int) (S : Nat) : Int × Int := tbl (tabB room zs S) S
theorem vSet_tab {room : Int} {zs : List Int} {k S : Nat} (h : S ≤ k) : tbl (tabB room zs k) S = vSet room zs S := by
  induction k with
  | zero => obtain rfl : S = 0 := by omega
            rfl
  | succ k ih =>
    rcases Nat.lt_or_ge k S with h1 | h1
    · obtain rfl : S = k + 1 := by omega
      rfl
    · rw [tbl_old h1, ih h1]
/-- a table of pairs is the table of the sizes. -/
def IsV (room : Int) (zs : List Int) (V : Nat → Int × Int) : Prop :=
  V 0 = (0, 0) ∧ (∀ S, 0 < S → S < 2 ^ zs.length → ∃ i, i < zs.length ∧ S.testBit i = true ∧ V S = candB room (gt zs i) (V (S - 2 ^ i))) ∧
  ∀ S i, S < 2 ^ zs.length → i < zs.length → S.testBit i = true → leP (V S) (candB room (gt zs i) (V (S - 2 ^ i)))
theorem bit_lt {S i : Nat} (h : S.testBit i = true) : S - 2 ^ i < S ∧ 0 < S := by
  have := Nat.ge_two_pow_of_testBit h
  have : 0 < 2 ^ i := Nat.pos_of_ne_zero (by simp)
  omega
theorem isV_vSet (room : Int) (zs : List Int) : IsV room zs (vSet room zs) := by
  have key : ∀ S, 0 < S → S < 2 ^ zs.length → (∃ i, i < zs.length ∧ S.testBit i = true ∧ vSet room zs S = candB room (gt zs i) (vSet room zs (S - 2 ^ i))) ∧
      ∀ i, i < zs.length → S.testBit i = true → leP (vSet room zs S) (candB room (gt zs i) (vSet room zs (S - 2 ^ i))) := by
    intro S h0 hS
    obtain ⟨k, rfl⟩ : ∃ k, S = k + 1 := ⟨S - 1, by omega⟩
    obtain ⟨b, hb, hbit⟩ := some_bit (n := zs.length) h0 hS
    obtain ⟨q, hq⟩ := bstTo_some (room := room) (zs := zs) (T := tabB room zs k) hbit hb
    have e : vSet room zs (k + 1) = q := by unfold vSet; rw [tbl_new, hq]; rfl
    obtain ⟨⟨i, hi, hib, e2⟩, hall⟩ := bstTo_is hq
    refine ⟨⟨i, hi, hib, ?_⟩, fun j hj hjb => ?_⟩
    · rw [e, e2, vSet_tab (by have := bit_lt hib; omega)]
    · have := hall j hj hjb
      rw [vSet_tab (by have := bit_lt hjb; omega)] at this
      rw [e]; exact this
  refine ⟨rfl, fun S h0 hS => (key S h0 hS).1, fun S i hS hi hb => (key S (bit_lt hb).2 hS).2 i hi hb⟩
theorem IsV.eq {room : Int} {zs : List Int} {V U : Nat → Int × Int} (hV : IsV room zs V) (hU : IsV room zs U) : ∀ S, S < 2 ^ zs.length → V S = U S := by
  intro S
  induction S using Nat.strongRecOn with
  | ind S ih =>
    intro hS
    rcases Nat.eq_zero_or_pos S with h0 | h0
    · subst h0; rw [hV.1, hU.1]
    · obtain ⟨i, hi, hb, e⟩ := hV.2.1 S h0 hS
      obtain ⟨j, hj, hc, e'⟩ := hU.2.1 S h0 hS
      have h1 := hV.2.2 S j hS hj hc
      have h2 := hU.2.2 S i hS hi hb
      rw [ih _ (bit_lt hc).1 (by have := (bit_lt hc).1; omega), ← e'] at h1
      rw [← ih _ (bit_lt hb).1 (by have := (bit_lt hb).1; omega), ← e] at h2
      exact leP_anti h1 h2
/-- the bounds of the table. -/
theorem IsV.bd {room : Int} {zs : List Int} {V : Nat → Int × Int} (hV : IsV room zs V) (hr : 0 ≤ room) (hz : ∀ k, k < zs.length → 1 ≤ gt zs k ∧ gt zs k ≤ room) :
    ∀ S, S < 2 ^ zs.length → 0 ≤ (V S).1 ∧ 0 ≤ (V S).2 ∧ (V S).2 ≤ room ∧ (0 < S → 0 < (V S).2) := by
  intro S
  induction S using Nat.strongRecOn with
  | ind S ih =>
    intro hS
    rcases Nat.eq_zero_or_pos S with h0 | h0
    · subst h0; rw [hV.1]; simp; exact hr
    · obtain ⟨i, hi, hb, e⟩ := hV.2.1 S h0 hS
      have h1 := ih _ (bit_lt hb).1 (by have := (bit_lt hb).1; omega)
      have h2 := hz i hi
      rw [e]
      unfold candB
      split <;> simp only [] <;> omega
/-- the sum of the sizes of a set. -/
def sumS (zs : List Int) : Nat → Nat → Int
  | 0, _ => 0
  | n + 1, S => sumS zs n S + if S.testBit n then gt zs n else 0
theorem sumS_same {zs : List Int} {n i S : Nat} (h : S.testBit i = true) (hi : n ≤ i) : sumS zs n (S - 2 ^ i) = sumS zs n S := by
  induction n with
  | zero => rfl
  | succ n ih =>
    simp only [sumS]
    rw [ih (by omega), tb_sub h, show decide (n ≠ i) = true from by simp; omega, Bool.and_true]
theorem sumS_sub {zs : List Int} {n i S : Nat} (h : S.testBit i = true) (hi : i < n) : sumS zs n (S - 2 ^ i) + gt zs i = sumS zs n S := by
  induction n with
  | zero => omega
  | succ n ih =>
    simp only [sumS]
    by_cases e : i = n
    · subst e
      rw [sumS_same h (Nat.le_refl _), tb_sub h, h]
      simp
    · have := ih (by omega)
      rw [tb_sub h, show decide (n ≠ i) = true from by simp; omega, Bool.and_true]
      omega
theorem sumS_zero (zs : List Int) (n : Nat) : sumS zs n 0 = 0 := by
  induction n with
  | zero => rfl
  | succ n ih => simp [sumS, ih]
theorem IsV.sum {room : Int} {zs : List Int} {V : Nat → Int × Int} (hV : IsV room zs V) (hr : 0 ≤ room) (hz : ∀ k, k < zs.length → 1 ≤ gt zs k ∧ gt zs k ≤ room) :
    ∀ S, S < 2 ^ zs.length → sumS zs zs.length S ≤ (V S).1 * room + (V S).2 := by
  intro S
  induction S using Nat.strongRecOn with
  | ind S ih =>
    intro hS
    rcases Nat.eq_zero_or_pos S with h0 | h0
    · subst h0; rw [hV.1, sumS_zero]; simp
    · obtain ⟨i, hi, hb, e⟩ := hV.2.1 S h0 hS
      have hlt : S - 2 ^ i < 2 ^ zs.length := by have := (bit_lt hb).1; omega
      have h1 := ih _ (bit_lt hb).1 hlt
      have h2 := hV.bd hr hz _ hlt
      have h3 := sumS_sub (zs := zs) hb hi
      rw [e]
      unfold candB
      split
      · show sumS zs zs.length S ≤ ((V (S - 2 ^ i)).1 + 1) * room + gt zs i
        rw [Int.add_mul]
        omega
      · show sumS zs zs.length S ≤ (V (S - 2 ^ i)).1 * room + ((V (S - 2 ^ i)).2 + gt zs i)
        omega
/-- the set of those in boxes below j, and of the first k in box j. -/
def boxSet (bs : List Int) (j k : Nat) : Nat → Nat
  | 0 => 0
  | n + 1 => boxSet bs j k n + if gt bs n < (j : Int) ∨ gt bs n = (j : Int) ∧ n < k then 2 ^ n else 0
theorem boxSet_lt (bs : List Int) (j k n : Nat) : boxSet bs j k n < 2 ^ n := by
  induction n with
  | zero => simp [boxSet]
  | succ n ih => simp only [boxSet]; rw [Nat.pow_succ]; split <;> omega
theorem boxSet_bit (bs : List Int) (j k n i : Nat) : (boxSet bs j k n).testBit i = (decide (i < n) && decide (gt bs i < (j : Int) ∨ gt bs i = (j : Int) ∧ i < k)) := by
  induction n with
  | zero => simp [boxSet]
  | succ n ih =>
    have hlt := boxSet_lt bs j k n
    simp only [boxSet]
    by_cases hc : gt bs n < (j : Int) ∨ gt bs n = (j : Int) ∧ n < k
    · rw [if_pos hc, Nat.add_comm]
      rcases Nat.lt_trichotomy i n with h | h | h
      · rw [Nat.testBit_two_pow_add_gt h, ih]
        simp [h, show i < n + 1 from by omega]
      · subst h
        rw [Nat.testBit_two_pow_add_eq, ih]
        simp [hc]
      · rw [Nat.testBit_lt_two_pow]
        · simp [show ¬ i < n + 1 from by omega]
        · have : 2 ^ (n + 1) ≤ 2 ^ i := Nat.pow_le_pow_right (by omega) (by omega)
          rw [Nat.pow_succ] at this
          omega
    · rw [if_neg hc, Nat.add_zero, ih]
      by_cases h : i = n
      · subst h; simp [hc]
      · congr 1
        rw [decide_eq_decide]; omega
theorem boxSet_congr {bs : List Int} {j k j' k' n : Nat} (h : ∀ i, i < n → ((gt bs i < (j : Int) ∨ gt bs i = (j : Int) ∧ i < k) ↔ (gt bs i < (j' : Int) ∨ gt bs i = (j' : Int) ∧ i < k'))) : boxSet bs j k n = boxSet bs j' k' n := by
  apply Nat.eq_of_testBit_eq
  intro i
  rw [boxSet_bit, boxSet_bit]
  by_cases hi : i < n
  · simp only [hi, decide_true, Bool.true_and]
    rw [decide_eq_decide]; exact h i hi
  · simp [hi]
/-- one that is taken is taken away. -/
theorem boxSet_take {bs : List Int} {j k n : Nat} (hk : k < n) (h : gt bs k = (j : Int)) : boxSet bs j (k + 1) n - 2 ^ k = boxSet bs j k n ∧ (boxSet bs j (k + 1) n).testBit k = true := by
  have hb : (boxSet bs j (k + 1) n).testBit k = true := by rw [boxSet_bit]; simp [hk, h]
  refine ⟨?_, hb⟩
  apply Nat.eq_of_testBit_eq
  intro i
  rw [tb_sub hb, boxSet_bit, boxSet_bit]
  by_cases hi : i = k
  · subst hi; simp [h]
  · have : (gt bs i < (j : Int) ∨ gt bs i = (j : Int) ∧ i < k + 1) ↔ (gt bs i < (j : Int) ∨ gt bs i = (j : Int) ∧ i < k) := by omega
    simp only [this, hi, ne_eq, not_false_eq_true, decide_true, Bool.and_true]
theorem ldTo_nonneg {zs bs : List Int} {b : Int} (hz : ∀ k, k < zs.length → 1 ≤ gt zs k) {k : Nat} (hk : k ≤ zs.length) : 0 ≤ ldTo zs bs b k := by
  induction k with
  | zero => simp [ldTo]
  | succ k ih =>
    have := ih (by omega)
    have := hz k (by omega)
    simp only [ldTo]
    split <;> omega
theorem ldTo_mono {zs bs : List Int} {b : Int} (hz : ∀ k, k < zs.length → 1 ≤ gt zs k) {i k : Nat} (hik : i ≤ k) (hk : k ≤ zs.length) : ldTo zs bs b i ≤ ldTo zs bs b k := by
  induction k with
  | zero => obtain rfl : i = 0 := by omega
            exact Int.le_refl _
  | succ k ih =>
    by_cases e : i = k + 1
    · subst e; exact Int.le_refl _
    · have := ih (by omega) (by omega)
      have := hz k (by omega)
      simp only [ldTo]
      split <;> omega
/-- no packing has fewer boxes. -/
theorem IsV.least {room : Int} {zs bs : List Int} {V : Nat → Int × Int} (hV : IsV room zs V) (_ : 0 ≤ room) (hz : ∀ k, k < zs.length → 1 ≤ gt zs k ∧ gt zs k ≤ room)
    (hb : ∀ k, k < zs.length → 0 ≤ gt bs k) {m : Nat} (hl : ∀ j : Nat, j < m → ldTo zs bs (j : Int) zs.length ≤ room) :
    ∀ j, j < m → ∀ k, k ≤ zs.length → leP (V (boxSet bs j k zs.length)) ((j : Int), ldTo zs bs (j : Int) k) := by
  intro j
  induction j with
  | zero =>
    intro hj k
    induction k with
    | zero =>
      intro _
      have e : boxSet bs 0 0 zs.length = 0 := by
        apply Nat.eq_of_testBit_eq
        intro i
        rw [boxSet_bit]
        by_cases hi : i < zs.length
        · have := hb i hi
          simp; omega
        · simp [hi]
      rw [e, hV.1]
      exact leP_refl _
    | succ k ih =>
      intro hk
      have ih := ih (by omega)
      by_cases hc : gt bs k = ((0 : Nat) : Int)
      · obtain ⟨e1, e2⟩ := boxSet_take (n := zs.length) (by omega) hc
        have h1 := hV.2.2 _ k (boxSet_lt bs 0 (k + 1) zs.length) (by omega) e2
        rw [e1] at h1
        have hmono : ldTo zs bs ((0 : Nat) : Int) (k + 1) ≤ ldTo zs bs ((0 : Nat) : Int) zs.length := ldTo_mono (fun k hk => (hz k hk).1) (by omega) (Nat.le_refl _)
        have h2 := hl 0 hj
        rw [ldTo_yes hc] at hmono ⊢
        refine leP_trans h1 (leP_trans (candB_mono ih (by have := hz k (by omega); omega) (ldTo_nonneg (fun k hk => (hz k hk).1) (by omega))) ?_)
        unfold candB
        rw [if_neg (by simp only []; omega)]
        exact leP_refl _
      · rw [ldTo_no hc, boxSet_congr (j := 0) (k := k + 1) (j' := 0) (k' := k)]
        · exact ih
        · intro i hi
          by_cases e : i = k
          · subst e; omega
          · omega
  | succ j ihj =>
    intro hj k
    induction k with
    | zero =>
      intro _
      have h1 := ihj (by omega) zs.length (Nat.le_refl _)
      rw [boxSet_congr (j := j + 1) (k := 0) (j' := j) (k' := zs.length) (by intro i hi; omega)]
      refine leP_trans h1 (.inl ?_)
      show (j : Int) < ((j + 1 : Nat) : Int)
      omega
    | succ k ih =>
      intro hk
      have ih := ih (by omega)
      by_cases hc : gt bs k = ((j + 1 : Nat) : Int)
      · obtain ⟨e1, e2⟩ := boxSet_take (n := zs.length) (by omega) hc
        have h1 := hV.2.2 _ k (boxSet_lt bs (j + 1) (k + 1) zs.length) (by omega) e2
        rw [e1] at h1
        have hmono : ldTo zs bs ((j + 1 : Nat) : Int) (k + 1) ≤ ldTo zs bs ((j + 1 : Nat) : Int) zs.length := ldTo_mono (fun k hk => (hz k hk).1) (by omega) (Nat.le_refl _)
        have h2 := hl (j + 1) hj
        rw [ldTo_yes hc] at hmono ⊢
        refine leP_trans h1 (leP_trans (candB_mono ih (by have := hz k (by omega); omega) (ldTo_nonneg (fun k hk => (hz k hk).1) (by omega))) ?_)
        unfold candB
        rw [if_neg (by simp only []; omega)]
        exact leP_refl _
      · rw [ldTo_no hc, boxSet_congr (j := j + 1) (k := k + 1) (j' := j + 1) (k' := k)]
        · exact ih
        · intro i hi
          by_cases e : i = k
          · subst e; omega
          · omega

theorem gt_app {xs ys : List Int} {k : Nat} (h : k < xs.length) : gt (xs ++ ys) k = gt xs k := gt_append_left h
theorem add_bit {S n i : Nat} (hS : S < 2 ^ n) : (2 ^ n + S).testBit i = (decide (i = n) || S.testBit i) := by
  rcases Nat.lt_trichotomy i n with h | h | h
  · rw [Nat.testBit_two_pow_add_gt h]; simp [show i ≠ n from by omega]
  · subst h; rw [Nat.testBit_two_pow_add_eq, Nat.testBit_lt_two_pow hS]; simp
  · have h1 : 2 ^ (n + 1) ≤ 2 ^ i := Nat.pow_le_pow_right (by omega) (by omega)
    rw [Nat.pow_succ] at h1
    rw [Nat.testBit_lt_two_pow (by omega), Nat.testBit_lt_two_pow (by omega)]
    simp [show i ≠ n from by omega]
/-- the table with one more puppet is the same at the old sets. -/
theorem IsV.old {room : Int} {zs : List Int} {x : Int} {V : Nat → Int × Int} (hV : IsV room (zs ++ [x]) V) : IsV room zs V := by
  have hl : (zs ++ [x]).length = zs.length + 1 := by simp
  have hp : (2 : Nat) ^ (zs ++ [x]).length = 2 * 2 ^ zs.length := by rw [hl, Nat.pow_succ]; omega
  refine ⟨hV.1, fun S h0 hS => ?_, fun S i hS hi hb => ?_⟩
  · obtain ⟨i, hi, hb, e⟩ := hV.2.1 S h0 (by omega)
    have hin : i < zs.length := by
      rcases Nat.lt_or_ge i zs.length with h | h
      · exact h
      · have := Nat.ge_two_pow_of_testBit hb
        have := Nat.pow_le_pow_right (n := 2) (by omega) h
        omega
    rw [gt_app hin] at e
    exact ⟨i, hin, hb, e⟩
  · have := hV.2.2 S i (by omega) (by omega) hb
    rwa [gt_app hi] at this
/-- a puppet that fills a box costs one box. -/
theorem IsV.more {room : Int} {zs : List Int} {V : Nat → Int × Int} (hV : IsV room (zs ++ [room]) V) (hr : 1 ≤ room) (hz : ∀ k, k < zs.length → 1 ≤ gt zs k ∧ gt zs k ≤ room) :
    ∀ S, 0 < S → S < 2 ^ zs.length → leP ((V S).1 + 1, (V S).2) (V (2 ^ zs.length + S)) := by
  have hl : (zs ++ [room]).length = zs.length + 1 := by simp
  have hp : (2 : Nat) ^ (zs ++ [room]).length = 2 * 2 ^ zs.length := by rw [hl, Nat.pow_succ]; omega
  have hO := hV.old
  have hz' : ∀ k, k < (zs ++ [room]).length → 1 ≤ gt (zs ++ [room]) k ∧ gt (zs ++ [room]) k ≤ room := by
    intro k hk
    rw [hl] at hk
    rcases Nat.lt_or_ge k zs.length with h | h
    · rw [gt_app h]; exact hz k h
    · obtain rfl : k = zs.length := by omega
      rw [gt_snoc]; omega
  intro S
  induction S using Nat.strongRecOn with
  | ind S ih =>
    intro h0 hS
    have hSb := hO.bd (by omega) hz S hS
    obtain ⟨i, hi, hb, e⟩ := hV.2.1 (2 ^ zs.length + S) (by omega) (by omega)
    rw [add_bit hS] at hb
    by_cases hin : i = zs.length
    · subst hin
      rw [gt_snoc, Nat.add_sub_cancel_left] at e
      rw [e]
      unfold candB
      rw [if_pos (by have := hSb.2.2.2 h0; omega)]
      exact .inr ⟨rfl, hSb.2.2.1⟩
    · have hbS : S.testBit i = true := by simpa [hin] using hb
      have hi' : i < zs.length := by omega
      rw [gt_app hi'] at e
      have hge := Nat.ge_two_pow_of_testBit hbS
      have hlt := bit_lt hbS
      rw [show 2 ^ zs.length + S - 2 ^ i = 2 ^ zs.length + (S - 2 ^ i) from by omega] at e
      have hle := hO.2.2 S i hS hi' hbS
      have hzi := hz i hi'
      rcases Nat.eq_zero_or_pos (S - 2 ^ i) with h1 | h1
      · rw [h1] at hle e
        rw [hO.1] at hle
        have hx : V (2 ^ zs.length + 0) = (0, room) := by
          have hp0 : 0 < 2 ^ zs.length := Nat.pos_of_ne_zero (by simp)
          obtain ⟨j, hj, hjb, ej⟩ := hV.2.1 (2 ^ zs.length + 0) (by omega) (by omega)
          rw [add_bit (Nat.pos_of_ne_zero (by simp))] at hjb
          have : j = zs.length := by simpa using hjb
          subst this
          rw [gt_snoc, Nat.add_sub_cancel_left, hO.1] at ej
          rw [ej]
          unfold candB
          rw [if_neg (by simp only []; omega)]
          simp
        rw [e, hx]
        have e1 : candB room (gt zs i) (0, room) = (1, gt zs i) := by unfold candB; rw [if_pos (by simp only []; omega)]; rfl
        have e2 : candB room (gt zs i) (0, 0) = (0, gt zs i) := by unfold candB; rw [if_neg (by simp only []; omega)]; simp
        rw [e1]
        rw [e2] at hle
        unfold leP at *
        simp only [] at *
        omega
      · have ihS := ih _ hlt.1 h1 (by omega)
        rw [e]
        have hb2 := (hV.bd (by omega) hz' (2 ^ zs.length + (S - 2 ^ i)) (by omega)).2.1
        have h3 := candB_mono (room := room) (s := gt zs i) ihS (by omega) hb2
        rw [candB_shift] at h3
        refine leP_trans ?_ h3
        unfold leP at *
        simp only [] at *
        omega
theorem boxesOk_more {zs : List Int} {room : Int} (h : boxesOk zs room = true) (hl : zs.length ≤ 11) : boxesOk (zs ++ [room]) room = true := by
  obtain ⟨h1, h2, h3⟩ := boxesOk_iff.1 h
  refine boxesOk_iff.2 ⟨by simp; omega, h2, fun k hk => ?_⟩
  simp at hk
  rcases Nat.lt_or_ge k zs.length with h | h
  · rw [gt_app h]; exact h3 k h
  · obtain rfl : k = zs.length := by omega
    rw [gt_snoc]; omega
theorem fewest_more {zs : List Int} {room : Int} (h : boxesOk zs room = true) (hl : zs.length ≤ 11) : fewestBoxes (zs ++ [room]) room = fewestBoxes zs room + 1 := by
  obtain ⟨h1, h2, h3⟩ := boxesOk_iff.1 h
  have hll : (zs ++ [room]).length = zs.length + 1 := by simp
  have hpos : 0 < 2 ^ zs.length := Nat.pos_of_ne_zero (by simp)
  have hp : (2 : Nat) ^ (zs ++ [room]).length = 2 * 2 ^ zs.length := by rw [hll, Nat.pow_succ]; omega
  have hV := isV_vSet room (zs ++ [room])
  have hO := hV.old
  have hEq := hO.eq (isV_vSet room zs)
  unfold fewestBoxes
  rw [if_pos h, if_pos (boxesOk_more h hl), if_neg (by omega)]
  have e1 : ∀ l : List Int, tbl (tabB room l (2 ^ l.length - 1)) (2 ^ l.length - 1) = vSet room l (2 ^ l.length - 1) := fun l => rfl
  rw [e1, e1, hp, show 2 * 2 ^ zs.length - 1 = 2 ^ zs.length + (2 ^ zs.length - 1) from by omega]
  by_cases h0 : zs.length = 0
  · rw [if_pos h0]
    have hz0 : zs = [] := List.eq_nil_of_length_eq_zero h0
    subst hz0
    obtain ⟨i, hi, hb, e⟩ := hV.2.1 1 (by omega) (by simp)
    have : i = 0 := by simpa using hi
    subst this
    have e2 : gt ([] ++ [room]) 0 = room := rfl
    rw [e2] at e
    show (vSet room ([] ++ [room]) 1).1 + 1 = 0 + 1
    rw [e, show 1 - 2 ^ 0 = 0 from rfl, hV.1]
    unfold candB
    rw [if_neg (by simp only []; omega)]
  · rw [if_neg h0]
    have hS : 0 < 2 ^ zs.length - 1 := by
      have : 2 ^ 1 ≤ 2 ^ zs.length := Nat.pow_le_pow_right (by omega) (by omega)
      omega
    have hlow := hV.more h2.1 h3 (2 ^ zs.length - 1) hS (by omega)
    have hb : (2 ^ zs.length + (2 ^ zs.length - 1)).testBit zs.length = true := by rw [add_bit (by omega)]; simp
    have hup := hV.2.2 _ zs.length (by omega) (by omega) hb
    rw [gt_snoc, Nat.add_sub_cancel_left] at hup
    have hbd := hO.bd (by omega) h3 (2 ^ zs.length - 1) (by omega)
    have e4 := hEq (2 ^ zs.length - 1) (by omega)
    rw [e4] at hlow hup hbd
    have e3 : candB room room (vSet room zs (2 ^ zs.length - 1)) = ((vSet room zs (2 ^ zs.length - 1)).1 + 1, room) := by
      unfold candB; rw [if_pos (by have := hbd.2.2.2 hS; omega)]
    rw [e3] at hup
    unfold leP at hlow hup
    simp only [] at hlow hup
    omega
/-- what holds of the boxes of first fit after k puppets. -/
theorem ffIdx_spec (room s : Int) (us : List Int) : ffIdx room s us ≤ us.length ∧ (ffIdx room s us < us.length → gt us (ffIdx room s us) + s ≤ room) ∧ ∀ j, j < ffIdx room s us → room < gt us j + s := by
  induction us with
  | nil => simp [ffIdx]
  | cons u us ih =>
    simp only [ffIdx]
    split
    · refine ⟨by simp, fun _ => ?_, fun j hj => absurd hj (by omega)⟩
      simpa [gt] using ‹_›
    · refine ⟨by simp; exact ih.1, fun h => ?_, fun j hj => ?_⟩
      · have := ih.2.1 (by simpa using h)
        simpa [gt] using this
      · cases j with
        | zero => have : gt (u :: us) 0 = u := rfl
                  omega
        | succ j => have := ih.2.2 j (by omega)
                    simpa [gt] using this
theorem ffTo_pre {room : Int} {zs : List Int} {k n j : Nat} (hkn : k ≤ n) (hj : j < k) : gt (ffTo room zs n).1 j = gt (ffTo room zs k).1 j := by
  induction n with
  | zero => omega
  | succ n ih =>
    by_cases e : k = n + 1
    · subst e; rfl
    · rw [← ih (by omega)]
      simp only [ffTo, ffStep]
      rw [gt_app (by rw [(ffTo_len room zs n).1]; omega)]
theorem ldTo_congr {zs bs cs : List Int} {b : Int} {k : Nat} (h : ∀ j, j < k → gt bs j = gt cs j) : ldTo zs bs b k = ldTo zs cs b k := by
  induction k with
  | zero => rfl
  | succ k ih => simp only [ldTo]; rw [ih fun j hj => h j (by omega), h k (by omega)]
/-- boxes and loads of first fit agree. -/
structure FfOk (room : Int) (zs : List Int) (k : Nat) (B U : List Int) : Prop where
  len : B.length = k
  box : ∀ j, j < k → 0 ≤ gt B j ∧ gt B j < (U.length : Int)
  load : ∀ b : Nat, b < U.length → ldTo zs B (b : Int) k = gt U b
  empty : ∀ b : Nat, U.length ≤ b → ldTo zs B (b : Int) k = 0
  pos : ∀ b, b < U.length → 1 ≤ gt U b ∧ gt U b ≤ room
  pair : ∀ i j, i < j → j < U.length → room < gt U i + gt U j
  last : ∀ b : Nat, b < U.length → ∃ j, j < k ∧ gt B j = (b : Int)
theorem ffTo_ok {room : Int} {zs : List Int} (hz : ∀ k, k < zs.length → 1 ≤ gt zs k ∧ gt zs k ≤ room) {k : Nat} (hk : k ≤ zs.length) : FfOk room zs k (ffTo room zs k).1 (ffTo room zs k).2 := by
  induction k with
  | zero => exact ⟨rfl, fun j hj => absurd hj (by omega), fun b hb => absurd hb (by simp [ffTo]), fun b _ => rfl, fun b hb => absurd hb (by simp [ffTo]), fun i j _ hj => absurd hj (by simp [ffTo]), fun b hb => absurd hb (by simp [ffTo])⟩
  | succ k ih =>
    have I := ih (by omega)
    have hs := hz k (by omega)
    have hsp := ffIdx_spec room (gt zs k) (ffTo room zs k).2
    by_cases hn : ffIdx room (gt zs k) (ffTo room zs k).2 = (ffTo room zs k).2.length
    · rw [ffTo_new hn]
      rw [hn] at hsp
      generalize (ffTo room zs k).1 = B at *
      generalize (ffTo room zs k).2 = U at *
      have hB : ∀ j, j < k → gt (B ++ [(U.length : Int)]) j = gt B j := fun j hj => gt_app (by rw [I.len]; exact hj)
      have hBk : gt (B ++ [(U.length : Int)]) k = (U.length : Int) := by have := gt_snoc B (U.length : Int); rwa [I.len] at this
      refine ⟨by simp [I.len], fun j hj => ?_, fun b hb => ?_, fun b hb => ?_, fun b hb => ?_, fun i j hij hj => ?_, fun b hb => ?_⟩
      · simp only [List.length_append, List.length_singleton]
        rcases Nat.lt_or_ge j k with h | h
        · rw [hB j h]; have := I.box j h; omega
        · obtain rfl : j = k := by omega
          rw [hBk]; omega
      · simp only [List.length_append, List.length_singleton] at hb
        rcases Nat.lt_or_ge b U.length with h | h
        · rw [ldTo_no (by rw [hBk]; omega), ldTo_congr hB, I.load b h, gt_app h]
        · obtain rfl : b = U.length := by omega
          rw [ldTo_yes hBk, ldTo_congr hB, I.empty _ (Nat.le_refl _), gt_snoc]; omega
      · simp only [List.length_append, List.length_singleton] at hb
        rw [ldTo_no (by rw [hBk]; omega), ldTo_congr hB, I.empty b (by omega)]
      · simp only [List.length_append, List.length_singleton] at hb
        rcases Nat.lt_or_ge b U.length with h | h
        · rw [gt_app h]; exact I.pos b h
        · obtain rfl : b = U.length := by omega
          rw [gt_snoc]; exact hs
      · simp only [List.length_append, List.length_singleton] at hj
        rcases Nat.lt_or_ge j U.length with h | h
        · rw [gt_app h, gt_app (by omega)]; exact I.pair i j hij h
        · obtain rfl : j = U.length := by omega
          rw [gt_snoc, gt_app hij]; exact hsp.2.2 i hij
      · simp only [List.length_append, List.length_singleton] at hb
        rcases Nat.lt_or_ge b U.length with h | h
        · obtain ⟨j, hj, e⟩ := I.last b h
          exact ⟨j, by omega, by rw [hB j hj]; exact e⟩
        · obtain rfl : b = U.length := by omega
          exact ⟨k, by omega, hBk⟩
    · have hm : ffIdx room (gt zs k) (ffTo room zs k).2 < (ffTo room zs k).2.length := by omega
      rw [ffTo_old rfl hm]
      have hroom := hsp.2.1 hm
      generalize ffIdx room (gt zs k) (ffTo room zs k).2 = m at *
      generalize (ffTo room zs k).1 = B at *
      generalize (ffTo room zs k).2 = U at *
      have hB : ∀ j, j < k → gt (B ++ [(m : Int)]) j = gt B j := fun j hj => gt_app (by rw [I.len]; exact hj)
      have hBk : gt (B ++ [(m : Int)]) k = (m : Int) := by have := gt_snoc B (m : Int); rwa [I.len] at this
      have hU : ∀ b, b < U.length → gt (U.set m (gt U m + gt zs k)) b = if b = m then gt U m + gt zs k else gt U b := by
        intro b hb
        by_cases e : b = m
        · subst e; rw [gt_set_same hb, if_pos rfl]
        · rw [gt_set_other e, if_neg e]
      have hge : ∀ b, b < U.length → gt U b ≤ gt (U.set m (gt U m + gt zs k)) b := by
        intro b hb
        rw [hU b hb]
        split
        · rename_i e; subst e; omega
        · omega
      refine ⟨by simp [I.len], fun j hj => ?_, fun b hb => ?_, fun b hb => ?_, fun b hb => ?_, fun i j hij hj => ?_, fun b hb => ?_⟩
      · simp only [List.length_set]
        rcases Nat.lt_or_ge j k with h | h
        · rw [hB j h]; exact I.box j h
        · obtain rfl : j = k := by omega
          rw [hBk]; omega
      · simp only [List.length_set] at hb
        rw [hU b hb]
        by_cases e : b = m
        · subst e; rw [if_pos rfl, ldTo_yes hBk, ldTo_congr hB, I.load b hb]
        · rw [if_neg e, ldTo_no (by rw [hBk]; omega), ldTo_congr hB, I.load b hb]
      · simp only [List.length_set] at hb
        rw [ldTo_no (by rw [hBk]; omega), ldTo_congr hB, I.empty b hb]
      · simp only [List.length_set] at hb
        rw [hU b hb]
        have := I.pos b hb
        by_cases e : b = m
        · subst e; rw [if_pos rfl]; omega
        · rw [if_neg e]; exact this
      · simp only [List.length_set] at hj
        have := I.pair i j hij hj
        have := hge i (by omega)
        have := hge j hj
        show room < gt (U.set m (gt U m + gt zs k)) i + gt (U.set m (gt U m + gt zs k)) j
        omega
      · simp only [List.length_set] at hb
        obtain ⟨j, hj, e⟩ := I.last b hb
        exact ⟨j, by omega, by rw [hB j hj]; exact e⟩
/-- the sum of the first k. -/
def smTo (zs : List Int) : Nat → Int
  | 0 => 0
  | k + 1 => smTo zs k + gt zs k
theorem smTo_bd {zs : List Int} {c : Int} {k : Nat} (h : ∀ j, j < k → 0 ≤ gt zs j ∧ gt zs j ≤ c) : 0 ≤ smTo zs k ∧ smTo zs k ≤ c * k := by
  induction k with
  | zero => simp [smTo]
  | succ k ih =>
    have := ih fun j hj => h j (by omega)
    have := h k (by omega)
    simp only [smTo]
    rw [show ((k + 1 : Nat) : Int) = (k : Int) + 1 from rfl, Int.mul_add, Int.mul_one]
    omega
theorem smTo_loads {zs bs : List Int} {m k : Nat} (h : ∀ j, j < k → 0 ≤ gt bs j ∧ gt bs j < (m : Int)) : smTo zs k = smTo ((List.range m).map fun (b : Nat) => ldTo zs bs (b : Int) k) m := by
  have gen : ∀ (m : Nat) (f g : Nat → Int) (i : Nat) (x : Int), i < m → (∀ j, j < m → f j = g j + if j = i then x else 0) → smTo ((List.range m).map f) m = smTo ((List.range m).map g) m + x := by
    intro m f g i x hi hf
    have gtm : ∀ (f : Nat → Int) (j : Nat), j < m → gt ((List.range m).map f) j = f j := fun f j hj => by simp [gt, hj]
    have hlow : ∀ n, n ≤ m → smTo ((List.range m).map f) n = smTo ((List.range m).map g) n + if i < n then x else 0 := by
      intro n
      induction n with
      | zero => intro _; simp [smTo]
      | succ n ih =>
        intro hn
        simp only [smTo]
        rw [ih (by omega), gtm f n (by omega), gtm g n (by omega), hf n (by omega)]
        by_cases e : n = i
        · subst e; simp; omega
        · rw [if_neg e]
          by_cases h2 : i < n
          · rw [if_pos h2, if_pos (by omega)]; omega
          · rw [if_neg h2, if_neg (by omega)]; omega
    have := hlow m (Nat.le_refl _)
    rwa [if_pos hi] at this
  induction k with
  | zero =>
    have : ∀ n, n ≤ m → smTo ((List.range m).map fun (b : Nat) => ldTo zs bs (b : Int) 0) n = 0 := by
      intro n
      induction n with
      | zero => intro _; rfl
      | succ n ih => intro hn; simp only [smTo]; rw [ih (by omega)]; simp [gt, show n < m from by omega, ldTo]
    exact (this m (Nat.le_refl _)).symm
  | succ k ih =>
    have hk := h k (by omega)
    rw [gen m (fun b => ldTo zs bs (b : Int) (k + 1)) (fun b => ldTo zs bs (b : Int) k) (gt bs k).toNat (gt zs k) (by omega), ← ih fun j hj => h j (by omega)]
    · rfl
    · intro j hj
      simp only [ldTo]
      by_cases e : gt bs k = (j : Int)
      · rw [if_pos e, if_pos (by omega)]
      · rw [if_neg e, if_neg (by omega)]
theorem smTo_congr {xs ys : List Int} {k : Nat} (h : ∀ j, j < k → gt xs j = gt ys j) : smTo xs k = smTo ys k := by
  induction k with
  | zero => rfl
  | succ k ih => simp only [smTo]; rw [ih fun j hj => h j (by omega), h k (by omega)]
theorem smTo_sumS {zs : List Int} {k n : Nat} (hk : k ≤ n) : sumS zs k (2 ^ n - 1) = smTo zs k := by
  induction k with
  | zero => rfl
  | succ k ih =>
    simp only [sumS, smTo]
    rw [ih (by omega), Nat.testBit_two_pow_sub_one]
    simp [show k < n from by omega]
/-- each two boxes hold more than one room: all hold more than half. -/
theorem half_full {us : List Int} {R : Int} (h : ∀ i j, i < j → j < us.length → R ≤ gt us i + gt us j) (h2 : 2 ≤ us.length) : us.length * R ≤ 2 * smTo us us.length := by
  have key : ∀ k, k + 1 ≤ us.length → (k : Int) * R ≤ 2 * smTo us (k + 1) - gt us 0 - gt us k := by
    intro k
    induction k with
    | zero => intro _; simp [smTo]; omega
    | succ k ih =>
      intro hk
      have := ih (by omega)
      have h3 := h k (k + 1) (by omega) (by omega)
      rw [show ((k + 1 : Nat) : Int) = (k : Int) + 1 from rfl, Int.add_mul, Int.one_mul]
      simp only [smTo] at *
      omega
  have h4 := key (us.length - 1) (by omega)
  have h5 := h 0 (us.length - 1) (by omega) (by omega)
  rw [show us.length - 1 + 1 = us.length from by omega] at h4
  have e : (us.length : Int) = ((us.length - 1 : Nat) : Int) + 1 := by omega
  rw [e, Int.add_mul, Int.one_mul]
  omega
/-- the number of boxes: the greatest number of a box, and one. -/
def usedTo (f : List Int) : Nat → Int
  | 0 => 0
  | k + 1 => max (usedTo f k) (gt f k + 1)
theorem usedTo_le {f : List Int} {c : Int} (h0 : 0 ≤ c) {k : Nat} (h : ∀ j, j < k → gt f j < c) : usedTo f k ≤ c := by
  induction k with
  | zero => exact h0
  | succ k ih =>
    have := ih fun j hj => h j (by omega)
    have := h k (by omega)
    simp only [usedTo]; omega
theorem usedTo_ge {f : List Int} {k j : Nat} (h : j < k) : gt f j < usedTo f k := by
  induction k with
  | zero => omega
  | succ k ih =>
    simp only [usedTo]
    rcases Nat.lt_or_ge j k with h1 | h1
    · have := ih h1; omega
    · obtain rfl : j = k := by omega
      omega
theorem usedTo_nonneg (f : List Int) (k : Nat) : 0 ≤ usedTo f k := by
  induction k with
  | zero => simp [usedTo]
  | succ k ih => simp only [usedTo]; omega
theorem roomTo_eq {zs bs : List Int} {room : Int} {us : List Int} (hlen : us.length ≤ 12) (h1 : ∀ b : Nat, b < us.length → ldTo zs bs (b : Int) zs.length = gt us b) (h2 : ∀ b : Nat, us.length ≤ b → ldTo zs bs (b : Int) zs.length = 0) (h3 : ∀ b, b < us.length → 1 ≤ gt us b) :
    roomTo zs room bs 12 = us.length * room - smTo us us.length := by
  have key : ∀ b, b ≤ us.length → roomTo zs room bs b = b * room - smTo us b := by
    intro b
    induction b with
    | zero => intro _; simp [roomTo, smTo]
    | succ b ih =>
      intro hb
      rw [roomTo_yes (by rw [h1 b (by omega)]; have := h3 b (by omega); omega), ih (by omega), h1 b (by omega)]
      rw [show ((b + 1 : Nat) : Int) = (b : Int) + 1 from rfl, Int.add_mul, Int.one_mul]
      simp only [smTo]
      omega
  have key2 : ∀ d, us.length + d ≤ 12 → roomTo zs room bs (us.length + d) = roomTo zs room bs us.length := by
    intro d
    induction d with
    | zero => intro _; rfl
    | succ d ih =>
      intro hd
      rw [← Nat.add_assoc, roomTo_no (by rw [h2 _ (by omega)]; omega), ih (by omega)]
  have := key2 (12 - us.length) (by omega)
  rw [show us.length + (12 - us.length) = 12 from by omega] at this
  rw [this, key _ (Nat.le_refl _)]
/-- what the law asks of boxes. -/
theorem trunks_law {zs : List Int} {room : Int} (ho : boxesOk zs room = true) (hl : zs.length ≤ 11) :
    (firstFit zs room).length = zs.length ∧ packed zs room (firstFit zs room) = true ∧ 0 ≤ fewestBoxes zs room ∧ fewestBoxes zs room ≤ usedTo (firstFit zs room) zs.length ∧
    smTo zs zs.length ≤ fewestBoxes zs room * room ∧ (1 < usedTo (firstFit zs room) zs.length → usedTo (firstFit zs room) zs.length < 2 * fewestBoxes zs room) ∧
    roomLeft zs room (firstFit zs room) = usedTo (firstFit zs room) zs.length * room - smTo zs zs.length ∧ (fewestBoxes zs room = 0 ↔ zs.length = 0) ∧
    (∀ k, k < zs.length → 0 ≤ gt (firstFit zs room) k ∧ gt (firstFit zs room) k < 12) ∧ fewestBoxes zs room ≤ 12 := by
  obtain ⟨h1, h2, h3⟩ := boxesOk_iff.1 ho
  have hf : firstFit zs room = (ffTo room zs zs.length).1 := by unfold firstFit; rw [if_pos ho]
  have I := ffTo_ok h3 (Nat.le_refl zs.length)
  have hul := (ffTo_len room zs zs.length).2
  rw [hf]
  generalize (ffTo room zs zs.length).1 = B at *
  generalize (ffTo room zs zs.length).2 = U at *
  have hused : usedTo B zs.length = U.length := by
    have g1 : usedTo B zs.length ≤ U.length := usedTo_le (by omega) fun j hj => (I.box j hj).2
    have g2 : (U.length : Int) ≤ usedTo B zs.length := by
      rcases Nat.eq_zero_or_pos U.length with e | e
      · rw [e]; exact usedTo_nonneg _ _
      · obtain ⟨j, hj, ej⟩ := I.last (U.length - 1) (by omega)
        have := usedTo_ge (f := B) hj
        omega
    omega
  have hld : ∀ b : Nat, ldTo zs B (b : Int) zs.length ≤ room := fun b => by
    rcases Nat.lt_or_ge b U.length with h | h
    · rw [I.load b h]; exact (I.pos b h).2
    · rw [I.empty b h]; omega
  have hpk : packed zs room B = true := packed_yes ho I.len (allW_iff.2 fun k hk => by
    rw [I.len] at hk
    have := I.box k hk; omega) fun b _ => hld b
  have hsum : smTo zs zs.length = smTo U U.length := by
    rw [smTo_loads (bs := B) (m := U.length) I.box]
    refine smTo_congr fun j hj => ?_
    simp only [gt, List.getD, List.getElem?_map, List.getElem?_range hj, Option.map_some, Option.getD_some]
    exact I.load j hj
  have hV := isV_vSet room zs
  have hpos : 0 < 2 ^ zs.length := Nat.pos_of_ne_zero (by simp)
  have hroom : roomLeft zs room B = U.length * room - smTo zs zs.length := by
    unfold roomLeft
    rw [if_pos hpk, hsum]
    exact roomTo_eq (by omega) I.load I.empty fun b hb => (I.pos b hb).1
  by_cases h0 : zs.length = 0
  · have hU0 : U.length = 0 := by omega
    have hfw : fewestBoxes zs room = 0 := by unfold fewestBoxes; rw [if_pos ho, if_pos h0]
    have hs0 : smTo zs zs.length = 0 := by rw [h0]; rfl
    rw [hused, hfw]
    refine ⟨I.len, hpk, Int.le_refl _, by omega, by omega, fun h => by omega, hroom, ⟨fun _ => h0, fun _ => rfl⟩, fun k hk => by omega, by omega⟩
  · have hfw : fewestBoxes zs room = (vSet room zs (2 ^ zs.length - 1)).1 + 1 := by unfold fewestBoxes; rw [if_pos ho, if_neg h0]; rfl
    have hbd := hV.bd (by omega) h3 (2 ^ zs.length - 1) (by omega)
    have hUpos : 0 < U.length := by have := I.box 0 (by omega); omega
    have hle := hV.least (bs := B) (by omega) h3 (fun k hk => (I.box k hk).1) (m := U.length) (fun j _ => hld j) (U.length - 1) (by omega) zs.length (Nat.le_refl _)
    have hall : boxSet B (U.length - 1) zs.length zs.length = 2 ^ zs.length - 1 := by
      apply Nat.eq_of_testBit_eq
      intro i
      rw [boxSet_bit, Nat.testBit_two_pow_sub_one]
      by_cases hi : i < zs.length
      · have := I.box i hi
        simp only [hi, decide_true, Bool.true_and, decide_eq_true_eq, and_true]
        omega
      · simp [hi]
    rw [hall] at hle
    have hsm := hV.sum (by omega) h3 (2 ^ zs.length - 1) (by omega)
    rw [smTo_sumS (Nat.le_refl _)] at hsm
    have hn : fewestBoxes zs room ≤ U.length := by
      rw [hfw]
      unfold leP at hle
      simp only [] at hle
      omega
    have hnr : smTo zs zs.length ≤ fewestBoxes zs room * room := by
      rw [hfw, Int.add_mul, Int.one_mul]
      omega
    rw [hused]
    refine ⟨I.len, hpk, by omega, hn, hnr, fun h => ?_, hroom, ⟨fun h => by omega, fun h => absurd h h0⟩, fun k hk => by have := I.box k hk; omega, by omega⟩
    have hh := half_full (us := U) (R := room + 1) (fun i j hij hj => by have := I.pair i j hij hj; omega) (by omega)
    rw [← hsum, Int.mul_add, Int.mul_one] at hh
    rcases Int.lt_or_le (U.length : Int) (2 * fewestBoxes zs room) with hc | hc
    · exact hc
    · have := Int.mul_le_mul_of_nonneg_right hc (show 0 ≤ room by omega)
      rw [Int.mul_assoc] at this
      omega
theorem frag_one {zs : List Int} {i k : Nat} (hi : i < zs.length) (hk : k < zs.length) (h1 : fragile zs (i : Int) = true) (h2 : fragile zs (k : Int) = true) : i = k := by
  simp only [fragile, Bool.and_eq_true, Int.toNat_natCast, fragL, List.all_eq_true, List.mem_range, Bool.or_eq_true, decide_eq_true_eq] at h1 h2
  have e1 := h1.2 k hk
  have e2 := h2.2 i hi
  omega

end Go.Proofs.Ythjiggihljiikaa
