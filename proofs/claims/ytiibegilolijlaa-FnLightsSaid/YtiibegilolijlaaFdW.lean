/- Own rows of fades. -/
import Derived.Test.YtiibegilolijlaaLtP
import Derived.WalkKit
import Derived.ProofKit
import Derived.Handy
import Derived.OpenShut
import Derived.ShutString
import Derived.ChangeOld
import Derived.Below
import Derived.BigQuiet
import Derived.Deep.QuietTactic
import Derived.Deep.Draws
import Derived.Deep.DeepCutAuto
import Derived.Deep.DeepFit
import Derived.Deep.LoopGhost
import Derived.Outline
import Derived.WalkSpells
import Derived.WalkLawsBesides
import Derived.WalkSmall
import Derived.Laws.OwnMore
import Derived.OneCell
import Derived.Laws.Rows
import Derived.Maps.AppendAt
import Derived.StillTailTactics
import Derived.Lib.SmallJoins
import Derived.Deep.RegionWith
import Derived.Deep.RegionHeld3
import Derived.RegionTactic
import Derived.Deep.Matrix
import Derived.Deep.Fields
import Derived.ChangeSame
namespace Go.Proofs.Ytiibegilolijlaa
open Go.RowKit

theorem own_alloc {w : World} {B : Nat} {v : Value} {zs : List Int} (h : OwI w B v zs) (o : Obj) : OwI (w.alloc o) B v zs := World.ownsRow.alloc h o
theorem grownBy_of_alloc {w w' : World} {o : Obj} {row : Option Nat} (h : (w.alloc o).grownBy w' row) : w.grownBy w' row := grownBy_trans (World.grownBy_alloc w o row) h

/-- append of one number to a row of the program's own. -/
theorem wpList_push {ops : Array Oper} {rest : List Oper} {o : Oper} {a : Act} {Q : Exit → Act → World → Prop} (hgd : o.guard = none) (s x : Operand)
    (ho : o.op = .call { callee := .builtin .append, args := #[s, x], argTypes := #[33, 33] })
    (w : World) (B : Nat) (v : Value) (xs : List Int) (n : Int) (hs : a.eval s = v) (hx : a.eval x = .slice (some ⟨w.heap.size, 0, none⟩) 1 1)
    (hown : OwI w B v xs) (hl : xs.length ≤ 16777216) (hB : B ≤ w.heap.size)
    (h : ∀ v' w', OwI w' B v' (xs ++ [n]) → w.grownBy w' v.ownBlock → (v'.ownBlock = v.ownBlock ∨ v'.ownBlock = some (w.heap.size + 1)) → wpList Try.prog ops Q rest (a.put o.dst v') w') :
    wpList Try.prog ops Q (o :: rest) a (w.alloc (.cells #[.int .i64 n] 3)) := by
  obtain ⟨i0, hi, hz0, hz1, hz2⟩ := info_parts intInfo
  refine wpList_append_own_at (P := Try.prog) (w.alloc (.cells #[.int .i64 n] 3)) hgd s x 33 ho B 3 i0 (.int .i64 0) 1 8 Try.underlying33 hi hz0 hz1 hz2 rfl (by decide) v xs.length (xs.map (Value.int .i64)) hs (own_alloc hown _) ⟨w.heap.size, 0, none⟩ 1 1 [.int .i64 n] hx rfl (cell_one_new _ _ _) ?_ ?_ ?_ ?_ ?_
  · intro u hu; simp at hu; subst hu; rfl
  · unfold maxLen; omega
  · omega
  · simp; omega
  · intro v' w' hown' hg _ hat
    refine h v' w' ?_ (grownBy_of_alloc hg) ?_
    · unfold OwI
      rw [List.length_append, List.map_append]
      exact hown'
    · rcases hat with e | e
      · exact .inl e
      · exact .inr (by rw [e]; simp)

theorem Nx.pushed {w0 w w' : World} {v : Value} {xs : List Int} {B : Nat} (hb : Nx w0 w) (hown : OwI w B v xs) (hB : w0.heap.size ≤ B) (hg : w.grownBy w' v.ownBlock) : Nx w0 w' := hb.only hown hg hB

theorem OwI.made0 (w : World) : OwI (w.alloc (.cells #[] 3)) w.heap.size (.slice (some ⟨w.heap.size, 0, none⟩) 0 0) [] :=
  World.ownsRow_made w #[] 0 (Nat.le_refl _) (by unfold maxLen; omega) rfl
/-- the same where the walk spells the heap's size by another name. -/
theorem wpList_pushH {ops : Array Oper} {rest : List Oper} {o : Oper} {a : Act} {Q : Exit → Act → World → Prop} (hgd : o.guard = none) (s x : Operand)
    (ho : o.op = .call { callee := .builtin .append, args := #[s, x], argTypes := #[33, 33] })
    (w : World) (B H : Nat) (hH : w.heap.size = H) (v : Value) (xs : List Int) (n : Int) (hs : a.eval s = v) (hx : a.eval x = .slice (some ⟨H, 0, none⟩) 1 1)
    (hown : OwI w B v xs) (hl : xs.length ≤ 16777216) (hB : B ≤ w.heap.size)
    (h : ∀ v' w', OwI w' B v' (xs ++ [n]) → w.grownBy w' v.ownBlock → (v'.ownBlock = v.ownBlock ∨ v'.ownBlock = some (H + 1)) → wpList Try.prog ops Q rest (a.put o.dst v') w') :
    wpList Try.prog ops Q (o :: rest) a (w.alloc (.cells #[.int .i64 n] 3)) := by
  subst hH
  exact wpList_push hgd s x ho w B v xs n hs hx hown hl hB h

/-- fades in a row of the program's own. -/
def OwS (w : World) (B : Nat) (v : Value) (rows : List (List Int)) : Prop :=
  ∃ xs, w.ownsRow B 38 4 v rows.length xs ∧ ∀ k j, k < rows.length → j < 4 → xs[k * 4 + j]? = some (.int .i64 (fd rows k j))
theorem OwS.made0 (w : World) : OwS (w.alloc (.cells #[] 38)) w.heap.size (.slice (some ⟨w.heap.size, 0, none⟩) 0 0) [] :=
  ⟨[], World.ownsRow_made w #[] 0 (Nat.le_refl _) (by unfold maxLen; omega) rfl, fun k j hk => absurd hk (by simp)⟩
theorem OwS.lt {w : World} {B : Nat} {v : Value} {rows : List (List Int)} (h : OwS w B v rows) : ∀ k, v.ownBlock = some k → B ≤ k ∧ k < w.heap.size := by
  obtain ⟨xs, h1, _⟩ := h
  exact World.ownsRow.lt h1
theorem OwS.kept {w w' : World} {B : Nat} {v : Value} {rows : List (List Int)} {row : Option Nat} (h : OwS w B v rows) (hg : w.grownBy w' row) (hne : v.ownBlock = none ∨ v.ownBlock ≠ row) : OwS w' B v rows := by
  obtain ⟨xs, h1, h2⟩ := h
  exact ⟨xs, h1.kept hg hne, h2⟩
theorem OwS.keptL {w w' : World} {B : Nat} {v : Value} {rows : List (List Int)} {g : Nat} (h : OwS w B v rows) (hg : w.grownBy w' (some g)) (hne : ∀ k, v.ownBlock = some k → k ≠ g) : OwS w' B v rows :=
  h.kept hg (.inr fun e => hne g e rfl)
theorem OwS.mono {w : World} {B B' : Nat} {v : Value} {rows : List (List Int)} (h : OwS w B v rows) (hB : B' ≤ B) : OwS w B' v rows := by
  obtain ⟨xs, h1, h2⟩ := h
  refine ⟨xs, ⟨h1.1, ?_⟩, h2⟩
  rcases h1.2 with h | ⟨g, cap, cur, e, hb, rest⟩
  · exact .inl h
  · exact .inr ⟨g, cap, cur, e, Nat.le_trans hB hb, rest⟩
theorem OwS.below {w w' : World} {B : Nat} {v : Value} {rows : List (List Int)} (h : OwS w B v rows) (hb : Nx w w') : OwS w' B v rows := by
  obtain ⟨xs, h1, h2⟩ := h
  refine ⟨xs, ⟨h1.1, ?_⟩, h2⟩
  rcases h1.2 with h | ⟨g, cap, cur, e, hB, hg, rest⟩
  · exact .inl h
  · exact .inr ⟨g, cap, cur, e, hB, (hb.block g (lt_of_block hg)).trans hg, rest⟩
theorem OwS.reads {w : World} {B : Nat} {v : Value} {rows : List (List Int)} (h : OwS w B v rows) : RdS w v rows := by
  obtain ⟨xs, h1, h2⟩ := h
  have h0 := h1
  rcases h1.2 with ⟨rfl, he⟩ | ⟨g, cap, cur, rfl, hB, hg, h3, h4, _, _⟩
  · have hr : rows = [] := List.eq_nil_of_length_eq_zero he
    subst hr
    exact ⟨none, 0, by simp, rfl, fun h => absurd h (by simp)⟩
  · refine ⟨_, cap, h3, rfl, fun _ => ⟨g, 0, rfl, lt_of_block hg, fun k j hk hj => ?_⟩⟩
    rw [Nat.zero_add]
    exact (World.ownsRow.cellAt h0 (k * 4 + j) (by omega)).trans (h2 k j hk hj)
theorem fd_snoc_lt {rows : List (List Int)} {r : List Int} {k j : Nat} (h : k < rows.length) : fd (rows ++ [r]) k j = fd rows k j := by simp [fd, List.getElem?_append_left h]
theorem fd_snoc_eq {rows : List (List Int)} {r : List Int} {k j : Nat} (h : k = rows.length) : fd (rows ++ [r]) k j = gt r j := by subst h; simp [fd]
theorem cell_four_new (w : World) (x y z u0 : Value) (t : TypeId) : ∀ j u, [x, y, z, u0][j]? = some u → (w.alloc (.cells #[x, y, z, u0] t)).cell? ((⟨w.heap.size, 0, none⟩ : Addr).add j) = some u := by
  intro j u hj
  match j, hj with
  | 0, hj => simp at hj; subst hj; simp [Addr.add]
  | 1, hj => simp at hj; subst hj; simp [Addr.add]
  | 2, hj => simp at hj; subst hj; simp [Addr.add]
  | 3, hj => simp at hj; subst hj; simp [Addr.add]
/-- append of one fade. -/
theorem wpList_pushF {ops : Array Oper} {rest : List Oper} {o : Oper} {a : Act} {Q : Exit → Act → World → Prop} (hgd : o.guard = none) (s x : Operand)
    (ho : o.op = .call { callee := .builtin .append, args := #[s, x], argTypes := #[25, 25] })
    (w : World) (B : Nat) (v : Value) (rows : List (List Int)) (a0 a1 a2 a3 : Int) (hs : a.eval s = v) (hx : a.eval x = .slice (some ⟨w.heap.size, 0, none⟩) 1 1)
    (hown : OwS w B v rows) (hl : rows.length ≤ 16777216) (hB : B ≤ w.heap.size)
    (h : ∀ v' w', OwS w' B v' (rows ++ [[a0, a1, a2, a3]]) → w.grownBy w' v.ownBlock → wpList Try.prog ops Q rest (a.put o.dst v') w') :
    wpList Try.prog ops Q (o :: rest) a (w.alloc (.cells #[.int .i64 a0, .int .i64 a1, .int .i64 a2, .int .i64 a3] 38)) := by
  obtain ⟨i0, hi, hz0, hz1, hz2⟩ := info_parts FadeInfo
  obtain ⟨xs, h1, h2⟩ := hown
  have hxl : xs.length = rows.length * 4 := h1.1
  refine wpList_append_own_at (P := Try.prog) (w.alloc (.cells #[.int .i64 a0, .int .i64 a1, .int .i64 a2, .int .i64 a3] 38)) hgd s x 25 ho B 38 i0 (.agg #[.int .i64 0, .int .i64 0, .int .i64 0, .int .i64 0]) 4 32 Try.underlying25 hi hz0 hz1 hz2 rfl (by decide) v rows.length xs hs (World.ownsRow.alloc h1 _) ⟨w.heap.size, 0, none⟩ 1 1 [.int .i64 a0, .int .i64 a1, .int .i64 a2, .int .i64 a3] hx rfl (cell_four_new _ _ _ _ _ _) ?_ ?_ ?_ ?_ ?_
  · intro u hu
    simp at hu
    rcases hu with rfl | rfl | rfl | rfl <;> rfl
  · unfold maxLen; omega
  · omega
  · simp; omega
  · intro v' w' hown' hg _ hat
    refine h v' w' ⟨xs ++ [.int .i64 a0, .int .i64 a1, .int .i64 a2, .int .i64 a3], by rw [List.length_append]; exact hown', fun k j hk hj => ?_⟩ (grownBy_of_alloc hg)
    rw [List.length_append, List.length_singleton] at hk
    rcases Nat.lt_or_ge k rows.length with h5 | h5
    · rw [fd_snoc_lt h5, List.getElem?_append_left (by omega)]
      exact h2 k j h5 hj
    · obtain rfl : k = rows.length := by omega
      rw [fd_snoc_eq rfl, List.getElem?_append_right (by omega), show rows.length * 4 + j - xs.length = j by omega]
      have : j = 0 ∨ j = 1 ∨ j = 2 ∨ j = 3 := by omega
      rcases this with rfl | rfl | rfl | rfl <;> rfl
/-- fades while they are drawn: es holds when each lamp's last fade ends. -/
structure FdI (rows : List (List Int)) (es : List Int) (k : Nat) : Prop where
  len : rows.length = k
  el : es.length = 8
  eb : ∀ l, l < 8 → 0 ≤ gt es l ∧ gt es l ≤ 19 * (k : Int)
  ok : ∀ i, i < k → (0 ≤ fd rows i 0 ∧ fd rows i 0 ≤ 2) ∧ 0 ≤ fd rows i 1 ∧ fd rows i 1 ≤ fd rows i 2 ∧ fd rows i 2 ≤ gt es (fd rows i 0).toNat ∧ 0 ≤ fd rows i 3 ∧ fd rows i 3 ≤ 100
  cl : ∀ i j, i < j → j < k → fd rows i 0 = fd rows j 0 → fd rows i 2 ≤ fd rows j 1
theorem FdI.start : FdI [] (List.replicate 8 0) 0 :=
  ⟨rfl, by simp, fun l hl => by
    have e : gt (List.replicate 8 0) l = 0 := by
      have : l = 0 ∨ l = 1 ∨ l = 2 ∨ l = 3 ∨ l = 4 ∨ l = 5 ∨ l = 6 ∨ l = 7 := by omega
      rcases this with rfl | rfl | rfl | rfl | rfl | rfl | rfl | rfl <;> rfl
    rw [e]; omega, fun i hi => absurd hi (by omega), fun i j _ hj => absurd hj (by omega)⟩
theorem FdI.snoc {rows : List (List Int)} {es : List Int} {k : Nat} (h : FdI rows es k) {l : Nat} (hl : l ≤ 2) {x y z : Int} (hx : 0 ≤ x ∧ x ≤ 5) (hy : 0 ≤ y ∧ y ≤ 14) (hz : 0 ≤ z ∧ z ≤ 100) :
    FdI (rows ++ [[(l : Int), gt es l + x, gt es l + x + y, z]]) (es.set l (gt es l + x + y)) (k + 1) := by
  have hel := h.el
  have hbl := h.eb l (by omega)
  have hlen := h.len
  have e0 : ∀ j, fd (rows ++ [[(l : Int), gt es l + x, gt es l + x + y, z]]) k j = gt [(l : Int), gt es l + x, gt es l + x + y, z] j := fun j => fd_snoc_eq hlen.symm
  have e1 : ∀ i j, i < k → fd (rows ++ [[(l : Int), gt es l + x, gt es l + x + y, z]]) i j = fd rows i j := fun i j hi => fd_snoc_lt (by omega)
  have c0 : gt [(l : Int), gt es l + x, gt es l + x + y, z] 0 = (l : Int) := rfl
  have c1 : gt [(l : Int), gt es l + x, gt es l + x + y, z] 1 = gt es l + x := rfl
  have c2 : gt [(l : Int), gt es l + x, gt es l + x + y, z] 2 = gt es l + x + y := rfl
  have c3 : gt [(l : Int), gt es l + x, gt es l + x + y, z] 3 = z := rfl
  refine ⟨by rw [List.length_append, List.length_singleton]; omega, by rw [List.length_set]; exact hel, fun j hj => ?_, fun i hi => ?_, fun i j hij hj he => ?_⟩
  · have := h.eb j hj
    by_cases e : j = l
    · subst e
      rw [gt_set_same (by omega)]
      omega
    · rw [gt_set_other e]
      omega
  · rcases Nat.lt_or_ge i k with h1 | h1
    · have hi' := h.ok i h1
      rw [e1 i 0 h1, e1 i 1 h1, e1 i 2 h1, e1 i 3 h1]
      refine ⟨hi'.1, hi'.2.1, hi'.2.2.1, ?_, hi'.2.2.2.2⟩
      by_cases e : (fd rows i 0).toNat = l
      · rw [e, gt_set_same (by omega)]
        have := hi'.2.2.2.1
        rw [e] at this
        omega
      · rw [gt_set_other e]
        exact hi'.2.2.2.1
    · obtain rfl : i = k := by omega
      rw [e0 0, e0 1, e0 2, e0 3, c0, c1, c2, c3, Int.toNat_natCast, gt_set_same (by omega)]
      omega
  · rcases Nat.lt_or_ge j k with h1 | h1
    · rw [e1 i 0 (by omega), e1 j 0 h1] at he
      rw [e1 i 2 (by omega), e1 j 1 h1]
      exact h.cl i j hij h1 he
    · obtain rfl : j = k := by omega
      rw [e1 i 0 hij, e0 0, c0] at he
      rw [e1 i 2 hij, e0 1, c1]
      have := (h.ok i hij).2.2.2.1
      rw [he, Int.toNat_natCast] at this
      omega
theorem FdI.fades {rows : List (List Int)} {es : List Int} {k : Nat} (h : FdI rows es k) (hk : k ≤ 20) : fadesOk rows = true := by
  have hlen := h.len
  refine fadesOk_of (by omega) (fun i hi => ?_) fun i j hij hj he => h.cl i j hij (by omega) he
  have h1 := h.ok i (by omega)
  have h2 := (h.eb (fd rows i 0).toNat (by omega)).2
  exact fdOk_iff.2 ⟨by omega, by omega, by omega, by omega⟩

end Go.Proofs.Ytiibegilolijlaa
