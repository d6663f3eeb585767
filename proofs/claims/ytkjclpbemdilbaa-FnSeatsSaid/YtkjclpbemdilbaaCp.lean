/- Copies of rows: the words. -/
import Derived.Test.YtkjclpbemdilbaaMrk
import Derived.WalkKit
import Derived.ProofKit
import Derived.Handy
import Derived.OpenShut
import Derived.ShutString
import Derived.ChangeOld
import Derived.Below
import Derived.BigQuiet
import Derived.Deep.QuietTactic
import Derived.Deep.Draws
import Derived.Deep.DeepCutAuto
import Derived.Deep.DeepFit
import Derived.Deep.LoopGhost
import Derived.Outline
import Derived.WalkSpells
import Derived.WalkLawsBesides
import Derived.WalkSmall
import Derived.Laws.OwnMore
import Derived.OneCell
import Derived.Laws.Rows
import Derived.Maps.AppendAt
import Derived.StillTailTactics
import Derived.Lib.SmallJoins
import Derived.Deep.RegionWith
import Derived.Deep.RegionHeld3
import Derived.RegionTactic
import Derived.Deep.Matrix
import Derived.Deep.Fields
import Derived.ChangeSame
namespace Go.Proofs.Ytkjclpbemdilbaa
open Go.RowKit

theorem run_append_nil {P : Program} {w : World} {base n size : Nat} {e : TypeId} {v : Value} {xs : List Value} (t ty : TypeId) (i : TypeInfo) (ht : P.underlying t = some (.slice e)) (hi : P.info? e = some i)
    (hown : w.ownsRow base e size v n xs) (c : Nat) : (Builtin.append_ #[t, t] ty #[v, .slice none 0 c]).run P w = .ok v w := by
  rcases hown.2 with ⟨rfl, rfl⟩ | ⟨g, cap, cur, rfl, _, _, hnc, _⟩
  · simp [Builtin.append_, run_underlying ht, sizeOf, typeInfo, hi, Builtin.lenOf, Builtin.firstCells]
  · simp [Builtin.append_, run_underlying ht, sizeOf, typeInfo, hi, Builtin.lenOf, Builtin.firstCells, hnc, storeCells]
/-- append of all numbers of a slice to a row of the program's own. -/
theorem wpList_joinI {ops : Array Oper} {rest : List Oper} {o : Oper} {a : Act} {Q : Exit → Act → World → Prop} (hgd : o.guard = none) (s x : Operand)
    (ho : o.op = .call { callee := .builtin .append, args := #[s, x], argTypes := #[36, 36] })
    (w : World) (B : Nat) (v : Value) (xs : List Int) (u : Value) (zs : List Int) (hs : a.eval s = v) (hx : a.eval x = u)
    (hown : OwI w B v xs) (hr : RdI w u zs) (hl : xs.length + zs.length ≤ 16777216) (hB : B ≤ w.heap.size)
    (h : ∀ v' w', OwI w' B v' (xs ++ zs) → w.grownBy w' v.ownBlock → (v'.ownBlock = v.ownBlock ∨ v'.ownBlock = some w.heap.size) → wpList Try.prog ops Q rest (a.put o.dst v') w') :
    wpList Try.prog ops Q (o :: rest) a w := by
  obtain ⟨i0, hi, hz0, hz1, hz2⟩ := info_parts intInfo
  obtain ⟨A, c, rfl, hc⟩ := hr
  rcases A with _ | ad
  · have hz : zs = [] := by
      by_cases h0 : 0 < zs.length
      · obtain ⟨b, off, e, _⟩ := hc h0
        cases e
      · exact List.eq_nil_of_length_eq_zero (by omega)
    subst hz
    refine wpList_plain hgd fun K hK => ?_
    have hrun := run_append_nil (P := Try.prog) 36 o.type i0 Try.underlying36 hi hown c
    unfold Oper.wp execOp
    simp only [ho, resolve, invoke, builtin, Sem.run_bind, Sem.run_pure, Result.andThen_ok, List.map_toArray, List.map_cons, List.map_nil, hs, hx, List.length_nil, hrun]
    exact hK _ _ (h v w (by simpa using hown) (World.grownBy.refl w _) (.inl rfl))
  · have hcells : ∀ j u, (zs.map (Value.int .i64))[j]? = some u → w.cell? (ad.add j) = some u := by
      intro j u hu
      by_cases h0 : 0 < zs.length
      · obtain ⟨b, off, e, _, hc'⟩ := hc h0
        cases e
        have hj : j < zs.length := by
          rcases Nat.lt_or_ge j zs.length with h1 | h1
          · exact h1
          · rw [List.getElem?_eq_none (by simpa using h1)] at hu; cases hu
        rw [add_off, hc' j hj, ← gt_map zs j hj, hu]
      · have hz : zs = [] := List.eq_nil_of_length_eq_zero (by omega)
        subst hz
        simp at hu
    refine wpList_append_own_at (P := Try.prog) w hgd s x 36 ho B 3 i0 (.int .i64 0) 1 8 Try.underlying36 hi hz0 hz1 hz2 rfl (by decide) v xs.length (xs.map (Value.int .i64)) hs hown ad zs.length c (zs.map (Value.int .i64)) hx (by simp) hcells ?_ ?_ ?_ hB ?_
    · intro u hu
      obtain ⟨z, _, rfl⟩ := List.mem_map.1 hu
      rfl
    · unfold maxLen; omega
    · omega
    · intro v' w' hown' hg _ hat
      refine h v' w' ?_ hg hat
      unfold OwI
      rw [List.length_append, List.map_append]
      exact hown'

theorem vAt_snoc_lt {rs : List Value} {r : Value} {i : Nat} (h : i < rs.length) : vAt (rs ++ [r]) i = vAt rs i := by simp [vAt, List.getElem?_append_left h]
theorem vAt_snoc_eq {rs : List Value} {r : Value} {i : Nat} (h : i = rs.length) : vAt (rs ++ [r]) i = r := by subst h; simp [vAt]
theorem rowAt_snoc_lt {rows : List (List Int)} {r : List Int} {i : Nat} (h : i < rows.length) : rowAt (rows ++ [r]) i = rowAt rows i := by simp [rowAt, List.getElem?_append_left h]
theorem rowAt_snoc_eq {rows : List (List Int)} {r : List Int} {i : Nat} (h : i = rows.length) : rowAt (rows ++ [r]) i = r := by subst h; simp [rowAt]
theorem OwI.oneCell {w : World} {B : Nat} {v : Value} {zs : List Int} (h : OwI w B v zs) : v.oneCell' = true := by
  rcases h.form with ⟨rfl, _⟩ | ⟨g, cap, rfl, _⟩ <;> rfl
theorem OwM.base {w : World} {B : Nat} {v : Value} {rows : List (List Int)} (h : OwM w B v rows) : ∀ k, v.ownBlock = some k → B ≤ k := by
  obtain ⟨_, rs, h1, _⟩ := h
  exact fun k hk => (World.ownsRow.lt h1 k hk).1
/-- append of one row, made later, to rows of the program's own. -/
theorem wpList_pushM {ops : Array Oper} {rest : List Oper} {o : Oper} {a : Act} {Q : Exit → Act → World → Prop} (hgd : o.guard = none) (s x : Operand)
    (ho : o.op = .call { callee := .builtin .append, args := #[s, x], argTypes := #[22, 22] })
    (w0 w : World) (B : Nat) (v : Value) (rows : List (List Int)) (r : Value) (zs : List Int) (hs : a.eval s = v) (hx : a.eval x = .slice (some ⟨w.heap.size, 0, none⟩) 1 1)
    (hown : OwM w0 B v rows) (hb : Nx w0 w) (hr : OwI w w0.heap.size r zs) (hl : rows.length ≤ 16777216) (hB : B ≤ w0.heap.size)
    (h : ∀ v' w', OwM w' B v' (rows ++ [zs]) → w.grownBy w' v.ownBlock → wpList Try.prog ops Q rest (a.put o.dst v') w') :
    wpList Try.prog ops Q (o :: rest) a (w.alloc (.cells #[r] 36)) := by
  obtain ⟨i0, hi, hz0, hz1, hz2⟩ := info_parts rowsInfo
  obtain ⟨_, rs, h1, h2, h3, h4⟩ := hown
  have hrl : rs.length = rows.length := by have := h1.1; simpa using this
  have hsz := hb.size
  refine wpList_append_own_at (P := Try.prog) (w.alloc (.cells #[r] 36)) hgd s x 22 ho B 36 i0 (.slice none 0 0) 1 24 Try.underlying22 hi hz0 hz1 hz2 rfl (by decide) v rows.length rs hs (World.ownsRow.alloc (owns_below h1 hb) _) ⟨w.heap.size, 0, none⟩ 1 1 [r] hx rfl (cell_one_new _ _ _) ?_ ?_ ?_ ?_ ?_
  · intro u hu; simp at hu; subst hu; exact hr.oneCell
  · unfold maxLen; omega
  · omega
  · simp; omega
  · intro v' w' hown' hg _ hat
    have hat' : v'.ownBlock = v.ownBlock ∨ v'.ownBlock = some (w.heap.size + 1) := by
      rcases hat with e | e
      · exact .inl e
      · exact .inr (by rw [e]; simp)
    have hrv : Apart r v := fun g h5 h6 => by
      have := (own_lt hr h5).1
      have := (World.ownsRow.lt h1 g h6).2
      omega
    have hrj : ∀ j, j < rows.length → Apart r (vAt rs j) := fun j hj g h5 h6 => by
      have := (own_lt hr h5).1
      have := (own_lt (h2 j hj) h6).2
      omega
    have keep : ∀ {u : Value} {ys : List Int} {B' : Nat}, OwI w B' u ys → Apart u v → OwI w' B' u ys := fun ho ha => (own_alloc ho _).kept hg ha.ne
    have apv : ∀ {u : Value} {ys : List Int} {B' : Nat}, OwI w B' u ys → Apart u v → Apart u v' := fun ho ha g h5 h6 => by
      rcases hat' with e | e
      · exact ha g h5 (e.symm.trans h6)
      · rw [e] at h6
        injection h6 with h6
        have := (own_lt ho h5).2
        omega
    refine h v' w' ⟨rfl, rs ++ [r], by rw [List.length_append]; exact hown', fun i hi => ?_, fun i hi => ?_, fun i j hij hj => ?_⟩ (grownBy_of_alloc hg)
    · rw [List.length_append, List.length_singleton] at hi
      rcases Nat.lt_or_ge i rows.length with h5 | h5
      · rw [vAt_snoc_lt (by omega), rowAt_snoc_lt h5]
        exact keep ((h2 i h5).below hb) (h3 i h5)
      · rw [vAt_snoc_eq (by omega), rowAt_snoc_eq (by omega)]
        exact (keep hr hrv).mono hB
    · rw [List.length_append, List.length_singleton] at hi
      rcases Nat.lt_or_ge i rows.length with h5 | h5
      · rw [vAt_snoc_lt (by omega)]
        exact apv ((h2 i h5).below hb) (h3 i h5)
      · rw [vAt_snoc_eq (by omega)]
        exact apv hr hrv
    · rw [List.length_append, List.length_singleton] at hj
      rcases Nat.lt_or_ge j rows.length with h5 | h5
      · rw [vAt_snoc_lt (by omega), vAt_snoc_lt (by omega)]
        exact h4 i j hij h5
      · rw [vAt_snoc_lt (by omega), vAt_snoc_eq (by omega)]
        exact (hrj i (by omega)).symm
theorem OwM.made0 (w : World) : OwM (w.alloc (.cells #[] 36)) w.heap.size (.slice (some ⟨w.heap.size, 0, none⟩) 0 0) [] :=
  ⟨rfl, [], World.ownsRow_made w #[] 0 (Nat.le_refl _) (by unfold maxLen; omega) rfl, fun i hi => absurd hi (by simp), fun i hi => absurd hi (by simp), fun i j _ hj => absurd hj (by simp)⟩

end Go.Proofs.Ytkjclpbemdilbaa
