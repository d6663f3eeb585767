/- BestTour: a step of append. -/
import Derived.Test.YtemijekdcifncaaBtV
import Derived.Deep.AppendLies
import Derived.WalkKit
import Derived.ProofKit
import Derived.Handy
import Derived.OpenShut
import Derived.ShutString
import Derived.ChangeOld
import Derived.Below
import Derived.BigQuiet
import Derived.Deep.QuietTactic
import Derived.Deep.Draws
import Derived.Deep.DeepCutAuto
import Derived.Deep.DeepFit
import Derived.Deep.LoopGhost
import Derived.Outline
import Derived.WalkSpells
import Derived.WalkLawsBesides
import Derived.WalkSmall
import Derived.Laws.OwnMore
import Derived.OneCell
import Derived.Laws.Rows
import Derived.Maps.AppendAt
import Derived.StillTailTactics
import Derived.Lib.SmallJoins
import Derived.Deep.RegionWith
import Derived.Deep.RegionHeld3
import Derived.RegionTactic
import Derived.Deep.Matrix
import Derived.Deep.Fields
import Derived.ChangeSame
namespace Go.Proofs.Ytemijekdcifncaa
open Go.RowKit

theorem run_append_zero {P : Program} {w : World} {base n size : Nat} {e : TypeId} {v : Value} {xs : List Value} (t ty : TypeId) (i : TypeInfo) (ht : P.underlying t = some (.slice e)) (hi : P.info? e = some i)
    (hown : w.ownsRow base e size v n xs) (A : Option Addr) (c : Nat) : (Builtin.append_ #[t, t] ty #[v, .slice A 0 c]).run P w = .ok v w := by
  rcases A with _ | ad
  · exact run_append_nil t ty i ht hi hown c
  · rcases hown.2 with ⟨rfl, rfl⟩ | ⟨g, cap, cur, rfl, _, _, hnc, _⟩
    · simp [Builtin.append_, run_underlying ht, sizeOf, typeInfo, hi, Builtin.lenOf, Builtin.firstCells, loadCells, loadCellsFrom]
    · simp [Builtin.append_, run_underlying ht, sizeOf, typeInfo, hi, Builtin.lenOf, Builtin.firstCells, hnc, storeCells, loadCells, loadCellsFrom]
/-- append of all numbers of a slice to a row of the program's own, as one step of a region that draws. -/
theorem step_joinI {ops : Array Oper} {o : Oper} {a : Act} {K : Act → World → Prop} {Q : Exit → Act → World → Prop} {E : Prop} (hgd : o.guard = none) (s x : Operand)
    (ho : o.op = .call { callee := .builtin .append, args := #[s, x], argTypes := #[22, 22] })
    (w : World) (B : Nat) (v : Value) (xs : List Int) (u : Value) (zs : List Int) (hs : a.eval s = v) (hx : a.eval x = u)
    (hown : OwI w B v xs) (hr : RdI w u zs) (hl : xs.length + zs.length ≤ 16777216) (hB : B ≤ w.heap.size)
    (h : ∀ v' w', OwI w' B v' (xs ++ zs) → w.grownBy w' v.ownBlock → (v'.ownBlock = v.ownBlock ∨ v'.ownBlock = some w.heap.size) → K (a.put o.dst v') w') :
    if Region.wanted o (yielded ops a.tmps) = true then Oper.wp Try.prog o a w K Q else E := by
  obtain ⟨i0, hi, hz0, hz1, hz2⟩ := info_parts intInfo
  obtain ⟨A, c, rfl, hc⟩ := hr
  by_cases h0 : 0 < zs.length
  · obtain ⟨b, off, rfl, _, hc'⟩ := hc h0
    have hcells : ∀ j u, (zs.map (Value.int .i64))[j]? = some u → w.cell? ((⟨b, off, none⟩ : Addr).add j) = some u := by
      intro j u hu
      have hj : j < zs.length := by
        rcases Nat.lt_or_ge j zs.length with h1 | h1
        · exact h1
        · rw [List.getElem?_eq_none (by simpa using h1)] at hu; cases hu
      rw [add_off, hc' j hj, ← gt_map zs j hj, hu]
    refine step_append_lies (P := Try.prog) w hgd s x 22 ho B 3 i0 (.int .i64 0) 1 8 Try.underlying22 hi hz0 hz1 hz2 rfl (by decide) v xs.length (xs.map (Value.int .i64)) hs hown ⟨b, off, none⟩ zs.length c (zs.map (Value.int .i64)) hx (by simp) hcells ?_ h0 ?_ ?_ hB w.heap.size rfl ?_
    · intro u hu
      obtain ⟨z, _, rfl⟩ := List.mem_map.1 hu
      rfl
    · unfold maxLen; omega
    · omega
    · intro g cap w' hown' hg hat _
      refine h _ w' ?_ hg ?_
      · unfold OwI
        rw [List.length_append, List.map_append]
        exact hown'
      · rcases hat with e | e
        · exact .inl (by rw [e]; rfl)
        · exact .inr (by rw [← e]; rfl)
  · have hz : zs = [] := List.eq_nil_of_length_eq_zero (by omega)
    subst hz
    have hw : Region.wanted o (yielded ops a.tmps) = true := by simp [Region.wanted, hgd]
    rw [if_pos hw]
    have hrun := run_append_zero (P := Try.prog) 22 o.type i0 Try.underlying22 hi hown A c
    unfold Oper.wp execOp
    simp only [ho, resolve, invoke, builtin, Sem.run_bind, Sem.run_pure, Result.andThen_ok, List.map_toArray, List.map_cons, List.map_nil, hs, hx, List.length_nil, hrun]
    exact h v w (by simpa using hown) (World.grownBy.refl w _) (.inl rfl)
theorem Nx.grownG {a b c : World} {g : Nat} (h : Nx a b) (hg : b.grownBy c (some g)) (hB : a.heap.size ≤ g) : Nx a c := Below.grown h hg h.size (fun k hk => by injection hk with e; omega)
theorem rd_one (w : World) (T : TypeId) (x : Int) : RdI (w.alloc (.cells #[.int .i64 x] T)) (.slice (some ⟨w.heap.size, 0, none⟩) 1 1) [x] := by
  refine ⟨_, _, rfl, fun _ => ⟨_, _, rfl, by simp, fun j hj => ?_⟩⟩
  have : j = 0 := by simp at hj; omega
  subst this
  rw [Nat.zero_add, (Blk.new w T _).cell 0]
  rfl
theorem RdI.grown {w w' : World} {g n c : Nat} {zs : List Int} {row : Option Nat} (h : RdI w (.slice (some ⟨g, 0, none⟩) n c) zs) (hg : w.grownBy w' row) (hne : some g ≠ row) (hlt : g < w.heap.size) : RdI w' (.slice (some ⟨g, 0, none⟩) n c) zs := by
  obtain ⟨A, c', e, hx⟩ := h
  refine ⟨A, c', e, fun h0 => ?_⟩
  obtain ⟨b, off, rfl, hb, hc⟩ := hx h0
  injection e with e1 e2 e3
  injection e1 with e1
  injection e1 with e1 e4
  subst e1
  exact ⟨g, off, rfl, Nat.lt_of_lt_of_le hb hg.size, fun j hj => (World.cell?_of_block (hg.block g hlt hne)).trans (hc j hj)⟩
theorem RdI.cells {w : World} {A : Option Addr} {n c : Nat} {zs : List Int} (h : RdI w (.slice A n c) zs) (h0 : 0 < zs.length) : ∃ b off, A = some ⟨b, off, none⟩ ∧ b < w.heap.size ∧ ∀ j, j < zs.length → w.cell? ⟨b, off + j, none⟩ = some (.int .i64 (gt zs j)) := by
  obtain ⟨A', c', e, hx⟩ := h
  injection e with e1 e2 e3
  subst e1
  exact hx h0

/-- '[]int{}', as one step of a region that draws. -/
theorem step_build0 {ops : Array Oper} {o : Oper} {a : Act} {K : Act → World → Prop} {Q : Exit → Act → World → Prop} {E : Prop} (hgd : o.guard = none)
    (ho : o.op = .buildSlice 22 0 #[]) (w : World)
    (h : ∀ v' w', OwI w' w.heap.size v' [] → Nx w w' → K (a.put o.dst v') w') :
    if Region.wanted o (yielded ops a.tmps) = true then Oper.wp Try.prog o a w K Q else E := by
  have hw : Region.wanted o (yielded ops a.tmps) = true := by simp [Region.wanted, hgd]
  rw [if_pos hw]
  have h1 := h _ _ (OwI.made0 w) (Nx.made w _)
  revert h1
  generalize hK : K = K'
  intro h1
  unfold Oper.wp execOp
  simp only [ho]
  go_simp
  exact h1
/-- '[]int{x}', as one step of a region that draws. -/
theorem step_build1 {ops : Array Oper} {o : Oper} {a : Act} {K : Act → World → Prop} {Q : Exit → Act → World → Prop} {E : Prop} (hgd : o.guard = none) (x : Operand)
    (ho : o.op = .buildSlice 22 1 #[(0, x)]) (w : World) (n : Int) (hx : a.eval x = .int .i64 n)
    (h : ∀ g w', g = w.heap.size → RdI w' (.slice (some ⟨g, 0, none⟩) 1 1) [n] → g < w'.heap.size → Nx w w' → K (a.put o.dst (.slice (some ⟨g, 0, none⟩) 1 1)) w') :
    if Region.wanted o (yielded ops a.tmps) = true then Oper.wp Try.prog o a w K Q else E := by
  have hw : Region.wanted o (yielded ops a.tmps) = true := by simp [Region.wanted, hgd]
  rw [if_pos hw]
  have h1 := h _ _ rfl (rd_one w 3 n) (by simp) (Nx.made w _)
  revert h1
  generalize hK : K = K'
  intro h1
  unfold Oper.wp execOp
  simp only [ho, List.map_toArray, List.map_cons, List.map_nil, hx]
  go_simp
  exact h1

end Go.Proofs.Ytemijekdcifncaa
