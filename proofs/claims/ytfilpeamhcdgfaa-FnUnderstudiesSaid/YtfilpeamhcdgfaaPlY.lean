/- Players: copies. -/
import Derived.Test.YtfilpeamhcdgfaaCsW
import Derived.Deep.AppendLies
import Derived.WalkKit
import Derived.ProofKit
import Derived.Handy
import Derived.OpenShut
import Derived.ShutString
import Derived.ChangeOld
import Derived.Below
import Derived.BigQuiet
import Derived.Deep.QuietTactic
import Derived.Deep.Draws
import Derived.Deep.DeepCutAuto
import Derived.Deep.DeepFit
import Derived.Deep.LoopGhost
import Derived.Outline
import Derived.WalkSpells
import Derived.WalkLawsBesides
import Derived.WalkSmall
import Derived.Laws.OwnMore
import Derived.OneCell
import Derived.Laws.Rows
import Derived.Maps.AppendAt
import Derived.StillTailTactics
import Derived.Lib.SmallJoins
import Derived.Deep.RegionWith
import Derived.Deep.RegionHeld3
import Derived.RegionTactic
import Derived.Deep.Matrix
import Derived.Deep.Fields
import Derived.ChangeSame
namespace Go.Proofs.Ytfilpeamhcdgfaa
open Go.RowKit

theorem run_append_zero {P : Program} {w : World} {base n size : Nat} {e : TypeId} {v : Value} {xs : List Value} (t ty : TypeId) (i : TypeInfo) (ht : P.underlying t = some (.slice e)) (hi : P.info? e = some i)
    (hown : w.ownsRow base e size v n xs) (A : Option Addr) (c : Nat) : (Builtin.append_ #[t, t] ty #[v, .slice A 0 c]).run P w = .ok v w := by
  rcases A with _ | ad
  · exact run_append_nil t ty i ht hi hown c
  · rcases hown.2 with ⟨rfl, rfl⟩ | ⟨g, cap, cur, rfl, _, _, hnc, _⟩
    · simp [Builtin.append_, run_underlying ht, sizeOf, typeInfo, hi, Builtin.lenOf, Builtin.firstCells, loadCells, loadCellsFrom]
    · simp [Builtin.append_, run_underlying ht, sizeOf, typeInfo, hi, Builtin.lenOf, Builtin.firstCells, hnc, storeCells, loadCells, loadCellsFrom]
/-- append of all numbers of a slice to a row of the program's own, as one step of a region that draws. -/
theorem step_joinI {ops : Array Oper} {o : Oper} {a : Act} {K : Act → World → Prop} {Q : Exit → Act → World → Prop} {E : Prop} (hgd : o.guard = none) (s x : Operand)
    (ho : o.op = .call { callee := .builtin .append, args := #[s, x], argTypes := #[23, 23] })
    (w : World) (B : Nat) (v : Value) (xs : List Int) (u : Value) (zs : List Int) (hs : a.eval s = v) (hx : a.eval x = u)
    (hown : OwI w B v xs) (hr : RdI w u zs) (hl : xs.length + zs.length ≤ 16777216) (hB : B ≤ w.heap.size)
    (h : ∀ v' w', OwI w' B v' (xs ++ zs) → w.grownBy w' v.ownBlock → (v'.ownBlock = v.ownBlock ∨ v'.ownBlock = some w.heap.size) → K (a.put o.dst v') w') :
    if Region.wanted o (yielded ops a.tmps) = true then Oper.wp Try.prog o a w K Q else E := by
  obtain ⟨i0, hi, hz0, hz1, hz2⟩ := info_parts intInfo
  obtain ⟨A, c, rfl, hc⟩ := hr
  by_cases h0 : 0 < zs.length
  · obtain ⟨b, off, rfl, _, hc'⟩ := hc h0
    have hcells : ∀ j u, (zs.map (Value.int .i64))[j]? = some u → w.cell? ((⟨b, off, none⟩ : Addr).add j) = some u := by
      intro j u hu
      have hj : j < zs.length := by
        rcases Nat.lt_or_ge j zs.length with h1 | h1
        · exact h1
        · rw [List.getElem?_eq_none (by simpa using h1)] at hu; cases hu
      rw [add_off, hc' j hj, ← gt_map zs j hj, hu]
    refine step_append_lies (P := Try.prog) w hgd s x 23 ho B 3 i0 (.int .i64 0) 1 8 Try.underlying23 hi hz0 hz1 hz2 rfl (by decide) v xs.length (xs.map (Value.int .i64)) hs hown ⟨b, off, none⟩ zs.length c (zs.map (Value.int .i64)) hx (by simp) hcells ?_ h0 ?_ ?_ hB w.heap.size rfl ?_
    · intro u hu
      obtain ⟨z, _, rfl⟩ := List.mem_map.1 hu
      rfl
    · unfold maxLen; omega
    · omega
    · intro g cap w' hown' hg hat _
      refine h _ w' ?_ hg ?_
      · unfold OwI
        rw [List.length_append, List.map_append]
        exact hown'
      · rcases hat with e | e
        · exact .inl (by rw [e]; rfl)
        · exact .inr (by rw [← e]; rfl)
  · have hz : zs = [] := List.eq_nil_of_length_eq_zero (by omega)
    subst hz
    have hw : Region.wanted o (yielded ops a.tmps) = true := by simp [Region.wanted, hgd]
    rw [if_pos hw]
    have hrun := run_append_zero (P := Try.prog) 23 o.type i0 Try.underlying23 hi hown A c
    unfold Oper.wp execOp
    simp only [ho, resolve, invoke, builtin, Sem.run_bind, Sem.run_pure, Result.andThen_ok, List.map_toArray, List.map_cons, List.map_nil, hs, hx, List.length_nil, hrun]
    exact h v w (by simpa using hown) (World.grownBy.refl w _) (.inl rfl)

/-- append of one player, in a block made later, as one step of a region that draws. -/
theorem step_pushP {ops : Array Oper} {o : Oper} {a : Act} {K : Act → World → Prop} {Q : Exit → Act → World → Prop} {E : Prop} (hgd : o.guard = none) (s x : Operand)
    (ho : o.op = .call { callee := .builtin .append, args := #[s, x], argTypes := #[26, 26] })
    (w0 w : World) (B : Nat) (v : Value) (ps : List Plr) (r : Value) (zs : List Int) (f : Int) (hs : a.eval s = v) (hx : a.eval x = .slice (some ⟨w.heap.size, 0, none⟩) 1 1)
    (hown : OwP w0 B v ps) (hb : Nx w0 w) (hr : OwI w w0.heap.size r zs) (hl : ps.length ≤ 16777216) (hB : B ≤ w0.heap.size)
    (h : ∀ v' w', OwP w' B v' (ps ++ [(zs, f)]) → w.grownBy w' v.ownBlock → K (a.put o.dst v') w') :
    if Region.wanted o (yielded ops a.tmps) = true then Oper.wp Try.prog o a (w.alloc (.cells #[r, .int .i64 f] 44)) K Q else E := by
  obtain ⟨i0, hi, hz0, hz1, hz2⟩ := info_parts playerInfo
  obtain ⟨_, xs, rs, h1, h2, h3⟩ := hown
  have hsz := hb.size
  have hxl : xs.length = ps.length * 2 := h1.1
  refine step_append_lies (P := Try.prog) (w.alloc (.cells #[r, .int .i64 f] 44)) hgd s x 26 ho B 44 i0 (.agg #[.slice none 0 0, .int .i64 0]) 2 32 Try.underlying26 hi hz0 hz1 hz2 rfl (by decide) v ps.length xs hs (World.ownsRow.alloc (owns_below h1 hb) _) ⟨w.heap.size, 0, none⟩ 1 1 [r, .int .i64 f] hx rfl (cell_two_new _ _ _ _) ?_ (by decide) ?_ ?_ ?_ _ rfl ?_
  · intro u hu
    simp at hu
    rcases hu with rfl | rfl
    · exact hr.oneCell
    · rfl
  · unfold maxLen; omega
  · omega
  · simp; omega
  · intro g cap w' hown' hg _ _
    have hrj : ∀ j, j < ps.length → Apart r (rs j) := fun j hj g h5 h6 => by
      have := (own_lt hr h5).1
      have := (own_lt (h2 j hj).2.2 h6).2
      omega
    have keep : ∀ {u : Value} {ys : List Int} {B' : Nat}, OwI w B' u ys → OwI w' B' u ys := fun ho => (own_alloc ho (.cells #[r, .int .i64 f] 44)).kept hg (own_types (own_alloc ho (.cells #[r, .int .i64 f] 44)) (World.ownsRow.alloc (owns_below h1 hb) (.cells #[r, .int .i64 f] 44)) (by decide)).ne
    refine h _ w' ⟨rfl, xs ++ [r, .int .i64 f], fun k => if k < ps.length then rs k else r, by rw [List.length_append]; exact hown', fun k hk => ?_, fun i j hij hj => ?_⟩ (grownBy_of_alloc hg)
    · rw [List.length_append, List.length_singleton] at hk
      rcases Nat.lt_or_ge k ps.length with h5 | h5
      · obtain ⟨e1, e2, e3⟩ := h2 k h5
        dsimp only
        rw [if_pos h5, kn_snoc_lt h5, fr_snoc_lt h5, List.getElem?_append_left (by omega), List.getElem?_append_left (by omega)]
        exact ⟨e1, e2, keep (e3.below hb)⟩
      · obtain rfl : k = ps.length := by omega
        dsimp only
        rw [if_neg (by omega), kn_snoc_eq rfl, fr_snoc_eq rfl, ← hxl, List.getElem?_append_right (by omega), List.getElem?_append_right (by omega)]
        refine ⟨by simp, by simp, (keep hr).mono hB⟩
    · rw [List.length_append, List.length_singleton] at hj
      dsimp only
      rw [if_pos (by omega)]
      rcases Nat.lt_or_ge j ps.length with h5 | h5
      · rw [if_pos h5]
        exact h3 i j hij h5
      · rw [if_neg (by omega)]
        exact (hrj i (by omega)).symm
theorem Nx.onlyP {a b c : World} {B : Nat} {v : Value} (h : Nx a b) (ho : ∀ k, v.ownBlock = some k → B ≤ k) (hg : b.grownBy c v.ownBlock) (hB : a.heap.size ≤ B) : Nx a c :=
  Below.grown h hg h.size (fun k hk => Nat.le_trans hB (ho k hk))
theorem OwP.lt {w : World} {B : Nat} {v : Value} {ps : List Plr} (h : OwP w B v ps) : ∀ g, v.ownBlock = some g → B ≤ g ∧ g < w.heap.size := by
  obtain ⟨_, xs, rs, h1, _⟩ := h
  exact fun g hg => World.ownsRow.lt h1 g hg
set_option maxHeartbeats 4000000 in
theorem copyPlayers_any (v : Value) (ps : List Plr) (w : World) (h : RdP w v ps) (hl : FitP ps) :
    Calls Try.prog 39 #[v] w fun e w' => ∃ u, e = .returned u ∧ OwP w' w.heap.size u ps ∧ Nx w w' := by
  obtain ⟨A, c, rfl, hx⟩ := h
  have hn := hl.1
  have hrow := hide (fun i hi => hl.row (k := i) hi)
  have Hx := hide hx
  have G := hide (And.intro (OwP.made0 w) (Nx.made w (.cells #[] 44)))
  clear hx hl
  go_enter Try.func39, Try.ntmps39
  go_wp2_with fail
  go_loopw [3, 9] (fun u i wr => ∃ k : Nat, k ≤ ps.length ∧ i = .int .i64 k ∧ OwP wr w.heap.size u (ps.take k) ∧ Nx w wr) (fun _ i _ => ps.length - (intOf i).toNat)
  case atStart => exact ⟨0, Nat.zero_le _, rfl, G.out.1, G.out.2⟩
  case round =>
    clear G
    obtain ⟨k, hk, rfl, hown, hb⟩ := hrel
    by_cases hlt : k < ps.length
    · obtain ⟨b0, off, rfl, hb0, hc⟩ := Hx.out (by omega)
      obtain ⟨⟨A1, c1, hk0, hrk⟩, hf0⟩ := hc k hlt
      have q0 := (hb.cells b0 (off + k * 2) hb0).trans hk0
      have q1 := (hb.cells b0 (off + k * 2 + 1) hb0).trans hf0
      have hki : (k : Int) < (ps.length : Int) := by omega
      have hstep := hide (take_pl hlt)
      have htl : (ps.take k).length ≤ 16777216 := by rw [List.length_take]; omega
      have hz1 := hb.size
      have bN := hide (Blk.new wr 44 #[.slice A1 (kn ps k).length c1, .int .i64 (fr ps k)])
      have NA := Nx.made wr (.cells #[.slice A1 (kn ps k).length c1, .int .i64 (fr ps k)] 44)
      have Hown := hide (hown.below NA)
      have Hno := hide (fun e => by have := (hown.lt wr.heap.size e).2; omega : _ ≠ some wr.heap.size)
      have Hb := hide (hb.trans NA)
      have HR := hide ((hrk.below hb).below NA)
      have hz2 := Hb.out.size
      clear hc hk0 hrk hf0 hown hb NA
      go_upto_region 5 with (fail)
      clear q0 q1 hz1
      generalize World.alloc _ _ = w1 at bN Hown Hb HR hz2 ⊢
      have HN := hide (fun (w' : World) (bq : Nx w1 w') => (⟨Hb.out.trans bq, (bN.out.below bq).cell 0, (bN.out.below bq).cell 1⟩ : Nx w w' ∧ w'.cell? ⟨wr.heap.size, 0, none⟩ = some (.slice A1 (kn ps k).length c1) ∧ w'.cell? ⟨wr.heap.size, 1, none⟩ = some (.int .i64 (fr ps k))))
      have Bq := hide (Nx.drew (Below.refl w1.heap.size w1))
      have hrl := hrow.out k hlt
      go_region_held3 (fun w' => Nx w w' ∧ w'.cell? ⟨wr.heap.size, 0, none⟩ = some (.slice A1 (kn ps k).length c1) ∧ w'.cell? ⟨wr.heap.size, 1, none⟩ = some (.int .i64 (fr ps k)))
        (first | exact HN.out _ Bq.out | exact HN.out _ bq.out | exact HN.out _ (Nx.trans bq.out (Nx.made _ _)) | exact bs)
        (first
          | (go_at_call 54; refine (copyOf_any _ (kn ps k) _ (HR.out.below Bq.out) hrl).mono ?_; rintro e w2 ⟨r, rfl, hr, bn⟩; have bq := hide (Nx.trans Bq.out bn); have hr1 := hide (hr.mono (B' := w1.heap.size) Bq.out.size); obtain ⟨Ar, cr, rfl, _⟩ := hr.open_; clear hr bn)
          | (refine step_pushP (by rfl) _ _ (by rfl) w1 w2 w.heap.size _ (ps.take k) _ (kn ps k) (fr ps k) (by rfl) (by rfl) Hown.out bq.out hr1.out htl hz2 ?_; intro v3 w3 hown3 hg3; have hN3 := (Hb.out.trans bq.out).onlyP Hown.out.base hg3 (Nat.le_refl _); have bs : Nx w w3 ∧ w3.cell? ⟨wr.heap.size, 0, none⟩ = some (.slice A1 (kn ps k).length c1) ∧ w3.cell? ⟨wr.heap.size, 1, none⟩ = some (.int .i64 (fr ps k)) := ⟨hN3, ((bN.out.below bq.out).grown hg3 (Ne.symm Hno.out)).cell 0, ((bN.out.below bq.out).grown hg3 (Ne.symm Hno.out)).cell 1⟩))
      rw [← hstep.out] at hown3
      have HO3 := hide hown3
      have HN3 := hide hN3
      clear hown3 hN3 bs hg3 bq hr1
      go_wp2_with fail
      go_roundw
      case rel => exact ⟨k + 1, by omega, by go_num, HO3.out, HN3.out⟩
      case measure => simp [intOf]; omega
    · obtain rfl : k = ps.length := by omega
      have G := hide (And.intro hown hb)
      clear hown hb
      go_wp2_with fail
      go_ret
      exact ⟨_, rfl, by have := G.out.1; rwa [List.take_length] at this, G.out.2⟩

set_option maxHeartbeats 4000000 in
theorem l17Copy_any (v : Value) (ps : List Plr) (w : World) (h : RdP w v ps) (hl : FitP ps) :
    Calls Try.prog 48 #[v] w fun e w' => ∃ u, e = .returned u ∧ OwP w' w.heap.size u ps ∧ Nx w w' := by
  obtain ⟨A, c, rfl, hx⟩ := h
  have hn := hl.1
  have hrow := hide (fun i hi => hl.row (k := i) hi)
  have Hx := hide hx
  have G := hide (And.intro (OwP.made0 w) (Nx.made w (.cells #[] 44)))
  clear hx hl
  go_enter Try.func48, Try.ntmps48
  go_wp2_with fail
  go_loopw [3, 4] (fun u i wr => ∃ k : Nat, k ≤ ps.length ∧ i = .int .i64 k ∧ OwP wr w.heap.size u (ps.take k) ∧ Nx w wr) (fun _ i _ => ps.length - (intOf i).toNat)
  case atStart => exact ⟨0, Nat.zero_le _, rfl, G.out.1, G.out.2⟩
  case round =>
    clear G
    obtain ⟨k, hk, rfl, hown, hb⟩ := hrel
    by_cases hlt : k < ps.length
    · obtain ⟨b0, off, rfl, hb0, hc⟩ := Hx.out (by omega)
      obtain ⟨⟨A1, c1, hk0, hrk⟩, hf0⟩ := hc k hlt
      have hki : (k : Int) < (ps.length : Int) := by omega
      have hstep := hide (take_pl hlt)
      have htl : (ps.take k).length ≤ 16777216 := by rw [List.length_take]; omega
      have hz2 := hb.size
      have NA := hide (Nx.drew (Nx.made wr (.cells #[] 3)))
      have FA := hide (show OwI (wr.alloc (.cells #[] 3)).drew wr.heap.size (.slice (some ⟨wr.heap.size, 0, none⟩) 0 0) [] from OwI.made0 wr)
      have HR := hide ((hrk.below hb).below NA.out)
      have Hown := hide hown
      have HN := hide (fun (w' : World) (bq : Nx w w') => (⟨bq, (bq.cells b0 (off + k * 2) hb0).trans hk0, (bq.cells b0 (off + k * 2 + 1) hb0).trans hf0⟩ : Nx w w' ∧ w'.cell? ⟨b0, off + k * 2, none⟩ = some (.slice A1 (kn ps k).length c1) ∧ w'.cell? ⟨b0, off + k * 2 + 1, none⟩ = some (.int .i64 (fr ps k))))
      have Hb := hide hb
      have hrl := hrow.out k hlt
      clear hc hk0 hrk hf0 hown hb
      go_wp2_with fail
      go_region_held3 (fun w' => Nx w w' ∧ w'.cell? ⟨b0, off + k * 2, none⟩ = some (.slice A1 (kn ps k).length c1) ∧ w'.cell? ⟨b0, off + k * 2 + 1, none⟩ = some (.int .i64 (fr ps k)))
        (first | exact HN.out _ (Nx.drew Hb.out) | exact HN.out _ (Nx.trans Hb.out NA.out) | exact HN.out _ (Nx.trans Hb.out bq.out) | exact HN.out _ (Nx.trans Hb.out (Nx.trans bq.out (Nx.made _ _))) | exact HN.out _ hN3)
        (first
          | (refine step_joinI (by rfl) _ _ (by rfl) _ wr.heap.size _ [] _ (kn ps k) (by rfl) (by rfl) FA.out HR.out (by simp; omega) NA.out.size ?_; intro v1 w2 hown1 hg1 hat1; rw [List.nil_append] at hown1; have bq := hide (NA.out.only FA.out hg1 (Nat.le_refl _)); have hr1 := hide hown1; obtain ⟨Ar, cr, rfl, _⟩ := hown1.open_; clear hown1 hg1 hat1)
          | (refine step_pushP (by rfl) _ _ (by rfl) wr w2 w.heap.size _ (ps.take k) _ (kn ps k) (fr ps k) (by rfl) (by rfl) Hown.out bq.out hr1.out htl hz2 ?_; intro v3 w3 hown3 hg3; have hN3 := (Hb.out.trans bq.out).onlyP Hown.out.base hg3 (Nat.le_refl _)))
      rw [← hstep.out] at hown3
      have HO3 := hide hown3
      have HN3 := hide hN3
      clear hown3 hN3 hg3 bq hr1
      go_wp2_with fail
      go_roundw
      case rel => exact ⟨k + 1, by omega, by go_num, HO3.out, HN3.out⟩
      case measure => simp [intOf]; omega
    · obtain rfl : k = ps.length := by omega
      have G := hide (And.intro hown hb)
      clear hown hb
      go_wp2_with fail
      go_ret
      exact ⟨_, rfl, by have := G.out.1; rwa [List.take_length] at this, G.out.2⟩

end Go.Proofs.Ytfilpeamhcdgfaa
