/- CutTo once more. -/
import Derived.Test.YtlkaalbhhnineaaGl
import Derived.WalkKit
import Derived.ProofKit
import Derived.Handy
import Derived.OpenShut
import Derived.ShutString
import Derived.ChangeOld
import Derived.Below
import Derived.BigQuiet
import Derived.Deep.QuietTactic
import Derived.Deep.Draws
import Derived.Deep.DeepCutAuto
import Derived.Deep.DeepFit
import Derived.Deep.LoopGhost
import Derived.Outline
import Derived.WalkSpells
import Derived.WalkLawsBesides
import Derived.WalkSmall
import Derived.Laws.OwnMore
import Derived.OneCell
import Derived.Laws.Rows
import Derived.Maps.AppendAt
import Derived.StillTailTactics
import Derived.Lib.SmallJoins
import Derived.Deep.RegionWith
import Derived.Deep.RegionHeld3
import Derived.RegionTactic
import Derived.Deep.Matrix
import Derived.Deep.Fields
import Derived.ChangeSame
namespace Go.Proofs.Ytlkaalbhhnineaa
open Go.RowKit

/-- the place can be cut so. -/
def cutOk (rows : List (List Int)) (x y z : Int) : Bool := gridOk rows 8 8 0 20 && (inR y 0 ((rows.length : Int) - 1) && (inR x 0 (((rowAt rows 0).length : Int) - 1) && inR z 0 (g2 rows y.toNat x.toNat)))
def cutL (rows : List (List Int)) (x y z : Int) : List (List Int) := if cutOk rows x y z then rows.set y.toNat ((rowAt rows y.toNat).set x.toNat z) else rows
theorem sumLen_set {rows : List (List Int)} {y : Nat} {r : List Int} (hr : r.length = (rowAt rows y).length) (k : Nat) : sumLen (rows.set y r) k = sumLen rows k := by
  induction k with
  | zero => rfl
  | succ k ih =>
    simp only [sumLen]
    rw [ih]
    by_cases e : k = y
    · subst e
      by_cases h : k < rows.length
      · rw [rowAt_set_same h, hr]
      · have : rows.set k r = rows := List.set_eq_of_length_le (by omega)
        rw [this]
    · rw [rowAt_set_other e]
theorem CutTo_len (rows : List (List Int)) (x y z : Int) (h : OkM rows) : OkM (cutL rows x y z) := by
  unfold cutL
  split
  · refine ⟨by rw [List.length_set]; exact h.1, ?_⟩
    rw [sumLen_set (by simp), List.length_set]
    exact h.2
  · exact h

set_option maxHeartbeats 2000000 in
theorem impl_CutTo (v : Value) (rows : List (List Int)) (x y z : Int) (w : World) (h : RdM w v rows) (hl : OkM rows) (_ : I64 x) (_ : I64 y) (_ : I64 z) :
    Calls Try.prog 25 #[v, .int .i64 x, .int .i64 y, .int .i64 z] w fun e w' => ∃ u, e = .returned (.tuple #[u, .bool (cutOk rows x y z)]) ∧ OwM w' w.heap.size u (cutL rows x y z) ∧ Nx w w' := by
  have hv := h
  obtain ⟨A, c, rfl, hx⟩ := h
  have Hx := hide hx
  clear hx
  cases hg : gridOk rows 8 8 0 20 with
  | false =>
    have hf := hide (show cutOk rows x y z = false from by simp [cutOk, hg])
    go_enter Try.func25, Try.ntmps25
    go_wp2_with fail
    refine (copyRows_any _ _ _ hv hl).mono ?_
    rintro e w1 ⟨u, rfl, ho, b⟩
    go_wp2_with fail
    refine (impl_BlockOk _ _ _ (hv.below b) hl).mono ?_
    rintro e w2 ⟨rfl, b2⟩
    have G := hide (And.intro (ho.below b2) (b.trans b2))
    clear ho b b2
    rw [hg]
    go_wp2_with fail
    go_ret2
    exact ⟨u, by rw [hf.out]; rfl, by unfold cutL; rw [hf.out]; exact G.out.1, G.out.2⟩
  | true =>
  obtain ⟨hG, hh, hw⟩ := gridOk_grid hg
  cases h1 : inR y 0 ((rows.length : Int) - 1) with
  | false =>
    have hf := hide (show cutOk rows x y z = false from by simp [cutOk, h1])
    clear hG
    go_enter Try.func25, Try.ntmps25
    go_wp2_with fail
    refine (copyRows_any _ _ _ hv hl).mono ?_
    rintro e w1 ⟨u, rfl, ho, b⟩
    go_wp2_with fail
    refine (impl_BlockOk _ _ _ (hv.below b) hl).mono ?_
    rintro e w2 ⟨rfl, b2⟩
    have G := hide (And.intro (ho.below b2) (b.trans b2))
    clear ho b b2
    rw [hg]
    go_wp2_with (go_at_call 42; refine (within_any _ _ _ _).mono ?_; rintro e w' ⟨rfl, rfl⟩)
    go_ret2
    exact ⟨u, by rw [hf.out]; rfl, by unfold cutL; rw [hf.out]; exact G.out.1, G.out.2⟩
  | true =>
  have b1 := inR_iff.1 h1
  obtain ⟨Y, rfl⟩ := Int.eq_ofNat_of_zero_le b1.1
  have hY : Y < rows.length := by omega
  obtain ⟨b0, off, rfl, hb0, hc⟩ := Hx.out (by omega)
  obtain ⟨A0, c0, hr0, A0', c0', e0, hz0⟩ := hc 0 (by omega)
  obtain ⟨A1, c1, hr1, A1', c1', e1, hz1⟩ := hc Y hY
  have hrow0 := hG.row 0 (by omega)
  have hrowY := hG.row Y hY
  injection e1 with e2 e3 e4
  subst e2
  clear e0 e3 e4 hz0 hc b1
  cases h2 : inR x 0 (((rowAt rows 0).length : Int) - 1) with
  | false =>
    have hf := hide (show cutOk rows x (Y : Int) z = false from by simp [cutOk, h2])
    clear hG hrow0 hrowY hz1
    go_enter Try.func25, Try.ntmps25
    go_wp2_with fail
    refine (copyRows_any _ _ _ hv hl).mono ?_
    rintro e w1 ⟨u, rfl, ho, b⟩
    go_wp2_with fail
    refine (impl_BlockOk _ _ _ (hv.below b) hl).mono ?_
    rintro e w2 ⟨rfl, b2⟩
    have q0 := ((b.trans b2).cells b0 (off + 0) hb0).trans hr0
    rw [Nat.add_zero] at q0
    have G := hide (And.intro (ho.below b2) (b.trans b2))
    clear ho b b2 hr0 hr1
    rw [hg]
    go_wp2_with (go_at_call 42; refine (within_any _ _ _ _).mono ?_; rintro e w' ⟨rfl, rfl⟩)
    go_ret2
    exact ⟨u, by rw [hf.out]; rfl, by unfold cutL; rw [hf.out]; exact G.out.1, G.out.2⟩
  | true =>
  have b2 := inR_iff.1 h2
  obtain ⟨X, rfl⟩ := Int.eq_ofNat_of_zero_le b2.1
  have hX : X < (rowAt rows 0).length := by omega
  have hXi : (X : Int) < ((rowAt rows 0).length : Int) := by omega
  have hXY : X < (rowAt rows Y).length := by omega
  obtain ⟨b5, off5, rfl, hb5, hcc⟩ := hz1 (by omega)
  have hcell := hcc X hXY
  have HrowY := hide hrowY
  have hYl : ((X : Nat) : Int) < ((rowAt rows Y).length : Int) := by omega
  have hYi : (Y : Int) < (rows.length : Int) := by omega
  clear hG hrow0 hrowY hcc b2
  cases h3 : inR z 0 (g2 rows Y X) with
  | false =>
    have hf := hide (show cutOk rows (X : Int) (Y : Int) z = false from by simp [cutOk, h3])
    go_enter Try.func25, Try.ntmps25
    go_wp2_with fail
    refine (copyRows_any _ _ _ hv hl).mono ?_
    rintro e w1 ⟨u, rfl, ho, b⟩
    go_wp2_with fail
    refine (impl_BlockOk _ _ _ (hv.below b) hl).mono ?_
    rintro e w2 ⟨rfl, b2⟩
    have q0 := ((b.trans b2).cells b0 (off + 0) hb0).trans hr0
    rw [Nat.add_zero] at q0
    have q1 := ((b.trans b2).cells b0 (off + Y) hb0).trans hr1
    have q2 := ((b.trans b2).cells b5 (off5 + X) hb5).trans hcell
    change _ = some (Value.int .i64 (g2 rows Y X)) at q2
    have G := hide (And.intro (ho.below b2) (b.trans b2))
    clear ho b b2 hr0 hr1 hcell
    rw [hg]
    go_wp2_with (go_at_call 42; refine (within_any _ _ _ _).mono ?_; rintro e w' ⟨rfl, rfl⟩)
    go_ret2
    exact ⟨u, by rw [hf.out]; rfl, by unfold cutL; rw [hf.out]; exact G.out.1, G.out.2⟩
  | true =>
    have hf := hide (show cutOk rows (X : Int) (Y : Int) z = true from by simp [cutOk, hg, h1, h2, h3])
    have hfl := hide (show cutL rows (X : Int) (Y : Int) z = rows.set Y ((rowAt rows Y).set X z) from by unfold cutL; rw [hf.out, if_pos rfl]; rfl)
    go_enter Try.func25, Try.ntmps25
    go_wp2_with fail
    refine (copyRows_any _ _ _ hv hl).mono ?_
    rintro e w1 ⟨u, rfl, ho, b⟩
    go_wp2_with fail
    refine (impl_BlockOk _ _ _ (hv.below b) hl).mono ?_
    rintro e w2 ⟨rfl, b2⟩
    have q0 := ((b.trans b2).cells b0 (off + 0) hb0).trans hr0
    rw [Nat.add_zero] at q0
    have q1 := ((b.trans b2).cells b0 (off + Y) hb0).trans hr1
    have q2 := ((b.trans b2).cells b5 (off5 + X) hb5).trans hcell
    change _ = some (Value.int .i64 (g2 rows Y X)) at q2
    have ho2 := ho.below b2
    obtain ⟨gv, cv, rfl⟩ := ho2.open_ (by omega)
    obtain ⟨g, cg, k1, k2, k3, k4, k5, k6⟩ := OwM.row ho2 hY (by omega)
    have k7 := k4 X hXY
    have k8 := k5 X
    have R := hide (And.intro (k6 X z).toM ((b.trans b2).setCell (p := ⟨g, X, none⟩) k2 (.int .i64 z)))
    clear ho ho2 b b2 hr0 hr1 hcell k2 k3 k4 k5 k6
    rw [hg]
    go_wp2_with (go_at_call 42; refine (within_any _ _ _ _).mono ?_; rintro e w' ⟨rfl, rfl⟩)
    go_ret2
    exact ⟨.slice (some ⟨gv, 0, none⟩) rows.length cv, by rw [hf.out]; rfl, by rw [hfl.out]; exact R.out.1, R.out.2⟩

set_option maxHeartbeats 2000000 in
theorem spec_CutTo (v : Value) (rows : List (List Int)) (x y z : Int) (w : World) (h : RdM w v rows) (hl : OkM rows) (_ : I64 x) (_ : I64 y) (_ : I64 z) :
    Calls Try.prog 24 #[v, .int .i64 x, .int .i64 y, .int .i64 z] w fun e w' => ∃ u, e = .returned (.tuple #[u, .bool (cutOk rows x y z)]) ∧ OwM w' w.heap.size u (cutL rows x y z) ∧ Nx w w' := by
  have hv := h
  obtain ⟨A, c, rfl, hx⟩ := h
  have Hx := hide hx
  clear hx
  cases hg : gridOk rows 8 8 0 20 with
  | false =>
    have hf := hide (show cutOk rows x y z = false from by simp [cutOk, hg])
    go_enter Try.func24, Try.ntmps24
    go_wp2_with fail
    refine (l20Copy_any _ _ _ hv hl).mono ?_
    rintro e w1 ⟨u, rfl, ho, b⟩
    go_wp2_with fail
    refine (spec_BlockOk _ _ _ (hv.below b) hl).mono ?_
    rintro e w2 ⟨rfl, b2⟩
    have G := hide (And.intro (ho.below b2) (b.trans b2))
    clear ho b b2
    rw [hg]
    go_wp2_with fail
    go_ret2
    exact ⟨u, by rw [hf.out]; rfl, by unfold cutL; rw [hf.out]; exact G.out.1, G.out.2⟩
  | true =>
  obtain ⟨hG, hh, hw⟩ := gridOk_grid hg
  cases h1 : inR y 0 ((rows.length : Int) - 1) with
  | false =>
    have hf := hide (show cutOk rows x y z = false from by simp [cutOk, h1])
    clear hG
    go_enter Try.func24, Try.ntmps24
    go_wp2_with fail
    refine (l20Copy_any _ _ _ hv hl).mono ?_
    rintro e w1 ⟨u, rfl, ho, b⟩
    go_wp2_with fail
    refine (spec_BlockOk _ _ _ (hv.below b) hl).mono ?_
    rintro e w2 ⟨rfl, b2⟩
    have G := hide (And.intro (ho.below b2) (b.trans b2))
    clear ho b b2
    rw [hg]
    go_wp2_with (go_at_call 35; refine (l01In_any _ _ _ _).mono ?_; rintro e w' ⟨rfl, rfl⟩)
    go_ret2
    exact ⟨u, by rw [hf.out]; rfl, by unfold cutL; rw [hf.out]; exact G.out.1, G.out.2⟩
  | true =>
  have b1 := inR_iff.1 h1
  obtain ⟨Y, rfl⟩ := Int.eq_ofNat_of_zero_le b1.1
  have hY : Y < rows.length := by omega
  obtain ⟨b0, off, rfl, hb0, hc⟩ := Hx.out (by omega)
  obtain ⟨A0, c0, hr0, A0', c0', e0, hz0⟩ := hc 0 (by omega)
  obtain ⟨A1, c1, hr1, A1', c1', e1, hz1⟩ := hc Y hY
  have hrow0 := hG.row 0 (by omega)
  have hrowY := hG.row Y hY
  injection e1 with e2 e3 e4
  subst e2
  clear e0 e3 e4 hz0 hc b1
  cases h2 : inR x 0 (((rowAt rows 0).length : Int) - 1) with
  | false =>
    have hf := hide (show cutOk rows x (Y : Int) z = false from by simp [cutOk, h2])
    clear hG hrow0 hrowY hz1
    go_enter Try.func24, Try.ntmps24
    go_wp2_with fail
    refine (l20Copy_any _ _ _ hv hl).mono ?_
    rintro e w1 ⟨u, rfl, ho, b⟩
    go_wp2_with fail
    refine (spec_BlockOk _ _ _ (hv.below b) hl).mono ?_
    rintro e w2 ⟨rfl, b2⟩
    have q0 := ((b.trans b2).cells b0 (off + 0) hb0).trans hr0
    rw [Nat.add_zero] at q0
    have G := hide (And.intro (ho.below b2) (b.trans b2))
    clear ho b b2 hr0 hr1
    rw [hg]
    go_wp2_with (go_at_call 35; refine (l01In_any _ _ _ _).mono ?_; rintro e w' ⟨rfl, rfl⟩)
    go_ret2
    exact ⟨u, by rw [hf.out]; rfl, by unfold cutL; rw [hf.out]; exact G.out.1, G.out.2⟩
  | true =>
  have b2 := inR_iff.1 h2
  obtain ⟨X, rfl⟩ := Int.eq_ofNat_of_zero_le b2.1
  have hX : X < (rowAt rows 0).length := by omega
  have hXi : (X : Int) < ((rowAt rows 0).length : Int) := by omega
  have hXY : X < (rowAt rows Y).length := by omega
  obtain ⟨b5, off5, rfl, hb5, hcc⟩ := hz1 (by omega)
  have hcell := hcc X hXY
  have HrowY := hide hrowY
  have hYl : ((X : Nat) : Int) < ((rowAt rows Y).length : Int) := by omega
  have hYi : (Y : Int) < (rows.length : Int) := by omega
  clear hG hrow0 hrowY hcc b2
  cases h3 : inR z 0 (g2 rows Y X) with
  | false =>
    have hf := hide (show cutOk rows (X : Int) (Y : Int) z = false from by simp [cutOk, h3])
    go_enter Try.func24, Try.ntmps24
    go_wp2_with fail
    refine (l20Copy_any _ _ _ hv hl).mono ?_
    rintro e w1 ⟨u, rfl, ho, b⟩
    go_wp2_with fail
    refine (spec_BlockOk _ _ _ (hv.below b) hl).mono ?_
    rintro e w2 ⟨rfl, b2⟩
    have q0 := ((b.trans b2).cells b0 (off + 0) hb0).trans hr0
    rw [Nat.add_zero] at q0
    have q1 := ((b.trans b2).cells b0 (off + Y) hb0).trans hr1
    have q2 := ((b.trans b2).cells b5 (off5 + X) hb5).trans hcell
    change _ = some (Value.int .i64 (g2 rows Y X)) at q2
    have G := hide (And.intro (ho.below b2) (b.trans b2))
    clear ho b b2 hr0 hr1 hcell
    rw [hg]
    go_wp2_with (go_at_call 35; refine (l01In_any _ _ _ _).mono ?_; rintro e w' ⟨rfl, rfl⟩)
    go_ret2
    exact ⟨u, by rw [hf.out]; rfl, by unfold cutL; rw [hf.out]; exact G.out.1, G.out.2⟩
  | true =>
    have hf := hide (show cutOk rows (X : Int) (Y : Int) z = true from by simp [cutOk, hg, h1, h2, h3])
    have hfl := hide (show cutL rows (X : Int) (Y : Int) z = rows.set Y ((rowAt rows Y).set X z) from by unfold cutL; rw [hf.out, if_pos rfl]; rfl)
    go_enter Try.func24, Try.ntmps24
    go_wp2_with fail
    refine (l20Copy_any _ _ _ hv hl).mono ?_
    rintro e w1 ⟨u, rfl, ho, b⟩
    go_wp2_with fail
    refine (spec_BlockOk _ _ _ (hv.below b) hl).mono ?_
    rintro e w2 ⟨rfl, b2⟩
    have q0 := ((b.trans b2).cells b0 (off + 0) hb0).trans hr0
    rw [Nat.add_zero] at q0
    have q1 := ((b.trans b2).cells b0 (off + Y) hb0).trans hr1
    have q2 := ((b.trans b2).cells b5 (off5 + X) hb5).trans hcell
    change _ = some (Value.int .i64 (g2 rows Y X)) at q2
    have ho2 := ho.below b2
    obtain ⟨gv, cv, rfl⟩ := ho2.open_ (by omega)
    obtain ⟨g, cg, k1, k2, k3, k4, k5, k6⟩ := OwM.row ho2 hY (by omega)
    have k7 := k4 X hXY
    have k8 := k5 X
    have R := hide (And.intro (k6 X z).toM ((b.trans b2).setCell (p := ⟨g, X, none⟩) k2 (.int .i64 z)))
    clear ho ho2 b b2 hr0 hr1 hcell k2 k3 k4 k5 k6
    rw [hg]
    go_wp2_with (go_at_call 35; refine (l01In_any _ _ _ _).mono ?_; rintro e w' ⟨rfl, rfl⟩)
    go_ret2
    exact ⟨.slice (some ⟨gv, 0, none⟩) rows.length cv, by rw [hf.out]; rfl, by rw [hfl.out]; exact R.out.1, R.out.2⟩

end Go.Proofs.Ytlkaalbhhnineaa
