/- SeatPeople: impl. -/
import Derived.Test.YtkjclpbemdilbaaStP
import Derived.Laws.CopyOwn
import Derived.WalkKit
import Derived.ProofKit
import Derived.Handy
import Derived.OpenShut
import Derived.ShutString
import Derived.ChangeOld
import Derived.Below
import Derived.BigQuiet
import Derived.Deep.QuietTactic
import Derived.Deep.Draws
import Derived.Deep.DeepCutAuto
import Derived.Deep.DeepFit
import Derived.Deep.LoopGhost
import Derived.Outline
import Derived.WalkSpells
import Derived.WalkLawsBesides
import Derived.WalkSmall
import Derived.Laws.OwnMore
import Derived.OneCell
import Derived.Laws.Rows
import Derived.Maps.AppendAt
import Derived.StillTailTactics
import Derived.Lib.SmallJoins
import Derived.Deep.RegionWith
import Derived.Deep.RegionHeld3
import Derived.RegionTactic
import Derived.Deep.Matrix
import Derived.Deep.Fields
import Derived.ChangeSame
namespace Go.Proofs.Ytkjclpbemdilbaa
open Go.RowKit

theorem wpList_slot {P : Program} {ops : Array Oper} {rest : List Oper} {a : Act} {w : World} {Q : Exit → Act → World → Prop} (d : Nat) {op : Op} {ty : TypeId} {pos : String} {af : Array Edge} {gd : Option (Nat × Bool)} (h : wpList P ops Q (⟨some d, op, ty, pos, af, gd⟩ :: rest) a w) : wpList P ops Q (⟨some d, op, ty, pos, af, gd⟩ :: rest) a w := h
set_option maxHeartbeats 4000000 in
theorem impl_SeatPeople (v : Value) (rows : List (List Int)) (row seat : Int) (u : Value) (hs : List Int) (B0 : Nat) (w : World) (ho : OwM w B0 v rows) (hl : OkM rows) (hu : RdI w u hs) (hsl : hs.length ≤ 1048576) (_ : I64 row) (i2 : I64 seat) :
    Calls Try.prog 26 #[v, .int .i64 row, .int .i64 seat, u] w fun e w' => ∃ r, e = .returned (.tuple #[r, .bool (seatOk rows row seat hs)]) ∧ OwM w' w.heap.size r (seatL rows row seat hs) ∧ Nx w w' := by
  have hv := ho.reads
  have hu0 := hu
  obtain ⟨Au, cu, rfl, hux⟩ := hu
  clear hux
  cases hg : gridOk rows 8 10 (-1) 200 with
  | false =>
    have hf := hide (show seatOk rows row seat hs = false from by simp [seatOk, hg])
    go_enter Try.func26, Try.ntmps26
    go_wp2_with fail
    refine (copyRows_any _ _ _ hv hl).mono ?_
    rintro e w1 ⟨r, rfl, ho1, b⟩
    go_wp2_with fail
    refine (impl_HallOk _ _ _ (hv.below b) hl).mono ?_
    rintro e w2 ⟨rfl, b2⟩
    skip
    have G := hide (And.intro (ho1.below b2) (b.trans b2))
    clear ho1 b b2
    rw [hg]
    go_wp2_with fail
    go_ret2
    exact ⟨r, by rw [hf.out]; rfl, by unfold seatL; rw [hf.out]; exact G.out.1, G.out.2⟩
  | true =>
  obtain ⟨hG, hh, hw⟩ := gridOk_grid hg
  by_cases h0 : hs.length = 0
  · have hf := hide (show seatOk rows row seat hs = false from by simp [seatOk, h0])
    have z1 : ((hs.length : Int) == 0) = true := by simp [h0]
    clear hG h0
    go_enter Try.func26, Try.ntmps26
    go_wp2_with fail
    refine (copyRows_any _ _ _ hv hl).mono ?_
    rintro e w1 ⟨r, rfl, ho1, b⟩
    go_wp2_with fail
    refine (impl_HallOk _ _ _ (hv.below b) hl).mono ?_
    rintro e w2 ⟨rfl, b2⟩
    skip
    have G := hide (And.intro (ho1.below b2) (b.trans b2))
    clear ho1 b b2
    rw [hg]
    go_wp2_with fail
    go_ret2
    exact ⟨r, by rw [hf.out]; rfl, by unfold seatL; rw [hf.out]; exact G.out.1, G.out.2⟩
  have z1 : ((hs.length : Int) == 0) = false := by simp [h0]
  have hn1 : (1 : Int) ≤ (hs.length : Int) := by omega
  have hn2 : (hs.length : Int) ≤ 1048576 := by omega
  cases h1 : inR row 0 ((rows.length : Int) - 1) with
  | false =>
    have hf := hide (show seatOk rows row seat hs = false from by simp [seatOk, h1])
    obtain ⟨gv0, cv0, rfl⟩ := ho.open_ (by omega)
    clear hG h0 ho
    go_enter Try.func26, Try.ntmps26
    go_wp2_with fail
    refine (copyRows_any _ _ _ hv hl).mono ?_
    rintro e w1 ⟨r, rfl, ho1, b⟩
    go_wp2_with fail
    refine (impl_HallOk _ _ _ (hv.below b) hl).mono ?_
    rintro e w2 ⟨rfl, b2⟩
    skip
    have G := hide (And.intro (ho1.below b2) (b.trans b2))
    clear ho1 b b2
    rw [hg]
    go_wp2_with (go_at_call 37; refine (within_any _ _ _ _).mono ?_; rintro e w' ⟨rfl, rfl⟩)
    go_ret2
    exact ⟨r, by rw [hf.out]; rfl, by unfold seatL; rw [hf.out]; exact G.out.1, G.out.2⟩
  | true =>
  have b1 := inR_iff.1 h1
  obtain ⟨Y, rfl⟩ := Int.eq_ofNat_of_zero_le b1.1
  have hY : Y < rows.length := by omega
  have hYi : (Y : Int) < (rows.length : Int) := by omega
  obtain ⟨gv0, cv0, rfl⟩ := ho.open_ (by omega)
  have hrowY := hG.row Y hY
  obtain ⟨g0, c0, cur0, k1, _, k2, k3, k4, k5, _⟩ := OwM.rowBlk ho hY (by omega)
  have q1 := k1
  rw [hrowY] at q1 k4
  have q3 := k4.1
  have hw20 : (rowAt rows 0).length ≤ 1048576 := by omega
  have hcell : ∀ j, j < (rowAt rows 0).length → w.cell? ⟨g0, 0 + j, none⟩ = some (.int .i64 (g2 rows Y j)) := by
    intro j hj
    obtain ⟨g5, c5, m1, _, _, m2, _⟩ := OwM.row ho hY (by omega)
    rw [k1] at m1
    injection m1 with m1
    injection m1 with m1 _ _
    injection m1 with m1
    injection m1 with m1
    subst m1
    rw [Nat.zero_add]
    exact m2 j (by omega)
  have Hcell := hide hcell
  have HG := hide hG
  have Hk := hide (And.intro q1 k2)
  have hgv : gv0 < w.heap.size := block_lt_of_cell k1
  clear b1 k1 k2 k3 k4 k5 hcell hG ho hrowY q1 h0
  cases haf : areFreeB (g2 rows Y) (rowAt rows 0).length seat (hs.length : Int) with
  | false =>
    have hf := hide (show seatOk rows (Y : Int) seat hs = false from by simp [seatOk, haf])
    go_enter Try.func26, Try.ntmps26
    go_wp2_with fail
    refine (copyRows_any _ _ _ hv hl).mono ?_
    rintro e w1 ⟨r, rfl, ho1, b⟩
    go_wp2_with fail
    refine (impl_HallOk _ _ _ (hv.below b) hl).mono ?_
    rintro e w2 ⟨rfl, b2⟩
    have q1 := ((b.trans b2).cells gv0 Y hgv).trans Hk.out.1
    have q2 : ∀ j, j < (rowAt rows 0).length → w2.cell? ⟨g0, 0 + j, none⟩ = some (.int .i64 (g2 rows Y j)) := fun j hj => ((b.trans b2).cells g0 (0 + j) Hk.out.2).trans (Hcell.out j hj)
    skip
    have G := hide (And.intro (ho1.below b2) (b.trans b2))
    clear ho1 b b2
    rw [hg]
    go_wp2_with (first | (go_at_call 37; refine (within_any _ _ _ _).mono ?_; rintro e w' ⟨rfl, rfl⟩) | (go_at_call 38; (with_reducible refine (areFree_any _ _ _ _ (g2 rows Y) _ _ _ hw.1 hw20 q3 q2 hn1 hn2 i2).mono ?_); rintro e w' ⟨rfl, rfl⟩; rw [haf]))
    go_ret2
    exact ⟨r, by rw [hf.out]; rfl, by unfold seatL; rw [hf.out]; exact G.out.1, G.out.2⟩
  | true =>
  cases haw : allW 0 200 hs with
  | false =>
    have hf := hide (show seatOk rows (Y : Int) seat hs = false from by simp [seatOk, haw])
    go_enter Try.func26, Try.ntmps26
    go_wp2_with fail
    refine (copyRows_any _ _ _ hv hl).mono ?_
    rintro e w1 ⟨r, rfl, ho1, b⟩
    go_wp2_with fail
    refine (impl_HallOk _ _ _ (hv.below b) hl).mono ?_
    rintro e w2 ⟨rfl, b2⟩
    have q1 := ((b.trans b2).cells gv0 Y hgv).trans Hk.out.1
    have q2 : ∀ j, j < (rowAt rows 0).length → w2.cell? ⟨g0, 0 + j, none⟩ = some (.int .i64 (g2 rows Y j)) := fun j hj => ((b.trans b2).cells g0 (0 + j) Hk.out.2).trans (Hcell.out j hj)
    have hu2 := hu0.below (b.trans b2)
    have G := hide (And.intro (ho1.below b2) (b.trans b2))
    clear ho1 b b2
    rw [hg]
    go_wp2_with (first | (go_at_call 37; refine (within_any _ _ _ _).mono ?_; rintro e w' ⟨rfl, rfl⟩) | (go_at_call 38; (with_reducible refine (areFree_any _ _ _ _ (g2 rows Y) _ _ _ hw.1 hw20 q3 q2 hn1 hn2 i2).mono ?_); rintro e w' ⟨rfl, rfl⟩; rw [haf]) | (go_at_call 43; refine (allWithin_any _ _ _ _ _ hu2 hsl).mono ?_; rintro e w' ⟨rfl, rfl⟩; rw [haw]))
    go_ret2
    exact ⟨r, by rw [hf.out]; rfl, by unfold seatL; rw [hf.out]; exact G.out.1, G.out.2⟩
  | true =>
    have hf := hide (show seatOk rows (Y : Int) seat hs = true from by
      have e1 : (!decide (hs.length = 0)) = true := by rw [decide_eq_false (by omega)]; rfl
      unfold seatOk
      rw [hg, e1, h1, Int.toNat_natCast, haf, haw]
      rfl)
    have haf2 := haf
    simp only [areFreeB, Bool.and_eq_true, decide_eq_true_eq] at haf2
    obtain ⟨X, rfl⟩ := Int.eq_ofNat_of_zero_le haf2.1.1
    have hXn : X + hs.length ≤ (rowAt rows 0).length := by omega
    have hfl := hide (show seatL rows (Y : Int) (X : Int) hs = rows.set Y ((rowAt rows Y).take X ++ (hs ++ (rowAt rows Y).drop (X + hs.length))) from by
      unfold seatL
      rw [hf.out, if_pos rfl, Int.toNat_natCast, Int.toNat_natCast]
      exact (seat_set HG.out hY hXn).symm)
    clear haf2
    go_enter Try.func26, Try.ntmps26
    go_wp2_with fail
    refine (copyRows_any _ _ _ hv hl).mono ?_
    rintro e w1 ⟨r, rfl, ho1, b⟩
    go_wp2_with fail
    refine (impl_HallOk _ _ _ (hv.below b) hl).mono ?_
    rintro e w2 ⟨rfl, b2⟩
    have q1 := ((b.trans b2).cells gv0 Y hgv).trans Hk.out.1
    have q2 : ∀ j, j < (rowAt rows 0).length → w2.cell? ⟨g0, 0 + j, none⟩ = some (.int .i64 (g2 rows Y j)) := fun j hj => ((b.trans b2).cells g0 (0 + j) Hk.out.2).trans (Hcell.out j hj)
    have hu2 := hu0.below (b.trans b2)
    have ho2 := ho1.below b2
    have hb2 := hide (b.trans b2)
    obtain ⟨gv, cv, rfl⟩ := ho2.open_ (by omega)
    obtain ⟨g, cg, cur, m1, m2, m3, m4, m5, m6, m7⟩ := OwM.rowBlk ho2 hY (by rw [HG.out.row Y hY]; omega)
    rw [HG.out.row Y hY] at m1 m5 m7
    have M := hide (m7 X hs hXn)
    have hgs := hide m2
    obtain ⟨bu, offu, rfl, hbu, hcu⟩ := hu0.cells (by omega)
    have m8 : X < cg := by omega
    have m9 : (X : Int) ≤ (cg : Int) := by omega
    have m10 : (X : Int) ≤ ((rowAt rows 0).length : Int) := by omega
    have m11 : ((rowAt rows 0).length : Int) ≤ (cg : Int) := by omega
    have m12 : ¬ cg = X := by omega
    have HS := hide (show ∀ j v, (hs.map (Value.int .i64))[j]? = some v → w2.cell? ((⟨bu, offu, none⟩ : Addr).add j) = some v from fun j v hj => by
      have hjl : j < hs.length := by
        have := (List.getElem?_eq_some_iff.1 hj).1
        simpa using this
      rw [gt_map _ _ hjl] at hj
      injection hj with hj
      subst hj
      rw [add_off]
      exact (hb2.out.cells bu (offu + j) hbu).trans (hcu j hjl))
    have HO := hide (show ∀ v ∈ hs.map (Value.int .i64), v.oneCell' = true from fun v hv => by
      obtain ⟨z, _, rfl⟩ := List.mem_map.1 hv
      rfl)
    have HF := hide (show X + (hs.map (Value.int .i64)).length ≤ cur.size from by rw [List.length_map, m6]; omega)
    have HN := hide (show (hs.map (Value.int .i64)).length = Nat.min hs.length ((rowAt rows 0).length - X) from by rw [List.length_map]; exact (Nat.min_eq_left (by omega)).symm)
    have HM3 := hide m4
    have HM4 := hide m4
    have HM6 := hide m6
    clear ho1 ho2 b b2 m2 m3 m4 m6 m7 hcu
    rw [hg]
    go_upto_region 4 with (first | (go_at_call 37; refine (within_any _ _ _ _).mono ?_; rintro e w' ⟨rfl, rfl⟩) | (go_at_call 38; (with_reducible refine (areFree_any _ _ _ _ (g2 rows Y) _ _ _ hw.1 hw20 q3 q2 hn1 hn2 i2).mono ?_); rintro e w' ⟨rfl, rfl⟩; rw [haf]) | (go_at_call 43; refine (allWithin_any _ _ _ _ _ hu2 hsl).mono ?_; rintro e w' ⟨rfl, rfl⟩; rw [haw]))
    go_wp2_with ((with_reducible refine wpList_slot 53 ?_); refine wpList_copy_own (o := ⟨some 53, _, _, _, _, _⟩) rfl (.tmp 51) (.tmp 52) 36 36 rfl 3 Try.underlying36 sizeInt g X ((rowAt rows 0).length - X) (cg - X) ⟨bu, offu, none⟩ hs.length cu rfl rfl cur 3 HM3.out (hs.map (Value.int .i64)) HN.out HS.out HF.out HO.out ?_)
    have NX : Nx w (w2.setRow g (cur.toList.take X ++ (hs.map (Value.int .i64) ++ cur.toList.drop (X + hs.length))).toArray) := below_setRow hb2.out hgs.out _
    have MM := M.out
    generalize World.setRow _ _ _ = w3 at NX MM ⊢
    go_ret2
    exact ⟨.slice (some ⟨gv, 0, none⟩) rows.length cv, by rw [hf.out]; rfl, by rw [hfl.out]; exact MM.toM, NX⟩

end Go.Proofs.Ytkjclpbemdilbaa
