/- SeatPeople: spec. -/
import Derived.Test.YtkjclpbemdilbaaStQ
import Derived.WalkKit
import Derived.ProofKit
import Derived.Handy
import Derived.OpenShut
import Derived.ShutString
import Derived.ChangeOld
import Derived.Below
import Derived.BigQuiet
import Derived.Deep.QuietTactic
import Derived.Deep.Draws
import Derived.Deep.DeepCutAuto
import Derived.Deep.DeepFit
import Derived.Deep.LoopGhost
import Derived.Outline
import Derived.WalkSpells
import Derived.WalkLawsBesides
import Derived.WalkSmall
import Derived.Laws.OwnMore
import Derived.OneCell
import Derived.Laws.Rows
import Derived.Maps.AppendAt
import Derived.StillTailTactics
import Derived.Lib.SmallJoins
import Derived.Deep.RegionWith
import Derived.Deep.RegionHeld3
import Derived.RegionTactic
import Derived.Deep.Matrix
import Derived.Deep.Fields
import Derived.ChangeSame
namespace Go.Proofs.Ytkjclpbemdilbaa
open Go.RowKit

set_option maxHeartbeats 4000000 in
theorem spec_SeatPeople (v : Value) (rows : List (List Int)) (row seat : Int) (u : Value) (hs : List Int) (w : World) (hv : RdM w v rows) (hl : OkM rows) (hu0 : RdI w u hs) (hsl : hs.length ≤ 1048576) (_ : I64 row) (i2 : I64 seat) :
    Calls Try.prog 28 #[v, .int .i64 row, .int .i64 seat, u] w fun e w' => ∃ r, e = .returned (.tuple #[r, .bool (seatOk rows row seat hs)]) ∧ OwM w' w.heap.size r (seatL rows row seat hs) ∧ Nx w w' := by
  unfold I64 at i2
  have hu := hu0
  obtain ⟨Au, cu, rfl, hux⟩ := hu
  clear hux
  have hvx := hv
  obtain ⟨A, c, rfl, hx⟩ := hvx
  have Hx := hide hx
  clear hx
  cases hg : gridOk rows 8 10 (-1) 200 with
  | false =>
    have hf := hide (show seatOk rows row seat hs = false from by simp [seatOk, hg])
    go_enter Try.func28, Try.ntmps28
    go_wp2_with fail
    refine (l20Copy_any _ _ _ hv hl).mono ?_
    rintro e w1 ⟨r, rfl, ho1, b⟩
    go_wp2_with fail
    refine (spec_HallOk _ _ _ (hv.below b) hl).mono ?_
    rintro e w2 ⟨rfl, b2⟩
    have G := hide (And.intro (ho1.below b2) (b.trans b2))
    clear ho1 b b2
    rw [hg]
    go_wp2_with fail
    go_ret2
    exact ⟨r, by rw [hf.out]; rfl, by unfold seatL; rw [hf.out]; exact G.out.1, G.out.2⟩
  | true =>
  obtain ⟨hG, hh, hw⟩ := gridOk_grid hg
  cases h1 : inR row 0 ((rows.length : Int) - 1) with
  | false =>
    have hf := hide (show seatOk rows row seat hs = false from by simp [seatOk, h1])
    clear hG
    go_enter Try.func28, Try.ntmps28
    go_wp2_with fail
    refine (l20Copy_any _ _ _ hv hl).mono ?_
    rintro e w1 ⟨r, rfl, ho1, b⟩
    go_wp2_with fail
    refine (spec_HallOk _ _ _ (hv.below b) hl).mono ?_
    rintro e w2 ⟨rfl, b2⟩
    have G := hide (And.intro (ho1.below b2) (b.trans b2))
    clear ho1 b b2
    rw [hg]
    go_wp2_with (go_at_call 35; refine (l01In_any _ _ _ _).mono ?_; rintro e w' ⟨rfl, rfl⟩)
    go_ret2
    exact ⟨r, by rw [hf.out]; rfl, by unfold seatL; rw [hf.out]; exact G.out.1, G.out.2⟩
  | true =>
  by_cases h0 : hs.length = 0
  · have hf := hide (show seatOk rows row seat hs = false from by simp [seatOk, h0])
    have z1 : ((hs.length : Int) == 0) = true := by simp [h0]
    clear hG h0
    go_enter Try.func28, Try.ntmps28
    go_wp2_with fail
    refine (l20Copy_any _ _ _ hv hl).mono ?_
    rintro e w1 ⟨r, rfl, ho1, b⟩
    go_wp2_with fail
    refine (spec_HallOk _ _ _ (hv.below b) hl).mono ?_
    rintro e w2 ⟨rfl, b2⟩
    have G := hide (And.intro (ho1.below b2) (b.trans b2))
    clear ho1 b b2
    rw [hg]
    go_wp2_with (go_at_call 35; refine (l01In_any _ _ _ _).mono ?_; rintro e w' ⟨rfl, rfl⟩)
    go_ret2
    exact ⟨r, by rw [hf.out]; rfl, by unfold seatL; rw [hf.out]; exact G.out.1, G.out.2⟩
  have z1 : ((hs.length : Int) == 0) = false := by simp [h0]
  have b1 := inR_iff.1 h1
  obtain ⟨Y, rfl⟩ := Int.eq_ofNat_of_zero_le b1.1
  have hY : Y < rows.length := by omega
  have hYi : (Y : Int) < (rows.length : Int) := by omega
  obtain ⟨bv, ov, rfl, hbv, hc⟩ := Hx.out (by omega)
  obtain ⟨A0, c0, hr0, A0', c0', e0, hz0⟩ := hc 0 (by omega)
  obtain ⟨A1, c1, hr1, A1', c1', e1, hz1⟩ := hc Y hY
  have hrow0 := hG.row 0 (by omega)
  have hrowY := hG.row Y hY
  injection e1 with e2 e3 e4
  subst e2
  obtain ⟨bY, oY, rfl, hbY, hcY⟩ := hz1 (by omega)
  obtain ⟨bu, ou, rfl, hbu, hcu⟩ := hu0.cells (by omega)
  rw [Nat.add_zero] at hr0
  rw [hrowY] at hr1 hcY
  have Hr0 := hide hr0
  have Hr1 := hide hr1
  have HcY := hide hcY
  have Hcu := hide hcu
  have HG := hide hG
  have hrows := hide (grid_eq hG)
  clear e0 e3 e4 hz0 hz1 hc b1 hrow0 hrowY hr0 hr1 hcY hcu hG Hx
  go_enter Try.func28, Try.ntmps28
  go_wp2_with fail
  refine (l20Copy_any _ _ _ hv hl).mono ?_
  rintro e w1 ⟨r, rfl, ho1, b⟩
  go_wp2_with fail
  refine (spec_HallOk _ _ _ (hv.below b) hl).mono ?_
  rintro e w2 ⟨rfl, b2⟩
  have G := hide (And.intro (ho1.below b2) (b.trans b2))
  clear ho1 b b2
  rw [hg]
  go_wp2_with (go_at_call 35; refine (l01In_any _ _ _ _).mono ?_; rintro e w' ⟨rfl, rfl⟩)
  refine (l20Copy_any _ _ _ (hv.below G.out.2) hl).mono ?_
  rintro e w3 ⟨q, rfl, ho3, b3⟩
  obtain ⟨gv, cv, rfl⟩ := ho3.open_ (by omega)
  have ho4 : OwMN w3 w2.heap.size (.slice (some ⟨gv, 0, none⟩) rows.length cv) rows.length (gridL rows.length (rowAt rows 0).length (seatTo (g2 rows) Y seat.toNat hs 0)) := by
    have := ho3
    unfold OwM at this
    rw [seatTo_zero, ← hrows.out]
    exact this
  have HO4 := hide ho4
  have HB3 := hide b3
  clear ho3 ho4 b3
  go_wp2_with fail
  go_loopw [12] (fun i wr => ∃ k : Nat, k ≤ hs.length ∧ i = .int .i64 k ∧ OwMN wr w2.heap.size (.slice (some ⟨gv, 0, none⟩) rows.length cv) rows.length (gridL rows.length (rowAt rows 0).length (seatTo (g2 rows) Y seat.toNat hs k)) ∧ Nx w2 wr ∧ Hid (∀ j, j < k → stepOk rows Y seat hs j)) (fun i _ => hs.length - (intOf i).toNat)
  case atStart => exact ⟨0, Nat.zero_le _, rfl, HO4.out, HB3.out, fun j hj => absurd hj (by omega)⟩
  case round =>
    clear HO4 HB3
    obtain ⟨k, hk, rfl, ho, hb, hall⟩ := hrel
    by_cases hlt : k < hs.length
    · have hkl : (k : Int) < (hs.length : Int) := by omega
      have hbw := G.out.2.trans hb
      have q0 := (hbw.cells bv ov hbv).trans Hr0.out
      have q1 := (hbw.cells bv (ov + Y) hbv).trans Hr1.out
      have q2 := (hbw.cells bu (ou + k) hbu).trans (Hcu.out k hlt)
      have G2 := hide (And.intro (G.out.1.below hb) hbw)
      have HO := hide ho
      have HB := hide hb
      clear ho hb hbw
      by_cases c1 : 0 ≤ seat ∧ seat < ((rowAt rows 0).length : Int)
      · obtain ⟨X, rfl⟩ := Int.eq_ofNat_of_zero_le c1.1
        rw [Int.toNat_natCast] at HO
        have d1 : inR (X : Int) 0 (((rowAt rows 0).length : Int) - 1) = true := inR_iff.2 (by omega)
        by_cases c2 : X + k < (rowAt rows 0).length
        · have d2 : inR ((X : Int) + (k : Int)) 0 (((rowAt rows 0).length : Int) - 1) = true := inR_iff.2 (by omega)
          have q3 := (G2.out.2.cells bY (oY + (X + k)) hbY).trans (HcY.out (X + k) c2)
          change _ = some (Value.int .i64 (g2 rows Y (X + k))) at q3
          have e1 : ((X : Int) + (k : Int)).toNat = X + k := by omega
          have hXk : (X : Int) + (k : Int) < ((rowAt rows 0).length : Int) := by omega
          have hbd := HG.out.bd Y (X + k) hY c2
          by_cases c3 : 0 ≤ g2 rows Y (X + k)
          · have hf := hide (show seatOk rows (Y : Int) (X : Int) hs = false from seat_no hlt (.inr (.inr (.inl (by rw [Int.toNat_natCast]; exact c3)))))
            go_wp2_with (go_at_call 35; refine (l01In_any _ _ _ _).mono ?_; rintro e w' ⟨rfl, rfl⟩)
            go_ret2
            exact ⟨r, by rw [hf.out]; rfl, by unfold seatL; rw [hf.out]; exact G2.out.1, G2.out.2⟩
          · by_cases c4 : gt hs k < 0
            · have hf := hide (show seatOk rows (Y : Int) (X : Int) hs = false from seat_no hlt (.inr (.inr (.inr c4))))
              go_wp2_with (go_at_call 35; refine (l01In_any _ _ _ _).mono ?_; rintro e w' ⟨rfl, rfl⟩)
              go_ret2
              exact ⟨r, by rw [hf.out]; rfl, by unfold seatL; rw [hf.out]; exact G2.out.1, G2.out.2⟩
            · obtain ⟨g, cg, k1, k2, k3, k4, k5, k6⟩ := OwM.row HO.out hY (by rw [row_gridL_length hY]; omega)
              rw [row_gridL_length hY] at k1 k4
              have k7 := k4 (X + k) c2
              have k8 := k5 (X + k)
              have hst := hide (show stepOk rows Y (X : Int) hs k from ⟨c1.1, hXk, by rw [Int.toNat_natCast]; omega, by omega⟩)
              have R := hide (show OwMN (wr.setCell ⟨g, X + k, none⟩ (.int .i64 (gt hs k))) w2.heap.size (.slice (some ⟨gv, 0, none⟩) rows.length cv) rows.length (gridL rows.length (rowAt rows 0).length (seatTo (g2 rows) Y (X : Int).toNat hs (k + 1))) ∧ Nx w2 (wr.setCell ⟨g, X + k, none⟩ (.int .i64 (gt hs k))) from by
                have := k6 (X + k) (gt hs k)
                rw [gridL_set hY, seatTo_next] at this
                rw [Int.toNat_natCast]
                exact ⟨this, HB.out.setCell (p := ⟨g, X + k, none⟩) k2 _⟩)
              clear k2 k3 k4 k5 k6 HO HB c1
              go_wp2_with (go_at_call 35; refine (l01In_any _ _ _ _).mono ?_; rintro e w' ⟨rfl, rfl⟩)
              have p1 : 0 ≤ (X : Int) + (k : Int) := by omega
              have w1' : IntKind.i64.wrap ((X : Int) + (k : Int)) = (X : Int) + (k : Int) := IntWalk.i64_in _ (by omega)
              go_still_tail 12, (by kernel_rfl)
              clear w1'
              go_wp2_with fail
              go_roundw
              case rel => exact ⟨k + 1, by omega, by go_num, R.out.1, Nx.drew R.out.2, fun j hj => by
                rcases Nat.lt_or_ge j k with h | h
                · exact hall.out j h
                · obtain rfl : j = k := by omega
                  exact hst.out⟩
              case measure => simp [intOf]; omega
        · have d2 : inR ((X : Int) + (k : Int)) 0 (((rowAt rows 0).length : Int) - 1) = false := inR_false.2 (by omega)
          have hf := hide (show seatOk rows (Y : Int) (X : Int) hs = false from seat_no hlt (.inr (.inl (by omega))))
          go_wp2_with (go_at_call 35; refine (l01In_any _ _ _ _).mono ?_; rintro e w' ⟨rfl, rfl⟩)
          go_ret2
          exact ⟨r, by rw [hf.out]; rfl, by unfold seatL; rw [hf.out]; exact G2.out.1, G2.out.2⟩
      · have d1 : inR seat 0 (((rowAt rows 0).length : Int) - 1) = false := inR_false.2 (by omega)
        have hf := hide (show seatOk rows (Y : Int) seat hs = false from seat_no hlt (.inl c1))
        go_wp2_with (go_at_call 35; refine (l01In_any _ _ _ _).mono ?_; rintro e w' ⟨rfl, rfl⟩)
        go_ret2
        exact ⟨r, by rw [hf.out]; rfl, by unfold seatL; rw [hf.out]; exact G2.out.1, G2.out.2⟩
    · obtain rfl : k = hs.length := by omega
      have hs0 := hall.out 0 (by omega)
      have hsl2 := hall.out (hs.length - 1) (by omega)
      have hX0 : 0 ≤ seat := hs0.1
      obtain ⟨X, rfl⟩ := Int.eq_ofNat_of_zero_le hX0
      have hfit : X + hs.length ≤ (rowAt rows 0).length := by have := hsl2.2.1; omega
      rw [Int.toNat_natCast] at ho
      have hgo := hide (seat_grid hg hY hfit fun k hk => (hall.out k hk).2.2.2)
      have hso := hide (seat_yes (seat := (X : Int)) hg (by omega) hY hall.out)
      have hll : OkM (gridL rows.length (rowAt rows 0).length (seatTo (g2 rows) Y X hs hs.length)) := seat_okM (by omega) (by omega) _
      have G2 := hide (And.intro (G.out.1.below hb) (G.out.2.trans hb))
      have HO := hide ho
      clear ho hb hs0 hsl2
      go_wp2_with fail
      refine (spec_HallOk _ _ _ HO.out.toM.reads hll).mono ?_
      rintro e w5 ⟨rfl, b5⟩
      have G3 := hide (And.intro (G2.out.1.below b5) (G2.out.2.trans b5))
      have HO5 := hide ((HO.out.below b5).toM.mono (G.out.2.size))
      clear b5 G2 HO
      rw [hgo.out]
      cases haw : allW 0 200 hs with
      | false =>
        have hf := hide (show seatOk rows (Y : Int) (X : Int) hs = false from by rw [hso.out, haw])
        go_wp2_with fail
        go_ret2
        exact ⟨r, by rw [hf.out]; rfl, by unfold seatL; rw [hf.out]; exact G3.out.1, G3.out.2⟩
      | true =>
        have hf := hide (show seatOk rows (Y : Int) (X : Int) hs = true from by rw [hso.out, haw])
        go_wp2_with fail
        go_ret2
        exact ⟨.slice (some ⟨gv, 0, none⟩) rows.length cv, by rw [hf.out]; rfl, by unfold seatL; rw [hf.out, if_pos rfl, Int.toNat_natCast, Int.toNat_natCast]; exact HO5.out, G3.out.2⟩

end Go.Proofs.Ytkjclpbemdilbaa
