/- The law FnTours holds: for every input the program's function answers as the reference does; nothing that was there is changed. -/
import Derived.Test.YtemijekdcifncaaBtJ
import Derived.Test.YtemijekdcifncaaDrT
import Derived.Test.YtemijekdcifncaaTurn
import Derived.WalkKit
import Derived.ProofKit
import Derived.Handy
import Derived.OpenShut
import Derived.ShutString
import Derived.ChangeOld
import Derived.Below
import Derived.BigQuiet
import Derived.Deep.QuietTactic
import Derived.Deep.Draws
import Derived.Deep.DeepCutAuto
import Derived.Deep.DeepFit
import Derived.Deep.LoopGhost
import Derived.Outline
import Derived.WalkSpells
import Derived.WalkLawsBesides
import Derived.WalkSmall
import Derived.Laws.OwnMore
import Derived.OneCell
import Derived.Laws.Rows
import Derived.Maps.AppendAt
import Derived.StillTailTactics
import Derived.Lib.SmallJoins
import Derived.Deep.RegionWith
import Derived.Deep.RegionHeld3
import Derived.RegionTactic
import Derived.Deep.Matrix
import Derived.Deep.Fields
import Derived.ChangeSame
namespace Go.Proofs.Ytemijekdcifncaa
open Go.RowKit

theorem OwN.open_ {w : World} {B n : Nat} {v : Value} {zs : List Int} (h : OwN w B v n zs) (hn : 0 < n) : ∃ g c, v = .slice (some ⟨g, 0, none⟩) n c := by
  have hl := h.len
  subst hl
  rcases (OwN.toI h).form with ⟨rfl, rfl⟩ | ⟨g, cap, rfl, _⟩
  · simp at hn
  · exact ⟨g, cap, rfl⟩

theorem sumLen_le {rows : List (List Int)} {m : Nat} (h : ∀ y, y < rows.length → (rowAt rows y).length ≤ m) {k : Nat} (hk : k ≤ rows.length) : sumLen rows k ≤ k * m := by
  induction k with
  | zero => simp [sumLen]
  | succ k ih =>
    have h1 := ih (by omega)
    have h2 := h k (by omega)
    simp only [sumLen, Nat.succ_mul]
    omega
theorem map_okM {rows : List (List Int)} (h : mapOk rows = true) : OkM rows := by
  have hm := mapOk_iff.1 h
  have hn := mapP_len hm
  have h1 := sumLen_le (rows := rows) (m := 7) (fun y hy => by rw [hm.2.1 y hy]; omega) (Nat.le_refl _)
  exact ⟨by omega, by omega⟩
theorem RdI.cells {w : World} {A : Option Addr} {n c : Nat} {zs : List Int} (h : RdI w (.slice A n c) zs) (h0 : 0 < zs.length) : ∃ b off, A = some ⟨b, off, none⟩ ∧ b < w.heap.size ∧ ∀ j, j < zs.length → w.cell? ⟨b, off + j, none⟩ = some (.int .i64 (gt zs j)) := by
  obtain ⟨A', c', e, hx⟩ := h
  injection e with e1 e2 e3
  subst e1
  exact hx h0
theorem quiet_more {P : Program} {f : FuncId} {args : Array Value} {w : World} {n : Nat} {v : Value}
    (h : Calls P f args (w.drewN n) fun e w' => e = .returned v ∧ ∃ m, w' = (w.drewN n).drewN m) : Calls P f args (w.drewN n) fun e w'' => e = .returned v ∧ ∃ m, w'' = w.drewN m :=
  h.mono fun _ _ ⟨he, m, hm⟩ => ⟨he, n + m, by rw [hm, World.drewN_drewN]⟩
set_option maxRecDepth 100000 in
set_option linter.unusedVariables false in
set_option maxHeartbeats 1600000 in
theorem walk'_FnTours (w0 : World) (v : Value) (zs : List Int) (hr : RdB w0 v zs) (hml : zs.length ≤ maxLen) :
    Calls Try.prog 8 #[v] w0 fun e w' => e = .returned (.bool true) ∧ Nx w0 w' := by
  by_cases hl : 1048576 < zs.length
  · have hbig : decide (1048576 < (zs.length : Int)) = true := by simp; omega
    have HR := hide hr
    go_enter Try.func8, Try.ntmps8
    go_wp2_with (go_at_call 28; refine (big_any v zs _ HR.out).mono ?_; rintro e w' ⟨rfl, rfl⟩)
    go_ret
    exact ⟨rfl, Below.refl _ _⟩
  have hl : zs.length ≤ 1048576 := by omega
  have hbig : decide (1048576 < (zs.length : Int)) = false := by simp; omega
  have HR := hide hr
  clear hr
  go_enter Try.func8, Try.ntmps8
  go_wp2_with (go_at_call 28; refine (big_any v zs _ HR.out).mono ?_; rintro e w' ⟨rfl, rfl⟩)
  clear hbig
  go_wp2_with fail
  refine (DrawMap_any v zs _ HR.out hl).mono ?_
  rintro e w1 ⟨u, rows, rfl, ho, hm, hn5, hb⟩
  have hok := map_okM hm
  have hP := mapOk_iff.1 hm
  have hn2 := (mapP_len hP).1
  have HL := hide (tours_law hm)
  have HF := hide (fun (k : Nat) (h1 : 1 ≤ k) (h2 : k < rows.length) => near_first hm h1 h2)
  have H0 := hide (fun (h : 0 < (nearest rows).length) => (near_tour hm).2.1 _ (gt_mem h))
  have HM := hide hm
  have HK := hide hok
  have HP := hide hP
  have HD := hide ho.reads
  have HB := hide hb
  obtain ⟨A, c, rfl, hx0⟩ := ho.reads
  clear ho hb hm hok hP hx0
  go_wp2_with fail
  refine (impl_BestTour _ rows w1 HD.out HK.out).mono ?_
  rintro e w2 ⟨ub, rfl, hob, b2⟩
  have HD2 := hide (HD.out.below b2)
  have HB2 := hide (HB.out.trans b2)
  have HU := hide hob.reads
  obtain ⟨Ab, cb, rfl, hx0⟩ := hob.reads
  clear HD HB b2 hob hx0
  go_wp2_with fail
  refine (impl_NearestTour _ rows w2 HD2.out HK.out).mono ?_
  rintro e w3 ⟨un, rfl, hon, b3⟩
  have HD3 := hide (HD2.out.below b3)
  have HB3 := hide (HB2.out.trans b3)
  have HU3 := hide (HU.out.below b3)
  have HN := hide hon.reads
  obtain ⟨An, cn, rfl, hx0⟩ := hon.reads
  clear HD2 HB2 HU b3 hon hx0
  obtain ⟨X, hX⟩ : ∃ X, tourLen rows (bestTour rows) = X := ⟨_, rfl⟩
  obtain ⟨Y, hY⟩ : ∃ Y, tourLen rows (nearest rows) = Y := ⟨_, rfl⟩
  obtain ⟨L1, L2, L3, L4, L5, L6, L7, L8, L9⟩ := HL.out
  rw [hX, hY] at L2
  rw [hX] at L1 L3 L6 L7
  rw [hY] at L9
  have HX := hide hX
  have HY := hide hY
  have H3 := hide L3
  have H4 := hide L4
  have H5 := hide L5
  have H6 := hide L6
  have H7 := hide L7
  have H8 := hide L8
  clear hX hY L3 L4 L5 L6 L7 L8 HL
  generalize bestTour rows = T at *
  generalize nearest rows = N at *
  have hTl : T.length ≤ 1048576 := by have := H4.out; omega
  have hNl : N.length ≤ 1048576 := by have := H5.out; omega
  obtain ⟨R, hR⟩ : ∃ R, T.reverse = R := ⟨_, rfl⟩
  have H3r := hide (show tourLen rows R = X from by rw [← hR]; exact H3.out)
  have hTr : R.length ≤ 1048576 := by rw [← hR]; simpa using hTl
  have HR2 := hide (show R.reverse = T from by rw [← hR]; simp)
  have HRe := hide hR
  clear hR H3
  go_wp2_with fail
  refine (impl_TourLength _ rows _ T w3 HD3.out HK.out HU3.out hTl).mono ?_
  rintro e w4 ⟨rfl, b4⟩
  rw [HX.out]
  have HD4 := hide (HD3.out.below b4)
  have HB4 := hide (HB3.out.trans b4)
  have HU4 := hide (HU3.out.below b4)
  have HN4 := hide (HN.out.below b4)
  clear HD3 HB3 HU3 HN b4
  go_wp2_with fail
  refine (impl_TourLength _ rows _ N w4 HD4.out HK.out HN4.out hNl).mono ?_
  rintro e w5 ⟨rfl, b5⟩
  rw [HY.out]
  have HD5 := hide (HD4.out.below b5)
  have HB5 := hide (HB4.out.trans b5)
  have HU5 := hide (HU4.out.below b5)
  have HN5 := hide (HN4.out.below b5)
  clear HD4 HB4 HU4 HN4 b5
  go_wp2_with fail
  refine (impl_TurnedTour _ T w5 HU5.out hTl).mono ?_
  rintro e w6 ⟨ut, rfl, hot, b6⟩
  rw [HRe.out] at hot
  have HD6 := hide (HD5.out.below b6)
  have HB6 := hide (HB5.out.trans b6)
  have HU6 := hide (HU5.out.below b6)
  have HN6 := hide (HN5.out.below b6)
  have HT6 := hide hot.reads
  obtain ⟨At, ct, rfl, hx0⟩ := hot.reads
  clear HD5 HB5 HU5 HN5 b6 hot hx0
  go_wp2_with (go_at_call 27; fail)
  refine (impl_TourLength _ rows _ R w6 HD6.out HK.out HT6.out hTr).mono ?_
  rintro e w7 ⟨rfl, b7⟩
  rw [H3r.out]
  have HD7 := hide (HD6.out.below b7)
  have HB7 := hide (HB6.out.trans b7)
  have HU7 := hide (HU6.out.below b7)
  have HN7 := hide (HN6.out.below b7)
  have HT7 := hide (HT6.out.below b7)
  clear HD6 HB6 HU6 HN6 HT6 b7
  go_wp2_with (go_at_call 12; fail)
  refine (impl_TurnedTour _ R w7 HT7.out hTr).mono ?_
  rintro e w8 ⟨uq, rfl, hoq, b8⟩
  rw [HR2.out] at hoq
  have HQ8 := hide hoq.reads
  have HD8 := hide (HD7.out.below b8)
  have HB8 := hide (HB7.out.trans b8)
  have HU8 := hide (HU7.out.below b8)
  have HN8 := hide (HN7.out.below b8)
  clear HD7 HB7 HU7 HN7 HT7 b8 hoq
  go_wp2_with (go_at_call 31; fail)
  refine (same_yes _ _ T w8 HQ8.out HU8.out hTl).mono ?_
  rintro e w9 ⟨rfl, b9⟩
  have HD9 := hide (HD8.out.below b9)
  have HB9 := hide (HB8.out.trans b9)
  have HU9 := hide (HU8.out.below b9)
  have HN9 := hide (HN8.out.below b9)
  clear HD8 HB8 HU8 HN8 HQ8 b9
  have heq : ((T.length : Int) == (rows.length : Int) - 1) = true := by have := H4.out; simp; omega
  have hne : ((T.length : Int) != (rows.length : Int) - 1) = false := by simp [bne, heq]
  go_wp2_with fail
  clear heq hne
  go_loopw [9] (fun i wr => ∃ k : Nat, k + 1 ≤ T.length ∧ i = .int .i64 k ∧ Nx w9 wr) (fun i _ => T.length - (intOf i).toNat)
  case atStart => exact ⟨0, by have := H4.out; omega, rfl, Below.refl _ _⟩
  case round =>
    obtain ⟨k, hk, rfl, hb⟩ := hrel
    by_cases hlt : k + 1 < T.length
    ·
      have HBr := hide hb
      have HUr := hide (HU9.out.below hb)
      have HDr := hide (HD9.out.below hb)
      have hki : (k : Int) + 1 < (T.length : Int) := by omega
      have hki0 : (k : Int) < (T.length : Int) := by omega
      have hsw := hide (H6.out k hlt)
      have ho0 := OwI.made0 wr
      have hb1 := Nx.made wr (.cells #[] 3)
      have hrr := HUr.out.below hb1
      obtain ⟨b0, off, rfl, hb0, hc0⟩ := HUr.out.cells (by omega)
      have Hc0 := hide hc0
      clear hb hc0
      go_wp2_with (at_builtin; go_loud (refine wpList_joinI rfl (.tmp 64) (.tmp 65) rfl _ wr.heap.size _ [] _ T rfl rfl ho0 hrr (by simp; omega) (by simp) ?_; intro v1 w10 hown1 hg1 hat1; have hb10 := hb1.only ho0 hg1 (Nat.le_refl _); have hown1 := (show OwN w10 wr.heap.size v1 T.length T from hown1); obtain ⟨g1, c1, rfl⟩ := hown1.open_ (by omega); have hgB := hown1.block; have e1 := hown1.cellAt (j := k) (by omega); have e2 := hown1.cellAt (j := k + 1) (by omega); have e3 := hown1.frozenAt k; have e4 := hown1.frozenAt (k + 1); have q1 := (hb10.cells b0 (off + (k + 1)) hb0).trans (Hc0.out (k + 1) hlt); have q2 := (hb10.cells b0 (off + k) hb0).trans (Hc0.out k (by omega)); have hne : b0 ≠ g1 := (by omega); have hne' : g1 ≠ b0 := (by omega); have HO1 := hide ((hown1.stored k (gt T (k + 1))).1.stored (k + 1) (gt T k)).1; have HB1 := hide ((hb10.setCell (p := ⟨g1, k, none⟩) hgB.1 (.int .i64 (gt T (k + 1)))).setCell (p := ⟨g1, k + 1, none⟩) hgB.1 (.int .i64 (gt T k))); clear hown1 hg1 hat1 hb10 hgB))
      have hlen' : ((T.set k (gt T (k + 1))).set (k + 1) (gt T k)).length = T.length := by simp
      have hC := HO1.out.toI.reads
      have HC : Hid (RdI _ (.slice (some ⟨g1, 0, none⟩) T.length c1) (swapL T k)) := hC
      have hsl : (swapL T k).length ≤ 1048576 := by unfold swapL; rw [hlen']; exact hTl
      have HBw := hide (HBr.out.trans HB1.out)
      clear hlen' hC e1 e2 e3 e4 q1 q2
      obtain ⟨Z, hZ⟩ : ∃ Z, tourLen rows (swapL T k) = Z := ⟨_, rfl⟩
      have hXZ : X ≤ Z := by rw [← hZ]; exact hsw.out
      have HZ := hide hZ
      clear hZ
      refine (impl_TourLength _ rows _ (swapL T k) _ (HDr.out.below HB1.out) HK.out HC.out hsl).mono ?_
      rintro e w11 ⟨rfl, b11⟩
      rw [HZ.out]
      have HB11 := hide (HBw.out.trans b11)
      clear b11
      go_wp2_with fail
      go_roundw
      case rel => exact ⟨k + 1, by omega, by go_num, HB11.out⟩
      case measure => simp [intOf]; omega
    · obtain ⟨w10, e10⟩ : ∃ w10, w10 = wr := ⟨_, rfl⟩
      subst e10
      have HD10 := hide (HD9.out.below hb)
      have HB10 := hide (HB9.out.trans hb)
      have HN10 := hide (HN9.out.below hb)
      have hke : k + 1 = T.length := by omega
      have hkT : ¬ (k : Int) + 1 < (T.length : Int) := by omega
      have hN0 : ((N.length : Int) == 0) = false := by have := H5.out; rw [beq_eq_false_iff_ne]; omega
      have hN1 : 0 < N.length := by have := H5.out; omega
      have hz := H0.out hN1
      clear HD9 HB9 HU9 HN9 hb hke
      go_wp2_with fail
      clear hN0 hkT
      go_loopw [11] (fun i wr => ∃ k : Nat, k + 1 ≤ rows.length ∧ i = .int .i64 ((k : Int) + 1) ∧ Nx w10 wr) (fun i _ => rows.length - (intOf i).toNat)
      case atStart => exact ⟨0, by omega, rfl, Below.refl _ _⟩
      case round =>
        obtain ⟨j, hj, rfl, hb⟩ := hrel
        by_cases hjl : j + 1 < rows.length
        ·
          have HBr := hide hb
          have hDr := HD10.out.below hb
          obtain ⟨b, off, c', rb, ro, rc, eA, h1, h2⟩ := hDr.sq rfl (fun y hy => HP.out.2.1 y hy) (by omega)
          injection eA with eA1 eA2 eA3
          subst eA1
          subst eA3
          clear eA2
          obtain ⟨bn, offn, rfl, hbn, hcn⟩ := (HN10.out.below hb).cells hN1
          have k1 := h1 0 (by omega)
          have k2 := h2 0 (j + 1) (by omega) hjl
          have k3 := hcn 0 hN1
          have hzz : (gt N 0).toNat < rows.length := by omega
          have k4 := h2 0 (gt N 0).toNat (by omega) hzz
          have hf := HF.out (j + 1) (by omega) hjl
          have hD0 := mapP_bd HP.out 0 (j + 1) (by omega) hjl
          have hsh := fun (h : hasShort rows = false) => H7.out h (j + 1) (by omega) hjl
          rw [Nat.add_zero] at k1 k3
          have l1 := block_lt_of_cell k1
          have l2 := block_lt_of_cell k2
          have hji : (j : Int) + 1 < (rows.length : Int) := by omega
          have hji0 : 0 ≤ (j : Int) + 1 := by omega
          have hjt : ((j : Int) + 1).toNat = j + 1 := by omega
          have hr0 : 0 < rows.length := by omega
          have hn0 : 0 < N.length := hN1
          have hz0 : 0 ≤ gt N 0 := by omega
          have hz1 : gt N 0 < (rows.length : Int) := by omega
          have Hsh := hide hsh
          clear hb hDr h1 h2 hcn hsh
          generalize gt N 0 = z at *
          generalize g2 rows 0 (j + 1) = D at *
          generalize g2 rows 0 z.toNat = D0 at *
          generalize rb 0 = b1 at *
          generalize ro 0 = o1 at *
          generalize rc 0 = c1 at *
          have hdd : decide (D < D0) = false := decide_eq_false (by omega)
          have Hq := hide (fun n => quiet_more (implQ_HasShortcuts _ rows (wr.drewN n) (HD10.out.below (HBr.out.trans (Nx.drewN (Below.refl _ _) n))) HK.out))
          cases hs : hasShort rows with
          | true =>
            rw [hs] at Hq
            clear hs
            go_wp2_with fail
            have w1' : IntKind.i64.wrap (2 * D) = 2 * D := IntWalk.i64_in _ (by omega)
            go_quiet ((go_at_call 22; exact Hq.out _))
            clear w1' hdd k1 k2 k3 k4
            go_wp2
            go_roundw
            case rel => exact ⟨j + 1, by omega, by go_num, Nx.drewN HBr.out _⟩
            case measure => simp [intOf]; omega
          | false =>
            rw [hs] at Hq
            have h2D := Hsh.out hs
            have hdX : decide (X < 2 * D) = false := decide_eq_false (by omega)
            clear hs
            go_wp2_with fail
            have w1' : IntKind.i64.wrap (2 * D) = 2 * D := IntWalk.i64_in _ (by omega)
            go_quiet ((go_at_call 22; exact Hq.out _))
            clear w1' hdd hdX k1 k2 k3 k4
            go_wp2
            go_roundw
            case rel => exact ⟨j + 1, by omega, by go_num, Nx.drewN HBr.out _⟩
            case measure => simp [intOf]; omega
        · have hjk : ¬ (j : Int) + 1 < (rows.length : Int) := by omega
          have HB11 := hide (HB10.out.trans hb)
          have HD11 := hide (HD10.out.below hb)
          clear hb HB10 HD10 HN10
          go_wp2_with (go_at_call 19; fail)
          refine (impl_MapOk _ rows _ HD11.out HK.out).mono ?_
          rintro e w12 ⟨rfl, b12⟩
          rw [HM.out]
          have HB12 := hide (HB11.out.trans b12)
          have HD12 := hide (HD11.out.below b12)
          clear b12
          go_wp2_with (go_at_call 27; fail)
          refine (impl_TourLength _ rows _ [] w12 HD12.out HK.out (RdI.nil _ _ _) (by simp)).mono ?_
          rintro e w13 ⟨rfl, b13⟩
          rw [H8.out]
          have HB13 := hide (HB12.out.trans b13)
          clear b13
          go_wp2_with fail
          go_ret
          exact ⟨rfl, HB13.out⟩

open Go.ChangeShapes Go.WideShapes Go.ChangeAt Go.RowKit
open Go.ChangeMaps (open_string shut_string)

set_option linter.unusedVariables false
set_option maxRecDepth 100000 in
theorem lifted_FnTours (os : Os) (started : os.Started) (H : Type) (enc : TypeId × Value → H) :
    ReturnsInHanded {} Try.checked os 8 .any (Rows.fnToursSpec.pre6 enc Try.prog Try.f8 Rows.fnToursRow.domain false) (Rows.fnToursSpec.post enc Try.prog Try.f8 false true false false) := by
  refine returnsInHanded_of_change (C := Try.checked) own started (by kernel_rfl) Try.func8
    (ChangeSpec.witness6 (enc := enc) (C := Try.checked) false ⟨#[], #[.slice none 0 0], []⟩ 8 (by kernel_rfl) (by kernel_rfl) (by kernel_rfl) (by kernel_rfl)) ?_
  intro W base args ds gs before hval0 hW hcnd _
  have hval : ∀ (j : Nat) t v, Try.f8.params[j]? = some t → args[j]? = some v → Value.okWide Try.prog W .any base t v := hval0
  have hW' := hW
  obtain ⟨p, q, hA0, hV, rfl, hfz, hnd⟩ := hW
  have hA : DataW.TrodAll enc Try.prog W 0 (fun _ => true) true Try.f8.params.toList args.toList ds p := hA0
  rw [Try.params8] at hA hval
  obtain ⟨v0, vs0, d0, ds0, p0, q0, hargs, rfl, rfl, h0, r0⟩ := trodAll_cons hA
  obtain ⟨rfl, rfl, rfl⟩ := trodAll_nil r0
  obtain rfl : args = #[v0] := by cases args; simp_all
  obtain ⟨rfl, rfl⟩ := trodVars_none hV
  obtain ⟨a0, len0, cap0, rfl⟩ := okWide_slice Try.underlying35 (hval 0 35 v0 rfl rfl)
  have k0 := h0
  have lt0 : ∀ x ∈ p0, x.block < W.heap.size := by obtain ⟨m, hm⟩ := k0; exact DataW.trod_lt m _ _ _ hm
  obtain ⟨z0, w0⟩ : ∃ zs, IsRow .u8 W a0 len0 cap0 zs := by
    obtain ⟨fuel, hf⟩ := h0
    rcases open_ints Try.underlying35 Try.underlying5 (by kernel_rfl) hf with ⟨hcs, _⟩ | ⟨x, l, c, zs, hcs, _, hl, hm, hz, _, hcell, hwz⟩
    · simp [Value.cells] at hcs
      obtain ⟨rfl, rfl, rfl⟩ := hcs
      exact ⟨[], .inl ⟨rfl, rfl, rfl, rfl⟩⟩
    · simp [Value.cells] at hcs
      obtain ⟨rfl, rfl, rfl⟩ := hcs
      exact ⟨zs, .inr ⟨_, rfl, hl, hm, by simpa using hz, hcell, hwz⟩⟩
  obtain ⟨y0, rd0, ln0⟩ := isRow_readsB w0
  clear hA0 hval0
  refine (walk'_FnTours W _ y0 rd0 ln0).mono fun e W' ⟨he, bel⟩ => ?_
  subst he
  exact ⟨_, rfl, _, _, _, [], _, [], hW', trodAll_mk1 (shut_bool Try.underlying4 _), (trodAll_cons_mk (Below.trod laidOut (by kernel_rfl) (of_decide_eq_true (by kernel_rfl)) k0 bel lt0) trodAll_mk0), rfl, bel.frame _, fun h => by cases h⟩

theorem holds_FnTours : Rows.FnToursSaid :=
  OpenClaim.holds_of_wide 8 Try.f8 rfl rfl rfl rfl rfl rfl rfl ⟨rfl, rfl, rfl, rfl, rfl⟩ rfl rfl rfl rfl rfl (by kernel_rfl) Try.func8 (by kernel_rfl)
    (of_decide_eq_true (by kernel_rfl)) (by unfold Func.isWrapper; first | (rw [if_pos (by decide +kernel)]; kernel_rfl) | (rw [if_neg (by decide +kernel)]; exact ⟨rfl, rfl⟩))
    (fun os started H enc _ => lifted_FnTours os started H enc)
#print axioms holds_FnTours

end Go.Proofs.Ytemijekdcifncaa
