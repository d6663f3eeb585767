/- The law FnCostumes holds: for every input the program's function answers as the reference does; nothing that was there is changed. -/
import Derived.Test.YtmleamknongknaaCoP
import Derived.Test.YtmleamknongknaaDrC
import Derived.WalkKit
import Derived.ProofKit
import Derived.Handy
import Derived.OpenShut
import Derived.ShutString
import Derived.ChangeOld
import Derived.Below
import Derived.BigQuiet
import Derived.Deep.QuietTactic
import Derived.Deep.Draws
import Derived.Deep.DeepCutAuto
import Derived.Deep.DeepFit
import Derived.Deep.LoopGhost
import Derived.Outline
import Derived.WalkSpells
import Derived.WalkLawsBesides
import Derived.WalkSmall
import Derived.Laws.OwnMore
import Derived.OneCell
import Derived.Laws.Rows
import Derived.Maps.AppendAt
import Derived.StillTailTactics
import Derived.Lib.SmallJoins
import Derived.Deep.RegionWith
import Derived.Deep.RegionHeld3
import Derived.RegionTactic
import Derived.Deep.Matrix
import Derived.Deep.Fields
import Derived.ChangeSame
namespace Go.Proofs.Ytmleamknongknaa
open Go.RowKit

theorem RdI.cells {w : World} {A : Option Addr} {n c : Nat} {zs : List Int} (h : RdI w (.slice A n c) zs) (h0 : 0 < zs.length) : ∃ b off, A = some ⟨b, off, none⟩ ∧ b < w.heap.size ∧ ∀ j, j < zs.length → w.cell? ⟨b, off + j, none⟩ = some (.int .i64 (gt zs j)) := by
  obtain ⟨A', c', e, hx⟩ := h
  injection e with e1 e2 e3
  subst e1
  exact hx h0
theorem c_fit1 {c L : Int} (hc : 20 ≤ c ∧ c ≤ 28) (hL : 15 ≤ L ∧ L ≤ 22) (w : World) : Calls Try.prog 14 #[Ms (c + 3) 12 L, Ms c 10 L] w fun e w' => e = .returned (.bool true) ∧ Nx w w' := by
  have h := impl_FitsFor (c + 3) 12 L c 10 L w
  rw [(two_fits hc hL).1] at h
  exact h
theorem c_fit2 {c L : Int} (hc : 20 ≤ c ∧ c ≤ 28) (hL : 15 ≤ L ∧ L ≤ 22) (w : World) : Calls Try.prog 14 #[Ms (c + 3) 12 L, Ms (c + 3) 12 (L - 2)] w fun e w' => e = .returned (.bool true) ∧ Nx w w' := by
  have h := impl_FitsFor (c + 3) 12 L (c + 3) 12 (L - 2) w
  rw [(two_fits hc hL).2.1] at h
  exact h
theorem c_mok {c L : Int} (hc : 20 ≤ c ∧ c ≤ 28) (hL : 15 ≤ L ∧ L ≤ 22) (w : World) : Calls Try.prog 12 #[Ms c 10 L] w fun e w' => e = .returned (.bool true) ∧ Nx w w' := by
  have h := impl_MeasureOk c 10 L w
  rw [(two_fits hc hL).2.2.1] at h
  exact h
theorem c_few (w : World) : Calls Try.prog 25 #[.slice none 0 0, .int .i64 3] w fun e w' => e = .returned (.int .i64 0) ∧ Nx w w' := by
  have h := impl_FewestCostumes (.slice none 0 0) [] 3 w (RdI.nil _ _ _) (by simp) (by unfold I64; omega)
  rw [few_nil] at h
  exact h
theorem c_cloth {a b c X : Int} (h : cloth a b c = X) (w : World) : Calls Try.prog 16 #[Ms a b c] w fun e w' => e = .returned (.int .i64 X) ∧ Nx w w' := by
  have h1 := impl_ClothOf a b c w
  rw [h] at h1
  exact h1
theorem keep9 {W w w' : World} {g1 g2 g3 : Nat} {v1 v2 v3 v4 v5 v6 v7 v8 v9 : Option Value} (hl : g1 < W.heap.size ∧ g2 < W.heap.size ∧ g3 < W.heap.size) (b : Nx w w') (h : Nx W w ∧ w.cell? ⟨g1, 0, none⟩ = v1 ∧ w.cell? ⟨g1, 1, none⟩ = v2 ∧ w.cell? ⟨g1, 2, none⟩ = v3 ∧ w.cell? ⟨g2, 0, none⟩ = v4 ∧ w.cell? ⟨g2, 1, none⟩ = v5 ∧ w.cell? ⟨g2, 2, none⟩ = v6 ∧ w.cell? ⟨g3, 0, none⟩ = v7 ∧ w.cell? ⟨g3, 1, none⟩ = v8 ∧ w.cell? ⟨g3, 2, none⟩ = v9) :
    Nx W w' ∧ w'.cell? ⟨g1, 0, none⟩ = v1 ∧ w'.cell? ⟨g1, 1, none⟩ = v2 ∧ w'.cell? ⟨g1, 2, none⟩ = v3 ∧ w'.cell? ⟨g2, 0, none⟩ = v4 ∧ w'.cell? ⟨g2, 1, none⟩ = v5 ∧ w'.cell? ⟨g2, 2, none⟩ = v6 ∧ w'.cell? ⟨g3, 0, none⟩ = v7 ∧ w'.cell? ⟨g3, 1, none⟩ = v8 ∧ w'.cell? ⟨g3, 2, none⟩ = v9 := by
  obtain ⟨hb, h1, h2, h3, h4, h5, h6, h7, h8, h9⟩ := h
  have hs := hb.size
  refine ⟨hb.trans b, (b.cells g1 0 (by omega)).trans h1, (b.cells g1 1 (by omega)).trans h2, (b.cells g1 2 (by omega)).trans h3, (b.cells g2 0 (by omega)).trans h4, (b.cells g2 1 (by omega)).trans h5, (b.cells g2 2 (by omega)).trans h6, (b.cells g3 0 (by omega)).trans h7, (b.cells g3 1 (by omega)).trans h8, (b.cells g3 2 (by omega)).trans h9⟩
set_option maxRecDepth 100000 in
set_option linter.unusedVariables false in
set_option maxHeartbeats 8000000 in
theorem walk'_FnCostumes (w0 : World) (v : Value) (zs : List Int) (hr : RdB w0 v zs) (hml : zs.length ≤ maxLen) :
    Calls Try.prog 9 #[v] w0 fun e w' => e = .returned (.bool true) ∧ Nx w0 w' := by
  by_cases hl : 1048576 < zs.length
  · have hbig : decide (1048576 < (zs.length : Int)) = true := by simp; omega
    have HR := hide hr
    go_enter Try.func9, Try.ntmps9
    go_wp2_with (go_at_call 31; refine (big_any v zs _ HR.out).mono ?_; rintro e w' ⟨rfl, rfl⟩)
    go_ret
    exact ⟨rfl, Below.refl _ _⟩
  have hl : zs.length ≤ 1048576 := by omega
  have hbig : decide (1048576 < (zs.length : Int)) = false := by simp; omega
  have HR := hide hr
  clear hr
  go_enter Try.func9, Try.ntmps9
  go_wp2_with (go_at_call 31; refine (big_any v zs _ HR.out).mono ?_; rintro e w' ⟨rfl, rfl⟩)
  clear hbig
  go_wp2_with fail
  refine (DrawChests_any v zs _ HR.out hl).mono ?_
  rintro e w1 ⟨u, ea, rfl, xs, ho, ⟨hlen, hxs⟩, hea, hb⟩
  have hx5 : xs.length ≤ 1048576 := by omega
  obtain ⟨A, c, rfl, hx0⟩ := ho.reads
  clear hx0
  have hok : okC xs ea = true := by
    simp only [okC, Bool.and_eq_true, decide_eq_true_eq]
    exact ⟨⟨by omega, allW_iff.2 fun k hk => by have := hxs k hk; omega⟩, inR_iff.2 (by omega)⟩
  have hlaw := widths_law hok (by omega)
  have hfew : fewC xs ea = ((widthsL xs ea).length : Int) := by unfold fewC; rw [if_pos hok]
  have HF := hide hfew
  have HX := hide hxs
  have HO := hide ho
  have HB := hide hb
  clear hxs ho hb hok hfew
  go_wp2_with fail
  refine (impl_WidthsFor _ xs ea w1 HO.out.reads hx5 (by unfold I64; omega)).mono ?_
  rintro e w2 ⟨uw, rfl, how, b⟩
  have HW := hide how
  obtain ⟨A2, c2, rfl, hx0⟩ := how.reads
  have HO2 := hide (HO.out.below b)
  have HB2 := hide (HB.out.trans b)
  clear b HO HB hx0 how
  obtain ⟨hn1, hsuit, hgap, hhas, hwb, hn30⟩ := hlaw
  have Hsuit := hide hsuit
  have Hgap := hide hgap
  have Hhas := hide hhas
  have Hwb := hide hwb
  clear hsuit hgap hhas hwb
  go_wp2_with fail
  refine (impl_FewestCostumes _ xs ea w2 HO2.out.reads hx5 (by unfold I64; omega)).mono ?_
  rintro e w3 ⟨rfl, b⟩
  rw [HF.out]
  have HW3 := hide (HW.out.below b)
  have HO3 := hide (HO2.out.below b)
  have HB3 := hide (HB2.out.trans b)
  clear b HW HO2 HB2 HF
  generalize widthsL xs ea = W at *
  have hni : (1 : Int) ≤ (W.length : Int) := by omega
  go_wp2_with fail
  go_loopw [7] (fun i wr => ∃ k : Nat, k ≤ xs.length ∧ i = .int .i64 k ∧ Nx w3 wr) (fun i _ => xs.length - (intOf i).toNat)
  case atStart => exact ⟨0, Nat.zero_le _, rfl, Below.refl _ _⟩
  case round =>
    obtain ⟨k, hk, rfl, hb⟩ := hrel
    by_cases hlt : k < xs.length
    ·
      obtain ⟨b0, off, rfl, hb0, hc⟩ := HO3.out.reads.cells (by omega)
      obtain ⟨b1, off1, rfl, hb1, hcw⟩ := HW3.out.reads.cells (by omega)
      have hk1 : (k : Int) < (xs.length : Int) := by omega
      have hxk := HX.out k hlt
      have hone := hide (Hsuit.out k hlt)
      have Hc := hide (hc k hlt)
      have Hcw := hide hcw
      have Hb := hide hb
      clear hc hcw hb
      go_wp2_with fail
      go_loopw [8, 9] (fun t i wq => ∃ j : Nat, j ≤ W.length ∧ i = .int .i64 j ∧ t = .int .i64 (suitTo W (gt xs k) ea j) ∧ Nx w3 wq) (fun _ i _ => W.length - (intOf i).toNat)
      case atStart => exact ⟨0, Nat.zero_le _, rfl, rfl, Hb.out⟩
      case round =>
        clear Hb
        obtain ⟨j, hj, rfl, rfl, hb⟩ := hrel
        by_cases hjl : j < W.length
        · have q1 := (hb.cells b0 (off + k) hb0).trans Hc.out
          have q2 := (hb.cells b1 (off1 + j) hb1).trans (Hcw.out j hjl)
          have hj1 : (j : Int) < (W.length : Int) := by omega
          have hwj := Hwb.out j hjl
          have hsb := suitTo_bd W (gt xs k) ea j
          have hnx := hide (show suitTo W (gt xs k) ea (j + 1) = suitTo W (gt xs k) ea j + if gt xs k ≤ gt W j ∧ gt W j ≤ gt xs k + ea then 1 else 0 from rfl)
          have Hb := hide hb
          clear hb
          generalize suitTo W (gt xs k) ea j = t at *
          by_cases hA : gt xs k ≤ gt W j
          · by_cases hB : gt W j ≤ gt xs k + ea
            · have hs1 := hide (show suitTo W (gt xs k) ea (j + 1) = t + 1 from by rw [hnx.out, if_pos ⟨hA, hB⟩])
              have dA : decide (gt xs k ≤ gt W j) = true := decide_eq_true hA
              have dB : decide (gt W j ≤ gt xs k + ea) = true := decide_eq_true hB
              go_wp2_with fail
              have w1' : IntKind.i64.wrap (gt xs k + ea) = gt xs k + ea := IntWalk.i64_in _ (by omega)
              have w2' : IntKind.i64.wrap (t + 1) = t + 1 := IntWalk.i64_in _ (by omega)
              have w3' : IntKind.i64.wrap t = t := IntWalk.i64_in _ (by omega)
              go_quiet ((go_at_call 33; first | exact quiet_left (btoi_true _) | exact quiet_left (btoi_false _)))
              clear w1' w2' w3'
              go_wp2
              go_roundw
              case rel => exact ⟨j + 1, by omega, by go_num, by rw [hs1.out], Nx.drewN Hb.out _⟩
              case measure => simp [intOf]; omega
            · have hs1 := hide (show suitTo W (gt xs k) ea (j + 1) = t from by rw [hnx.out, if_neg (fun h => hB h.2), Int.add_zero])
              have dA : decide (gt xs k ≤ gt W j) = true := decide_eq_true hA
              have dB : decide (gt W j ≤ gt xs k + ea) = false := decide_eq_false hB
              go_wp2_with fail
              have w1' : IntKind.i64.wrap (gt xs k + ea) = gt xs k + ea := IntWalk.i64_in _ (by omega)
              have w2' : IntKind.i64.wrap (t + 1) = t + 1 := IntWalk.i64_in _ (by omega)
              have w3' : IntKind.i64.wrap t = t := IntWalk.i64_in _ (by omega)
              go_quiet ((go_at_call 33; first | exact quiet_left (btoi_true _) | exact quiet_left (btoi_false _)))
              clear w1' w2' w3'
              go_wp2
              go_roundw
              case rel => exact ⟨j + 1, by omega, by go_num, by rw [hs1.out], Nx.drewN Hb.out _⟩
              case measure => simp [intOf]; omega
          · have hs1 := hide (show suitTo W (gt xs k) ea (j + 1) = t from by rw [hnx.out, if_neg (fun h => hA h.1), Int.add_zero])
            have dA : decide (gt xs k ≤ gt W j) = false := decide_eq_false hA
            go_wp2_with fail
            have w1' : IntKind.i64.wrap (gt xs k + ea) = gt xs k + ea := IntWalk.i64_in _ (by omega)
            have w2' : IntKind.i64.wrap (t + 1) = t + 1 := IntWalk.i64_in _ (by omega)
            have w3' : IntKind.i64.wrap t = t := IntWalk.i64_in _ (by omega)
            go_quiet ((go_at_call 33; first | exact quiet_left (btoi_true _) | exact quiet_left (btoi_false _)))
            clear w1' w2' w3'
            go_wp2
            go_roundw
            case rel => exact ⟨j + 1, by omega, by go_num, by rw [hs1.out], Nx.drewN Hb.out _⟩
            case measure => simp [intOf]; omega
        · obtain rfl : j = W.length := by omega
          rw [hone.out]
          have Hb := hide hb
          clear hb
          go_wp2_with fail
          go_roundw
          case rel => exact ⟨k + 1, by omega, by go_num, Hb.out⟩
          case measure => simp [intOf]; omega
    · obtain rfl : k = xs.length := by omega
      obtain ⟨w4, e4⟩ : ∃ w4, w4 = wr := ⟨_, rfl⟩
      subst e4
      have HO4 := hide (HO3.out.below hb)
      have HW4 := hide (HW3.out.below hb)
      have HB4 := hide (HB3.out.trans hb)
      clear HO3 HW3 HB3 hb
      go_wp2_with fail
      go_loopw [10] (fun i wr => ∃ k : Nat, k ≤ W.length ∧ i = .int .i64 k ∧ Nx w4 wr) (fun i _ => W.length - (intOf i).toNat)
      case atStart => exact ⟨0, Nat.zero_le _, rfl, Below.refl _ _⟩
      case round =>
        obtain ⟨k, hk, rfl, hb⟩ := hrel
        by_cases hlt : k < W.length
        ·
          obtain ⟨b1, off1, rfl, hb1, hcw⟩ := HW4.out.reads.cells (by omega)
          have hk1 : (k : Int) < (W.length : Int) := by omega
          have q1 := (hb.cells b1 (off1 + k) hb1).trans (hcw k hlt)
          have hwk := Hwb.out k hlt
          have Hm := hide (Hhas.out k hlt)
          have Hrd := hide (show ∀ n, RdI (wr.drewN n) (.slice A xs.length c) xs from fun n => (HO4.out.below hb).reads.below (Nx.drewN (Below.refl _ _) n))
          have Hb := hide hb
          rcases Nat.eq_zero_or_pos k with h0 | h0
          · subst h0
            rw [Nat.add_zero] at q1
            clear hb hcw
            go_wp2_with fail
            have w1' : IntKind.i64.wrap (gt W 0 - ea) = gt W 0 - ea := IntWalk.i64_in _ (by omega)
            go_quiet ((go_at_call 34; exact quiet_left (has_yes _ xs _ _ (Hrd.out _) hx5 Hm.out)))
            clear w1'
            go_wp2
            go_roundw
            case rel => exact ⟨1, by omega, by go_num, Nx.drewN Hb.out _⟩
            case measure => simp [intOf]; omega
          · have q2 := (hb.cells b1 (off1 + (k - 1)) hb1).trans (hcw (k - 1) (by omega))
            have hwk2 := Hwb.out (k - 1) (by omega)
            have hgp := Hgap.out k h0 hlt
            have h0i : 0 < (k : Int) := by omega
            have dG : decide (gt W k ≤ gt W (k - 1) + ea) = false := decide_eq_false (by omega)
            clear hb hcw
            go_wp2_with fail
            have w1' : IntKind.i64.wrap (gt W k - ea) = gt W k - ea := IntWalk.i64_in _ (by omega)
            have w2' : IntKind.i64.wrap (gt W (k - 1) + ea) = gt W (k - 1) + ea := IntWalk.i64_in _ (by omega)
            have w3' : IntKind.i64.wrap ((k : Int) - 1) = (k : Int) - 1 := IntWalk.i64_in _ (by omega)
            have w4' : 0 ≤ (k : Int) - 1 := by omega
            have w5' : ((k : Int) - 1).toNat = k - 1 := by omega
            have w6' : (k : Int) - 1 < (W.length : Int) := by omega
            have w7' : 1 ≤ (k : Int) := by omega
            go_quiet ((go_at_call 34; exact quiet_left (has_yes _ xs _ _ (Hrd.out _) hx5 Hm.out)))
            clear w1' w2' w3' w5'
            go_wp2
            go_roundw
            case rel => exact ⟨k + 1, by omega, by go_num, Nx.drewN Hb.out _⟩
            case measure => simp [intOf]; omega
        · obtain rfl : k = W.length := by omega
          have HB5 := hide (HB4.out.trans hb)
          clear HO4 HW4 HB4 hb Hsuit Hgap Hhas Hwb HX
          go_wp2_with (go_at_call 35; fail)
          refine (at_any v zs 0 _ (HR.out.below HB5.out) hl (by omega)).mono ?_
          rintro e w5 ⟨a, rfl, ha, rfl⟩
          have r1 : 0 ≤ a % 9 ∧ a % 9 ≤ 8 := by omega
          go_wp2_with (go_at_call 35; fail)
          refine (at_any v zs 1 _ (HR.out.below HB5.out) hl (by omega)).mono ?_
          rintro e w5 ⟨b, rfl, hbb, rfl⟩
          have r2 : 0 ≤ b % 8 ∧ b % 8 ≤ 7 := by omega
          go_wp2_with (go_at_call 20; fail)
          have hcc : 20 ≤ 20 + a % 9 ∧ 20 + a % 9 ≤ 28 := by omega
          have hLL : 15 ≤ 15 + b % 8 ∧ 15 + b % 8 ≤ 22 := by omega
          clear ha hbb r1 r2
          generalize 20 + a % 9 = cc at hcc ⊢
          generalize 15 + b % 8 = L at hLL ⊢
          have hrd := rdS_two ((wr.alloc (.cells #[.int .i64 cc, .int .i64 10, .int .i64 L] 25)).alloc (.cells #[.int .i64 (cc + 3), .int .i64 12, .int .i64 (L - 2)] 25)) 25 cc L
          rw [show ((wr.alloc (.cells #[.int .i64 cc, .int .i64 10, .int .i64 L] 25)).alloc (.cells #[.int .i64 (cc + 3), .int .i64 12, .int .i64 (L - 2)] 25)).heap.size = wr.heap.size + 1 + 1 from by simp] at hrd
          refine (impl_SharedCostume _ _ _ hrd (by simp)).mono ?_
          rintro e w6 ⟨rfl, b6⟩
          rw [shared_two hcc hLL]
          have hB1 := (((Blk.new wr 25 #[.int .i64 cc, .int .i64 10, .int .i64 L]).alloc (.cells #[.int .i64 (cc + 3), .int .i64 12, .int .i64 (L - 2)] 25)).alloc (.cells #[.int .i64 cc, .int .i64 10, .int .i64 L, .int .i64 (cc + 3), .int .i64 12, .int .i64 (L - 2)] 25)).below b6
          have hB2 := ((Blk.new (wr.alloc (.cells #[.int .i64 cc, .int .i64 10, .int .i64 L] 25)) 25 #[.int .i64 (cc + 3), .int .i64 12, .int .i64 (L - 2)]).alloc (.cells #[.int .i64 cc, .int .i64 10, .int .i64 L, .int .i64 (cc + 3), .int .i64 12, .int .i64 (L - 2)] 25)).below b6
          rw [show (wr.alloc (.cells #[.int .i64 cc, .int .i64 10, .int .i64 L] 25)).heap.size = wr.heap.size + 1 from by simp] at hB2
          have HB6 := hide ((((HB5.out.trans (Nx.made _ _)).trans (Nx.made _ _)).trans (Nx.made _ _)).trans b6)
          have hz6 : wr.heap.size + 1 < w6.heap.size := hB2.lt
          have HQ1 := hide hB1
          have HQ2 := hide hB2
          clear hrd b6 hB1 hB2 HB5
          generalize wr.heap.size = gm at *
          go_wp2_with fail
          have q1 := HQ1.out.alloc (.cells #[.int .i64 (cc + 3), .int .i64 12, .int .i64 L] 25)
          have q2 := HQ2.out.alloc (.cells #[.int .i64 (cc + 3), .int .i64 12, .int .i64 L] 25)
          have q3 := Blk.new w6 25 #[.int .i64 (cc + 3), .int .i64 12, .int .i64 L]
          have q4 := HB6.out.trans (Nx.made w6 (.cells #[.int .i64 (cc + 3), .int .i64 12, .int .i64 L] 25))
          clear HQ1 HQ2 HB6 hz6
          generalize w6.heap.size = g3 at *
          generalize World.alloc _ _ = w7 at q1 q2 q3 q4 ⊢
          have HB7 := hide q4
          have HL := hide (And.intro q1.lt (And.intro q2.lt q3.lt))
          have HS0 := hide (show Nx w7 w7.drew ∧ w7.drew.cell? ⟨gm, 0, none⟩ = some (.int .i64 cc) ∧ w7.drew.cell? ⟨gm, 1, none⟩ = some (.int .i64 10) ∧ w7.drew.cell? ⟨gm, 2, none⟩ = some (.int .i64 L) ∧ w7.drew.cell? ⟨gm + 1, 0, none⟩ = some (.int .i64 (cc + 3)) ∧ w7.drew.cell? ⟨gm + 1, 1, none⟩ = some (.int .i64 12) ∧ w7.drew.cell? ⟨gm + 1, 2, none⟩ = some (.int .i64 (L - 2))
            ∧ w7.drew.cell? ⟨g3, 0, none⟩ = some (.int .i64 (cc + 3)) ∧ w7.drew.cell? ⟨g3, 1, none⟩ = some (.int .i64 12) ∧ w7.drew.cell? ⟨g3, 2, none⟩ = some (.int .i64 L) from ⟨Nx.drew (Below.refl _ _), q1.drew.cell 0, q1.drew.cell 1, q1.drew.cell 2, q2.drew.cell 0, q2.drew.cell 1, q2.drew.cell 2, q3.drew.cell 0, q3.drew.cell 1, q3.drew.cell 2⟩)
          clear q1 q2 q3 q4
          have hcl := (two_fits hcc hLL).2.2.2.1
          obtain ⟨X, hX⟩ : ∃ X, cloth (cc + 3) 12 L = X := ⟨_, rfl⟩
          obtain ⟨Y, hY⟩ : ∃ Y, cloth cc 10 L = Y := ⟨_, rfl⟩
          rw [hX, hY] at hcl
          have hX := hide hX
          have hY := hide hY
          have w1' : IntKind.i64.wrap (cc + 3) = cc + 3 := IntWalk.i64_in _ (by omega)
          clear hlen hea hx5 hn1 hn30 hni hk
          go_region_held3 (fun w' => Nx w7 w' ∧ w'.cell? ⟨gm, 0, none⟩ = some (.int .i64 cc) ∧ w'.cell? ⟨gm, 1, none⟩ = some (.int .i64 10) ∧ w'.cell? ⟨gm, 2, none⟩ = some (.int .i64 L) ∧ w'.cell? ⟨gm + 1, 0, none⟩ = some (.int .i64 (cc + 3)) ∧ w'.cell? ⟨gm + 1, 1, none⟩ = some (.int .i64 12) ∧ w'.cell? ⟨gm + 1, 2, none⟩ = some (.int .i64 (L - 2))
            ∧ w'.cell? ⟨g3, 0, none⟩ = some (.int .i64 (cc + 3)) ∧ w'.cell? ⟨g3, 1, none⟩ = some (.int .i64 12) ∧ w'.cell? ⟨g3, 2, none⟩ = some (.int .i64 L))
            (first | exact HS0.out | exact keep9 HL.out bq ⟨by assumption, by assumption, by assumption, by assumption, by assumption, by assumption, by assumption, by assumption, by assumption, by assumption⟩ | exact keep9 HL.out bq (by assumption))
            (first
              | (go_at_call 14; (with_reducible refine (c_fit1 hcc hLL _).mono ?_); rintro e w' ⟨rfl, bq⟩)
              | (go_at_call 14; (with_reducible refine (c_fit2 hcc hLL _).mono ?_); rintro e w' ⟨rfl, bq⟩)
              | (go_at_call 16; (with_reducible refine (c_cloth hX.out _).mono ?_); rintro e w' ⟨rfl, bq⟩)
              | (go_at_call 16; (with_reducible refine (c_cloth hY.out _).mono ?_); rintro e w' ⟨rfl, bq⟩)
              | (go_at_call 12; (with_reducible refine (c_mok hcc hLL _).mono ?_); rintro e w' ⟨rfl, bq⟩)
              | (go_at_call 25; (with_reducible refine (c_few _).mono ?_); rintro e w' ⟨rfl, bq⟩))
          have hfin := (‹Nx w7 w' ∧ _›).1
          go_wp2
          go_ret
          exact ⟨rfl, HB7.out.trans hfin⟩

open Go.ChangeShapes Go.WideShapes Go.ChangeAt Go.RowKit
open Go.ChangeMaps (open_string shut_string)

set_option linter.unusedVariables false
set_option maxRecDepth 100000 in
theorem lifted_FnCostumes (os : Os) (started : os.Started) (H : Type) (enc : TypeId × Value → H) :
    ReturnsInHanded {} Try.checked os 9 .any (Rows.fnCostumesSpec.pre6 enc Try.prog Try.f9 Rows.fnCostumesRow.domain false) (Rows.fnCostumesSpec.post enc Try.prog Try.f9 false true false false) := by
  refine returnsInHanded_of_change (C := Try.checked) own started (by kernel_rfl) Try.func9
    (ChangeSpec.witness6 (enc := enc) (C := Try.checked) false ⟨#[], #[.slice none 0 0], []⟩ 8 (by kernel_rfl) (by kernel_rfl) (by kernel_rfl) (by kernel_rfl)) ?_
  intro W base args ds gs before hval0 hW hcnd _
  have hval : ∀ (j : Nat) t v, Try.f9.params[j]? = some t → args[j]? = some v → Value.okWide Try.prog W .any base t v := hval0
  have hW' := hW
  obtain ⟨p, q, hA0, hV, rfl, hfz, hnd⟩ := hW
  have hA : DataW.TrodAll enc Try.prog W 0 (fun _ => true) true Try.f9.params.toList args.toList ds p := hA0
  rw [Try.params9] at hA hval
  obtain ⟨v0, vs0, d0, ds0, p0, q0, hargs, rfl, rfl, h0, r0⟩ := trodAll_cons hA
  obtain ⟨rfl, rfl, rfl⟩ := trodAll_nil r0
  obtain rfl : args = #[v0] := by cases args; simp_all
  obtain ⟨rfl, rfl⟩ := trodVars_none hV
  obtain ⟨a0, len0, cap0, rfl⟩ := okWide_slice Try.underlying45 (hval 0 45 v0 rfl rfl)
  have k0 := h0
  have lt0 : ∀ x ∈ p0, x.block < W.heap.size := by obtain ⟨m, hm⟩ := k0; exact DataW.trod_lt m _ _ _ hm
  obtain ⟨z0, w0⟩ : ∃ zs, IsRow .u8 W a0 len0 cap0 zs := by
    obtain ⟨fuel, hf⟩ := h0
    rcases open_ints Try.underlying45 Try.underlying5 (by kernel_rfl) hf with ⟨hcs, _⟩ | ⟨x, l, c, zs, hcs, _, hl, hm, hz, _, hcell, hwz⟩
    · simp [Value.cells] at hcs
      obtain ⟨rfl, rfl, rfl⟩ := hcs
      exact ⟨[], .inl ⟨rfl, rfl, rfl, rfl⟩⟩
    · simp [Value.cells] at hcs
      obtain ⟨rfl, rfl, rfl⟩ := hcs
      exact ⟨zs, .inr ⟨_, rfl, hl, hm, by simpa using hz, hcell, hwz⟩⟩
  obtain ⟨y0, rd0, ln0⟩ := isRow_readsB w0
  clear hA0 hval0
  refine (walk'_FnCostumes W _ y0 rd0 ln0).mono fun e W' ⟨he, bel⟩ => ?_
  subst he
  exact ⟨_, rfl, _, _, _, [], _, [], hW', trodAll_mk1 (shut_bool Try.underlying4 _), (trodAll_cons_mk (Below.trod laidOut (by kernel_rfl) (of_decide_eq_true (by kernel_rfl)) k0 bel lt0) trodAll_mk0), rfl, bel.frame _, fun h => by cases h⟩

theorem holds_FnCostumes : Rows.FnCostumesSaid :=
  OpenClaim.holds_of_wide 9 Try.f9 rfl rfl rfl rfl rfl rfl rfl ⟨rfl, rfl, rfl, rfl, rfl⟩ rfl rfl rfl rfl rfl (by kernel_rfl) Try.func9 (by kernel_rfl)
    (of_decide_eq_true (by kernel_rfl)) (by unfold Func.isWrapper; first | (rw [if_pos (by decide +kernel)]; kernel_rfl) | (rw [if_neg (by decide +kernel)]; exact ⟨rfl, rfl⟩))
    (fun os started H enc _ => lifted_FnCostumes os started H enc)
#print axioms holds_FnCostumes

end Go.Proofs.Ytmleamknongknaa
