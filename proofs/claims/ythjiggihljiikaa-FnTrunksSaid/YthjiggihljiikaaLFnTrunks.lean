/- The law FnTrunks holds: for every input the program's function answers as the reference does; nothing that was there is changed. -/
import Derived.Test.YthjiggihljiikaaTrP
import Derived.Test.YthjiggihljiikaaDrK
import Derived.WalkKit
import Derived.ProofKit
import Derived.Handy
import Derived.OpenShut
import Derived.ShutString
import Derived.ChangeOld
import Derived.Below
import Derived.BigQuiet
import Derived.Deep.QuietTactic
import Derived.Deep.Draws
import Derived.Deep.DeepCutAuto
import Derived.Deep.DeepFit
import Derived.Deep.LoopGhost
import Derived.Outline
import Derived.WalkSpells
import Derived.WalkLawsBesides
import Derived.WalkSmall
import Derived.Laws.OwnMore
import Derived.OneCell
import Derived.Laws.Rows
import Derived.Maps.AppendAt
import Derived.StillTailTactics
import Derived.Lib.SmallJoins
import Derived.Deep.RegionWith
import Derived.Deep.RegionHeld3
import Derived.RegionTactic
import Derived.Deep.Matrix
import Derived.Deep.Fields
import Derived.ChangeSame
namespace Go.Proofs.Ythjiggihljiikaa
open Go.RowKit

theorem RdI.cells {w : World} {A : Option Addr} {n c : Nat} {zs : List Int} (h : RdI w (.slice A n c) zs) (h0 : 0 < zs.length) : ∃ b off, A = some ⟨b, off, none⟩ ∧ b < w.heap.size ∧ ∀ j, j < zs.length → w.cell? ⟨b, off + j, none⟩ = some (.int .i64 (gt zs j)) := by
  obtain ⟨A', c', e, hx⟩ := h
  injection e with e1 e2 e3
  subst e1
  exact hx h0
set_option maxRecDepth 100000 in
set_option linter.unusedVariables false in
set_option maxHeartbeats 1000000 in
theorem walk'_FnTrunks (w0 : World) (v : Value) (zs : List Int) (hr : RdB w0 v zs) (hml : zs.length ≤ maxLen) :
    Calls Try.prog 9 #[v] w0 fun e w' => e = .returned (.bool true) ∧ Nx w0 w' := by
  by_cases hl : 1048576 < zs.length
  · have hbig : decide (1048576 < (zs.length : Int)) = true := by simp; omega
    have HR := hide hr
    go_enter Try.func9, Try.ntmps9
    go_wp2_with (go_at_call 26; refine (big_any v zs _ HR.out).mono ?_; rintro e w' ⟨rfl, rfl⟩)
    go_ret
    exact ⟨rfl, Below.refl _ _⟩
  have hl : zs.length ≤ 1048576 := by omega
  have hbig : decide (1048576 < (zs.length : Int)) = false := by simp; omega
  have HR := hide hr
  clear hr
  go_enter Try.func9, Try.ntmps9
  go_wp2_with (go_at_call 26; refine (big_any v zs _ HR.out).mono ?_; rintro e w' ⟨rfl, rfl⟩)
  clear hbig
  go_wp2_with fail
  refine (DrawTrunk_any v zs _ HR.out hl).mono ?_
  rintro e w1 ⟨u, room, rfl, xs, ho, hok, hx7, hb⟩
  obtain ⟨hroom, hbd⟩ := (boxesOk_iff.1 hok).2
  have hri : I64 room := by unfold I64; omega
  have hlaw := trunks_law hok (by omega)
  have hmore := hide (fewest_more hok (by omega))
  have hfrag := hide (fun i k h1 h2 h3 h4 => frag_one (zs := xs) (i := i) (k := k) h1 h2 h3 h4)
  have hsm := hide (fun k (hk : k ≤ xs.length) => smTo_bd (zs := xs) (c := room) (k := k) (fun j hj => by have := hbd j (by omega); omega))
  have Hbd := hide hbd
  have HX := hide ho.reads
  have HB := hide hb
  have Hok := hide hok
  obtain ⟨A, c, rfl, _⟩ := ho.reads
  clear ho hb hok hbd
  obtain ⟨L1, L2, L3, L4, L5, L6, L7, L8, L9, L10⟩ := hlaw
  have hx5 : xs.length ≤ 1048576 := by omega
  go_wp2_with fail
  refine (impl_FirstFit _ xs room w1 HX.out hx5 hri).mono ?_
  rintro e w2 ⟨uf, rfl, hof, b2⟩
  have HX2 := hide (HX.out.below b2)
  have HB2 := hide (HB.out.trans b2)
  have HF2 := hide hof.reads
  obtain ⟨Af, cf, rfl, _⟩ := hof.reads
  clear b2 hof HX HB
  obtain ⟨n, hn⟩ : ∃ n, fewestBoxes xs room = n := ⟨_, rfl⟩
  obtain ⟨S, hS⟩ : ∃ S, smTo xs xs.length = S := ⟨_, rfl⟩
  obtain ⟨U, hU⟩ : ∃ U, usedTo (firstFit xs room) xs.length = U := ⟨_, rfl⟩
  rw [hn] at L3 L4 L5 L6 L8 L10
  rw [hU] at L4 L6 L7
  rw [hS] at L5 L7
  have hSb := hsm.out xs.length (Nat.le_refl _)
  rw [hS] at hSb
  have hn' := hide hn
  have hm' := hmore.out
  rw [hn] at hm'
  have Hm := hide hm'
  have hU' := hide hU
  have hS' := hide hS
  have HL1 := hide L1
  have HL2 := hide L2
  have HL7 := hide L7
  have HL8 := hide L8
  have HL9 := hide L9
  have hus := hide (show usedTo (firstFit xs room) 0 = 0 from rfl)
  have hun := hide (fun k => show usedTo (firstFit xs room) (k + 1) = max (usedTo (firstFit xs room) k) (gt (firstFit xs room) k + 1) from rfl)
  have hub := hide (fun k (hk : k ≤ xs.length) => And.intro (usedTo_nonneg (firstFit xs room) k) (usedTo_le (f := firstFit xs room) (c := 12) (by omega) (k := k) (fun j hj => (HL9.out j (by omega)).2)))
  have hss := hide (show smTo xs 0 = 0 from rfl)
  have hsn := hide (fun k => show smTo xs (k + 1) = smTo xs k + gt xs k from rfl)
  have HN := hide (And.intro L3 (And.intro L4 (And.intro L5 (And.intro L6 (And.intro L10 (And.intro hSb trivial))))))
  clear hn hm' hU hS L1 L2 L7 L8 L9 L3 L4 L5 L6 L10 hSb hmore
  generalize firstFit xs room = F at *
  have hF5 : F.length ≤ 1048576 := by have := HL1.out; omega
  have hF5' := hide hF5
  go_wp2_with fail
  refine (impl_FewestBoxes _ xs room w2 HX2.out hx5 hri).mono ?_
  rintro e w3 ⟨rfl, b3⟩
  rw [hn'.out]
  have HX3 := hide (HX2.out.below b3)
  have HF3 := hide (HF2.out.below b3)
  have HB3 := hide (HB2.out.trans b3)
  clear b3 HX2 HF2 HB2
  have hne : ((F.length : Int) != (xs.length : Int)) = false := by rw [HL1.out]; simp
  go_wp2_with (go_at_call 17; fail)
  clear hne
  refine (impl_IsPacked _ xs room _ F w3 HX3.out hx5 hri HF3.out hF5).mono ?_
  rintro e w4 ⟨rfl, b4⟩
  rw [HL2.out]
  have HX4 := hide (HX3.out.below b4)
  have HF4 := hide (HF3.out.below b4)
  have HB4 := hide (HB3.out.trans b4)
  clear b4 HX3 HF3 HB3
  go_wp2_with fail
  go_loopw [7, 8, 9] (fun a s i wr => ∃ k : Nat, k ≤ xs.length ∧ i = .int .i64 k ∧ a = .int .i64 (usedTo F k) ∧ s = .int .i64 (smTo xs k) ∧ wr = w4) (fun _ _ i _ => xs.length - (intOf i).toNat)
  case atStart => exact ⟨0, Nat.zero_le _, rfl, by rw [hus.out], by rw [hss.out], (by first | trivial | rfl)⟩
  case round =>
    clear hus hss
    obtain ⟨k, hk, rfl, rfl, rfl, rfl⟩ := hrel
    by_cases hlt : k < xs.length
    ·
      have hki : (k : Int) < (xs.length : Int) := by omega
      have hkf : (k : Int) < (F.length : Int) := by have := HL1.out; omega
      obtain ⟨b0, off, rfl, hb0, hc0⟩ := HX4.out.cells (by omega)
      obtain ⟨b1, off1, rfl, hb1, hc1⟩ := HF4.out.cells (by have := HL1.out; omega)
      have q0 := hc0 k hlt
      have q1 := hc1 k (by have := HL1.out; omega)
      have hxk := Hbd.out k hlt
      have hfk := HL9.out k hlt
      have hu1 := hub.out k hk
      have hs1 := hsm.out k hk
      have hu2 := hide (hun.out k)
      have hs2 := hide (hsn.out k)
      have hmul : room * (k : Int) ≤ 1000 * 7 := Int.mul_le_mul (by omega) (by omega) (by omega) (by omega)
      clear hc0 hc1
      generalize usedTo F k = a at *
      generalize smTo xs k = s at *
      generalize gt F k = y at *
      generalize gt xs k = z at *
      generalize room * (k : Int) = rk at *
      go_wp2_with fail
      go_roundw
      case rel => exact ⟨k + 1, by omega, by go_num, by rw [hu2.out]; congr 1; split <;> omega, by rw [hs2.out], (by first | trivial | rfl)⟩
      case measure => simp [intOf]; omega
    · obtain rfl : k = xs.length := by omega
      rw [hU'.out, hS'.out]
      obtain ⟨L3, L4, L5, L6, L10, hSb, _⟩ := HN.out
      have hm1 : 0 ≤ n * room ∧ n * room ≤ 12 * 1000 := ⟨Int.mul_nonneg (by omega) (by omega), Int.mul_le_mul (by omega) (by omega) (by omega) (by omega)⟩
      have hu12 := hub.out xs.length (Nat.le_refl _)
      rw [hU'.out] at hu12
      have hm2 : 0 ≤ U * room ∧ U * room ≤ 12 * 1000 := ⟨Int.mul_nonneg (by omega) (by omega), Int.mul_le_mul (by omega) (by omega) (by omega) (by omega)⟩
      have hS7 : 0 ≤ S ∧ S ≤ 7000 := ⟨hSb.1, Int.le_trans hSb.2 (by have := Int.mul_le_mul (show room ≤ 1000 by omega) (show (xs.length : Int) ≤ 7 by omega) (by omega) (by omega); omega)⟩
      clear hSb hsm hub hun hsn HN hU' hS' hF5 Hbd HL1 HL2 HL9
      have hkey : (1 < U ∧ U < 2 * n) ∨ U ≤ 1 := by omega
      have HM2 := hide hm2
      have HL5 := hide L5
      clear L6
      have hF5 : F.length ≤ 1048576 := hF5'.out
      rcases hkey with ⟨h1, h2⟩ | h1
      all_goals
        go_wp2_with (go_at_call 25; fail)
        refine (impl_RoomLeft _ xs room _ F wr HX4.out hx5 hri HF4.out hF5).mono ?_
        rintro e w5 ⟨rfl, b5⟩
        rw [HL7.out]
        have HX5 := hide (HX4.out.below b5)
        have HB5 := hide (HB4.out.trans b5)
        clear b5 HX4 HF4 HB4
        go_wp2_with fail
        clear h1 hm1 hm2 hS7 L5
        go_loopw [10, 11] (fun s i wr => ∃ k : Nat, k ≤ xs.length ∧ i = .int .i64 k ∧ (∃ x : Int, s = .int .i64 x ∧ Hid ((x = -1 ∧ ∀ j : Nat, j < k → fragile xs (j : Int) = false) ∨ ∃ j : Nat, j < k ∧ x = (j : Int) ∧ fragile xs (j : Int) = true)) ∧ Nx w5 wr) (fun _ i _ => xs.length - (intOf i).toNat)
        case atStart => exact ⟨0, Nat.zero_le _, rfl, ⟨_, rfl, .inl ⟨rfl, fun j hj => absurd hj (by omega)⟩⟩, Below.refl _ _⟩
        case round =>
          obtain ⟨k, hk, rfl, ⟨x, rfl, hx⟩, hb⟩ := hrel
          by_cases hlt : k < xs.length
          · have hki : (k : Int) < (xs.length : Int) := by omega
            have Hb := hide hb
            have HX6 := hide (HX5.out.below hb)
            clear hb
            go_wp2_with (go_at_call 15; fail)
            refine (impl_IsFragile _ xs (k : Int) _ HX6.out hx5 (by unfold I64; omega)).mono ?_
            rintro e w6 ⟨rfl, b6⟩
            have Hb6 := hide (Hb.out.trans b6)
            clear b6 HX6
            cases hfr : fragile xs (k : Int) with
            | false =>
              have R : Hid ((x = -1 ∧ ∀ j : Nat, j < k + 1 → fragile xs (j : Int) = false) ∨ ∃ j : Nat, j < k + 1 ∧ x = (j : Int) ∧ fragile xs (j : Int) = true) := by
                rcases hx.out with ⟨h1, h2⟩ | ⟨j, h1, h2, h3⟩
                · refine .inl ⟨h1, fun j hj => ?_⟩
                  rcases Nat.lt_or_ge j k with h | h
                  · exact h2 j h
                  · obtain rfl : j = k := by omega
                    exact hfr
                · exact .inr ⟨j, by omega, h2, h3⟩
              clear hfr
              go_wp2_with fail
              go_roundw
              case rel => exact ⟨k + 1, by omega, by go_num, ⟨_, rfl, R⟩, Hb6.out⟩
              case measure => simp [intOf]; omega
            | true =>
              have hx1 : x = -1 := by
                rcases hx.out with ⟨h1, _⟩ | ⟨j, h1, h2, h3⟩
                · exact h1
                · have := hfrag.out j k (by omega) hlt h3 hfr
                  omega
              subst hx1
              have R : Hid (((k : Int) = -1 ∧ ∀ j : Nat, j < k + 1 → fragile xs (j : Int) = false) ∨ ∃ j : Nat, j < k + 1 ∧ (k : Int) = (j : Int) ∧ fragile xs (j : Int) = true) := .inr ⟨k, by omega, rfl, hfr⟩
              clear hfr hx
              go_wp2_with fail
              go_roundw
              case rel => exact ⟨k + 1, by omega, by go_num, ⟨_, rfl, R⟩, Hb6.out⟩
              case measure => simp [intOf]; omega
          · obtain rfl : k = xs.length := by omega
            have HX6 := hide (HX5.out.below hb)
            have HB6 := hide (HB5.out.trans hb)
            have ho0 := OwI.made0 wr
            have hb1 := Nx.made wr (.cells #[] 3)
            have hu1 := HX6.out.below hb1
            clear hb hx HX5 HB5
            go_wp2_with (first
              | (at_builtin; refine wpList_joinI rfl (.tmp 105) (.tmp 106) rfl _ wr.heap.size _ [] _ xs rfl rfl ho0 hu1 (by simp; omega) (by simp) ?_; intro v7 w7 hown7 hg7 hat7; rw [List.nil_append] at hown7; have HB7 := hide (hb1.only ho0 hg7 (Nat.le_refl _)); have hz7 := HB7.out.size; have HO7 := hide hown7; obtain ⟨Ar, cr, rfl, _⟩ := hown7.open_; clear hg7 hat7 hown7)
              | (at_builtin; refine wpList_push rfl (.tmp 107) (.tmp 109) rfl w7 wr.heap.size _ xs room rfl rfl HO7.out (by omega) hz7 ?_; intro v8 w8 hown8 hg8 hat8; have HB8 := hide (HB7.out.only HO7.out hg8 (Nat.le_refl _)); have HO8 := hide hown8.reads; clear hg8 hat8 hown8)
              | (go_at_call 23; fail))
            have HX8 := hide (HX6.out.below HB8.out)
            have HB9 := hide (HB6.out.trans HB8.out)
            clear ho0 hb1 hu1
            refine (impl_FewestBoxes _ (xs ++ [room]) room w8 HO8.out (by rw [List.length_append, List.length_singleton]; omega) hri).mono ?_
            rintro e w9 ⟨rfl, b9⟩
            rw [Hm.out]
            have HX9 := hide (HX8.out.below b9)
            have HB10 := hide (HB9.out.trans b9)
            clear b9 HX8 HB9 HB8 HO8 HX6 HB6 HB7 HO7
            go_wp2_with (go_at_call 12; fail)
            refine (impl_BoxesOk _ xs room w9 HX9.out hx5 hri).mono ?_
            rintro e w10 ⟨rfl, b10⟩
            rw [Hok.out]
            have HB11 := hide (HB10.out.trans b10)
            clear b10
            go_wp2_with fail
            go_ret
            refine ⟨ret_bool ?_, HB11.out⟩
            have h8 := HL8.out
            have h9 : (n == 0) = ((xs.length : Int) == 0) := by
              rw [Bool.eq_iff_iff, beq_iff_eq, beq_iff_eq]
              omega
            rw [h9]
            simp

open Go.ChangeShapes Go.WideShapes Go.ChangeAt Go.RowKit
open Go.ChangeMaps (open_string shut_string)

set_option linter.unusedVariables false
set_option maxRecDepth 100000 in
theorem lifted_FnTrunks (os : Os) (started : os.Started) (H : Type) (enc : TypeId × Value → H) :
    ReturnsInHanded {} Try.checked os 9 .any (Rows.fnTrunksSpec.pre6 enc Try.prog Try.f9 Rows.fnTrunksRow.domain false) (Rows.fnTrunksSpec.post enc Try.prog Try.f9 false true false false) := by
  refine returnsInHanded_of_change (C := Try.checked) own started (by kernel_rfl) Try.func9
    (ChangeSpec.witness6 (enc := enc) (C := Try.checked) false ⟨#[], #[.slice none 0 0], []⟩ 8 (by kernel_rfl) (by kernel_rfl) (by kernel_rfl) (by kernel_rfl)) ?_
  intro W base args ds gs before hval0 hW hcnd _
  have hval : ∀ (j : Nat) t v, Try.f9.params[j]? = some t → args[j]? = some v → Value.okWide Try.prog W .any base t v := hval0
  have hW' := hW
  obtain ⟨p, q, hA0, hV, rfl, hfz, hnd⟩ := hW
  have hA : DataW.TrodAll enc Try.prog W 0 (fun _ => true) true Try.f9.params.toList args.toList ds p := hA0
  rw [Try.params9] at hA hval
  obtain ⟨v0, vs0, d0, ds0, p0, q0, hargs, rfl, rfl, h0, r0⟩ := trodAll_cons hA
  obtain ⟨rfl, rfl, rfl⟩ := trodAll_nil r0
  obtain rfl : args = #[v0] := by cases args; simp_all
  obtain ⟨rfl, rfl⟩ := trodVars_none hV
  obtain ⟨a0, len0, cap0, rfl⟩ := okWide_slice Try.underlying30 (hval 0 30 v0 rfl rfl)
  have k0 := h0
  have lt0 : ∀ x ∈ p0, x.block < W.heap.size := by obtain ⟨m, hm⟩ := k0; exact DataW.trod_lt m _ _ _ hm
  obtain ⟨z0, w0⟩ : ∃ zs, IsRow .u8 W a0 len0 cap0 zs := by
    obtain ⟨fuel, hf⟩ := h0
    rcases open_ints Try.underlying30 Try.underlying5 (by kernel_rfl) hf with ⟨hcs, _⟩ | ⟨x, l, c, zs, hcs, _, hl, hm, hz, _, hcell, hwz⟩
    · simp [Value.cells] at hcs
      obtain ⟨rfl, rfl, rfl⟩ := hcs
      exact ⟨[], .inl ⟨rfl, rfl, rfl, rfl⟩⟩
    · simp [Value.cells] at hcs
      obtain ⟨rfl, rfl, rfl⟩ := hcs
      exact ⟨zs, .inr ⟨_, rfl, hl, hm, by simpa using hz, hcell, hwz⟩⟩
  obtain ⟨y0, rd0, ln0⟩ := isRow_readsB w0
  clear hA0 hval0
  refine (walk'_FnTrunks W _ y0 rd0 ln0).mono fun e W' ⟨he, bel⟩ => ?_
  subst he
  exact ⟨_, rfl, _, _, _, [], _, [], hW', trodAll_mk1 (shut_bool Try.underlying4 _), (trodAll_cons_mk (Below.trod laidOut (by kernel_rfl) (of_decide_eq_true (by kernel_rfl)) k0 bel lt0) trodAll_mk0), rfl, bel.frame _, fun h => by cases h⟩

theorem holds_FnTrunks : Rows.FnTrunksSaid :=
  OpenClaim.holds_of_wide 9 Try.f9 rfl rfl rfl rfl rfl rfl rfl ⟨rfl, rfl, rfl, rfl, rfl⟩ rfl rfl rfl rfl rfl (by kernel_rfl) Try.func9 (by kernel_rfl)
    (of_decide_eq_true (by kernel_rfl)) (by unfold Func.isWrapper; first | (rw [if_pos (by decide +kernel)]; kernel_rfl) | (rw [if_neg (by decide +kernel)]; exact ⟨rfl, rfl⟩))
    (fun os started H enc _ => lifted_FnTrunks os started H enc)
#print axioms holds_FnTrunks

end Go.Proofs.Ythjiggihljiikaa
