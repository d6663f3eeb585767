/- The law FnSounds holds: for every input the program's function answers as the reference does; nothing that was there is changed. -/
import Derived.Test.YtjifdheaeopdfaaSdP
import Derived.Test.YtjifdheaeopdfaaDrL
import Derived.Test.YtjifdheaeopdfaaAt
import Derived.WalkKit
import Derived.ProofKit
import Derived.Handy
import Derived.OpenShut
import Derived.ShutString
import Derived.ChangeOld
import Derived.Below
import Derived.BigQuiet
import Derived.Deep.QuietTactic
import Derived.Deep.Draws
import Derived.Deep.DeepCutAuto
import Derived.Deep.DeepFit
import Derived.Deep.LoopGhost
import Derived.Outline
import Derived.WalkSpells
import Derived.WalkLawsBesides
import Derived.WalkSmall
import Derived.Laws.OwnMore
import Derived.OneCell
import Derived.Laws.Rows
import Derived.Maps.AppendAt
import Derived.StillTailTactics
import Derived.Lib.SmallJoins
import Derived.Deep.RegionWith
import Derived.Deep.RegionHeld3
import Derived.RegionTactic
import Derived.Deep.Matrix
import Derived.Deep.Fields
import Derived.ChangeSame
namespace Go.Proofs.Ytjifdheaeopdfaa
open Go.RowKit

theorem rd_lit (w : World) (T : TypeId) (cs : Array Value) (xs : List Int) (h : ∀ j, j < xs.length → cs[j]? = some (.int .i64 (gt xs j))) : RdI (w.alloc (.cells cs T)) (.slice (some ⟨w.heap.size, 0, none⟩) xs.length xs.length) xs := by
  refine ⟨_, _, rfl, fun _ => ⟨_, _, rfl, by simp, fun j hj => ?_⟩⟩
  rw [Nat.zero_add, (Blk.new w T cs).cell j]
  exact h j hj
theorem RdI.cells {w : World} {A : Option Addr} {n c : Nat} {zs : List Int} (h : RdI w (.slice A n c) zs) (h0 : 0 < zs.length) : ∃ b off, A = some ⟨b, off, none⟩ ∧ b < w.heap.size ∧ ∀ j, j < zs.length → w.cell? ⟨b, off + j, none⟩ = some (.int .i64 (gt zs j)) := by
  obtain ⟨A', c', e, hx⟩ := h
  injection e with e1 e2 e3
  subst e1
  exact hx h0
theorem rev_take {zs : List Int} {j : Nat} (h : j < zs.length) : zs.reverse.take (j + 1) = zs.reverse.take j ++ [gt zs (zs.length - 1 - j)] := by
  rw [take_gt (by simpa using h), gt_reverse h]
theorem max_if (a b : Int) : (if a < b then b else a) = max a b := by split <;> omega
set_option maxRecDepth 100000 in
set_option linter.unusedVariables false in
set_option maxHeartbeats 4000000 in
theorem walk'_FnSounds (w0 : World) (v : Value) (zs : List Int) (hr : RdB w0 v zs) (hml : zs.length ≤ maxLen) :
    Calls Try.prog 8 #[v] w0 fun e w' => e = .returned (.bool true) ∧ Nx w0 w' := by
  by_cases hl : 1048576 < zs.length
  · have hbig : decide (1048576 < (zs.length : Int)) = true := by simp; omega
    have HR := hide hr
    go_enter Try.func8, Try.ntmps8
    go_wp2_with (go_at_call 26; refine (big_any v zs _ HR.out).mono ?_; rintro e w' ⟨rfl, rfl⟩)
    go_ret
    exact ⟨rfl, Below.refl _ _⟩
  have hl : zs.length ≤ 1048576 := by omega
  have hbig : decide (1048576 < (zs.length : Int)) = false := by simp; omega
  have HR := hide hr
  clear hr
  go_enter Try.func8, Try.ntmps8
  go_wp2_with (go_at_call 26; refine (big_any v zs _ HR.out).mono ?_; rintro e w' ⟨rfl, rfl⟩)
  clear hbig
  go_wp2_with fail
  refine (DrawLevels_any v zs _ HR.out hl).mono ?_
  rintro e w1 ⟨u, rfl, xs, ho, ⟨hlen, hxs⟩, hb⟩
  have hx5 : xs.length ≤ 1048576 := by omega
  obtain ⟨A, c, rfl, hx0⟩ := ho.reads
  clear hx0
  have HX := hide hxs
  have HO := hide ho
  have HB := hide hb
  clear hxs ho hb
  go_wp2_with fail
  refine (impl_MixLevels _ xs w1 HO.out.reads hx5).mono ?_
  rintro e w2 ⟨rfl, b⟩
  have HO2 := hide (HO.out.below b)
  have HB2 := hide (HB.out.trans b)
  clear b HO HB
  have hM := mixAll_bd (zs := xs) hlen.1 (by omega) fun j hj => by have := HX.out j hj; omega
  have hT := topTo_bd (zs := xs) (k := xs.length) fun j hj => by have := HX.out j hj; omega
  have hrev := hide (mixAll_rev xs)
  generalize mixAll xs = M at hM ⊢ hrev
  go_wp2_with fail
  go_loopw [5, 6] (fun t i wr => ∃ k : Nat, k ≤ xs.length ∧ i = .int .i64 k ∧ t = .int .i64 (topTo xs k) ∧ Nx w2 wr) (fun _ i _ => xs.length - (intOf i).toNat)
  case atStart => exact ⟨0, Nat.zero_le _, rfl, rfl, Below.refl _ _⟩
  case round =>
    obtain ⟨k, hk, rfl, rfl, hb⟩ := hrel
    by_cases hlt : k < xs.length
    · obtain ⟨b0, off, rfl, hb0, hc⟩ := HO2.out.reads.cells (by omega)
      have hck : wr.cell? ⟨b0, off + k, none⟩ = some (.int .i64 (gt xs k)) := (hb.cell (p := ⟨b0, off + k, none⟩) hb0).trans (hc k hlt)
      have hk1 : (k : Int) < (xs.length : Int) := by omega
      have hmx := hide (show max (topTo xs k) (gt xs k) = topTo xs (k + 1) from rfl)
      have Hb := hide hb
      clear hc hb
      go_wp2_with fail
      go_roundw
      case rel => exact ⟨k + 1, by omega, by go_num, by rw [← hmx.out, ← max_if], Hb.out⟩
      case measure => simp [intOf]; omega
    · obtain rfl : k = xs.length := by omega
      obtain ⟨w3, e3⟩ : ∃ w3, w3 = wr := ⟨_, rfl⟩
      subst e3
      have HO3 := hide (HO2.out.below hb)
      have HB3 := hide (HB2.out.trans hb)
      have hsz := hb.size
      clear HO2 HB2 hb
      generalize topTo xs xs.length = T at *
      go_wp2_with fail
      go_loopw [7, 8] (fun u i wq => ∃ j : Nat, j ≤ xs.length ∧ i = .int .i64 ((xs.length : Int) - 1 - j) ∧ OwI wq w3.heap.size u (xs.reverse.take j) ∧ Nx w3 wq) (fun _ i _ => (intOf i + 1).toNat)
      case atStart => exact ⟨0, Nat.zero_le _, by go_num, OwI.made0 w3, Nx.made w3 _⟩
      case round =>
        obtain ⟨j, hj, rfl, hown, hb⟩ := hrel
        have hszr := hb.size
        have hlenr : (xs.reverse.take j).length ≤ 16777216 := by rw [List.length_take]; omega
        by_cases hlt : j < xs.length
        · obtain ⟨b0, off, rfl, hb0, hc⟩ := HO3.out.reads.cells (by omega)
          have hck : wr.cell? ⟨b0, off + (xs.length - 1 - j), none⟩ = some (.int .i64 (gt xs (xs.length - 1 - j))) := (hb.cell (p := ⟨b0, off + (xs.length - 1 - j), none⟩) hb0).trans (hc _ (by omega))
          have hst := hide (rev_take hlt)
          have e1 : ((xs.length : Int) - 1 - (j : Int)).toNat = xs.length - 1 - j := by omega
          have e2 : 0 ≤ (xs.length : Int) - 1 - (j : Int) := by omega
          have e3 : (xs.length : Int) - 1 - (j : Int) < (xs.length : Int) := by omega
          have HW := hide hown
          have HB := hide hb
          clear hc hown hb
          go_wp2_with (at_builtin; refine wpList_push rfl (.tmp 41) (.tmp 46) rfl wr w3.heap.size _ (xs.reverse.take j) (gt xs (xs.length - 1 - j)) rfl rfl HW.out hlenr hszr ?_; intro v1 w5 hown1 hg1 _; have hb5 := HB.out.pushed HW.out (Nat.le_refl _) hg1)
          go_roundw
          case rel => exact ⟨j + 1, by omega, by go_num, by rw [hst.out]; exact hown1, hb5⟩
          case measure => simp [intOf]; omega
        · obtain rfl : j = xs.length := by omega
          have ef : xs.reverse.take xs.length = xs.reverse := List.take_of_length_le (by simp)
          rw [ef] at hown hlenr
          obtain ⟨A2, c2, rfl, _⟩ := hown.reads
          rw [List.length_reverse] at hown
          have e2 : ¬ 0 ≤ (xs.length : Int) - 1 - (xs.length : Int) := by omega
          have HW := hide hown
          have HB := hide (HB3.out.trans hb)
          clear hown hb HB3 HO3 ef
          go_wp2_with (go_at_call 28; fail)
          refine (at_any v zs 0 _ (HR.out.below HB.out) hl (by omega)).mono ?_
          rintro e w4 ⟨a, rfl, ha, rfl⟩
          go_wp2_with (go_at_call 28; fail)
          refine (at_any v zs 1 _ (HR.out.below HB.out) hl (by omega)).mono ?_
          rintro e w4 ⟨b, rfl, hbb, rfl⟩
          have hd := delay_mono (a := a) (b := a + b) ha.1 (by omega) (by omega)
          have hd2 := delay_bd (a + b)
          have HD := hide hd.2.2
          replace hd := And.intro hd.1 hd.2.1
          have hgb := hide (gap_back (a + b))
          have hq3 := quiet_three ha.1 ha.2
          have hqb := quiet_bd ha.1 ha.2
          have HQ := hide hq3
          clear hq3
          go_wp2_with (first | (go_at_call 17; refine (impl_EchoGap _ _ _).mono ?_; rintro e w' ⟨rfl, rfl⟩) | (go_at_call 15; refine (impl_DelayOf _ _).mono ?_; rintro e w' ⟨rfl, rfl⟩))
          rw [HD.out]
          have HD2 := hide HD.out
          clear HD
          generalize delay (a + b) = y at *
          generalize delay a = x at *
          have hrd := rd_lit wr 3 #[.int .i64 1, .int .i64 a, .int .i64 5] [1, a, 5] (fun j hj => by
            have : j = 0 ∨ j = 1 ∨ j = 2 := by simp at hj; omega
            rcases this with e | e | e <;> subst e <;> rfl)
          refine (impl_QuietestSeat _ [1, a, 5] 70 _ hrd (by simp) (by unfold I64; omega)).mono ?_
          rintro e w6 ⟨rfl, b6⟩
          replace b6 := (Nx.made wr _).trans b6
          have HB6 := hide (HB.out.trans b6)
          have HW6 := hide (HW.out.below b6)
          clear HB HW b6 hrd
          generalize quietest [1, a, 5] 70 = q at *
          have hx0 : 0 ≤ x := hd.1
          have hxy : x ≤ y := hd.2
          have hM1 : T ≤ M := hM.1
          have hM2 : M ≤ T + 3 * ((xs.length : Int) - 1) := hM.2
          by_cases h4 : 4 ≤ a
          · have hq1 : (q == 1) = true := by have := HQ.out; rw [decide_eq_true h4] at this; simpa using this
            have hq2 : decide (4 ≤ a) = true := decide_eq_true h4
            clear HQ h4
            go_wp2_with (go_at_call 25; fail)
            refine (impl_MixLevels _ xs.reverse w6 HW6.out.reads (by simp; omega)).mono ?_
            rintro e w7 ⟨rfl, b7⟩
            rw [hrev.out]
            have HB7 := hide (HB6.out.trans b7)
            clear HB6 HW6 b7
            go_wp2_with (first | (go_at_call 19; refine (impl_IsEcho _ _ _).mono ?_; rintro e w' ⟨rfl, rfl⟩; rw [HD2.out]) | (go_at_call 17; refine (impl_EchoGap _ _ _).mono ?_; rintro e w' ⟨rfl, rfl⟩; rw [hgb.out]) | (go_at_call 15; refine (impl_DelayOf _ _).mono ?_; rintro e w' ⟨rfl, rfl⟩; rw [delay_343]))
            have hrd := rd_lit w7 3 #[.int .i64 60, .int .i64 60] [60, 60] (fun j hj => by
              have : j = 0 ∨ j = 1 := by simp at hj; omega
              rcases this with e | e <;> subst e <;> rfl)
            refine (impl_MixLevels _ [60, 60] _ hrd (by simp)).mono ?_
            rintro e w8 ⟨rfl, b8⟩
            rw [mix_sixty]
            have HB8 := hide (HB7.out.trans ((Nx.made w7 _).trans b8))
            clear HB7 b8 hrd
            go_wp2_with fail
            go_ret
            exact ⟨rfl, HB8.out⟩
          · have hq1 : (q == 1) = false := by have := HQ.out; rw [decide_eq_false h4] at this; simpa using this
            have hq2 : decide (4 ≤ a) = false := decide_eq_false h4
            clear HQ h4
            go_wp2_with (go_at_call 25; fail)
            refine (impl_MixLevels _ xs.reverse w6 HW6.out.reads (by simp; omega)).mono ?_
            rintro e w7 ⟨rfl, b7⟩
            rw [hrev.out]
            have HB7 := hide (HB6.out.trans b7)
            clear HB6 HW6 b7
            go_wp2_with (first | (go_at_call 19; refine (impl_IsEcho _ _ _).mono ?_; rintro e w' ⟨rfl, rfl⟩; rw [HD2.out]) | (go_at_call 17; refine (impl_EchoGap _ _ _).mono ?_; rintro e w' ⟨rfl, rfl⟩; rw [hgb.out]) | (go_at_call 15; refine (impl_DelayOf _ _).mono ?_; rintro e w' ⟨rfl, rfl⟩; rw [delay_343]))
            have hrd := rd_lit w7 3 #[.int .i64 60, .int .i64 60] [60, 60] (fun j hj => by
              have : j = 0 ∨ j = 1 := by simp at hj; omega
              rcases this with e | e <;> subst e <;> rfl)
            refine (impl_MixLevels _ [60, 60] _ hrd (by simp)).mono ?_
            rintro e w8 ⟨rfl, b8⟩
            rw [mix_sixty]
            have HB8 := hide (HB7.out.trans ((Nx.made w7 _).trans b8))
            clear HB7 b8 hrd
            go_wp2_with fail
            go_ret
            exact ⟨rfl, HB8.out⟩

open Go.ChangeShapes Go.WideShapes Go.ChangeAt Go.RowKit
open Go.ChangeMaps (open_string shut_string)

set_option linter.unusedVariables false
set_option maxRecDepth 100000 in
theorem lifted_FnSounds (os : Os) (started : os.Started) (H : Type) (enc : TypeId × Value → H) :
    ReturnsInHanded {} Try.checked os 8 .any (Rows.fnSoundsSpec.pre6 enc Try.prog Try.f8 Rows.fnSoundsRow.domain false) (Rows.fnSoundsSpec.post enc Try.prog Try.f8 false true false false) := by
  refine returnsInHanded_of_change (C := Try.checked) own started (by kernel_rfl) Try.func8
    (ChangeSpec.witness6 (enc := enc) (C := Try.checked) false ⟨#[], #[.slice none 0 0], []⟩ 8 (by kernel_rfl) (by kernel_rfl) (by kernel_rfl) (by kernel_rfl)) ?_
  intro W base args ds gs before hval0 hW hcnd _
  have hval : ∀ (j : Nat) t v, Try.f8.params[j]? = some t → args[j]? = some v → Value.okWide Try.prog W .any base t v := hval0
  have hW' := hW
  obtain ⟨p, q, hA0, hV, rfl, hfz, hnd⟩ := hW
  have hA : DataW.TrodAll enc Try.prog W 0 (fun _ => true) true Try.f8.params.toList args.toList ds p := hA0
  rw [Try.params8] at hA hval
  obtain ⟨v0, vs0, d0, ds0, p0, q0, hargs, rfl, rfl, h0, r0⟩ := trodAll_cons hA
  obtain ⟨rfl, rfl, rfl⟩ := trodAll_nil r0
  obtain rfl : args = #[v0] := by cases args; simp_all
  obtain ⟨rfl, rfl⟩ := trodVars_none hV
  obtain ⟨a0, len0, cap0, rfl⟩ := okWide_slice Try.underlying33 (hval 0 33 v0 rfl rfl)
  have k0 := h0
  have lt0 : ∀ x ∈ p0, x.block < W.heap.size := by obtain ⟨m, hm⟩ := k0; exact DataW.trod_lt m _ _ _ hm
  obtain ⟨z0, w0⟩ : ∃ zs, IsRow .u8 W a0 len0 cap0 zs := by
    obtain ⟨fuel, hf⟩ := h0
    rcases open_ints Try.underlying33 Try.underlying5 (by kernel_rfl) hf with ⟨hcs, _⟩ | ⟨x, l, c, zs, hcs, _, hl, hm, hz, _, hcell, hwz⟩
    · simp [Value.cells] at hcs
      obtain ⟨rfl, rfl, rfl⟩ := hcs
      exact ⟨[], .inl ⟨rfl, rfl, rfl, rfl⟩⟩
    · simp [Value.cells] at hcs
      obtain ⟨rfl, rfl, rfl⟩ := hcs
      exact ⟨zs, .inr ⟨_, rfl, hl, hm, by simpa using hz, hcell, hwz⟩⟩
  obtain ⟨y0, rd0, ln0⟩ := isRow_readsB w0
  clear hA0 hval0
  refine (walk'_FnSounds W _ y0 rd0 ln0).mono fun e W' ⟨he, bel⟩ => ?_
  subst he
  exact ⟨_, rfl, _, _, _, [], _, [], hW', trodAll_mk1 (shut_bool Try.underlying4 _), (trodAll_cons_mk (Below.trod laidOut (by kernel_rfl) (of_decide_eq_true (by kernel_rfl)) k0 bel lt0) trodAll_mk0), rfl, bel.frame _, fun h => by cases h⟩

theorem holds_FnSounds : Rows.FnSoundsSaid :=
  OpenClaim.holds_of_wide 8 Try.f8 rfl rfl rfl rfl rfl rfl rfl ⟨rfl, rfl, rfl, rfl, rfl⟩ rfl rfl rfl rfl rfl (by kernel_rfl) Try.func8 (by kernel_rfl)
    (of_decide_eq_true (by kernel_rfl)) (by unfold Func.isWrapper; first | (rw [if_pos (by decide +kernel)]; kernel_rfl) | (rw [if_neg (by decide +kernel)]; exact ⟨rfl, rfl⟩))
    (fun os started H enc _ => lifted_FnSounds os started H enc)
#print axioms holds_FnSounds

end Go.Proofs.Ytjifdheaeopdfaa
