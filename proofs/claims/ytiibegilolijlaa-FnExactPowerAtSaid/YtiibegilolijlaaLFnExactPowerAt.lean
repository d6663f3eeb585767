/- The law FnExactPowerAt holds: for every input the program's function answers as the reference does; nothing that was there is changed. -/
import Derived.Test.YtiibegilolijlaaPw
import Derived.WalkKit
import Derived.ProofKit
import Derived.Handy
import Derived.OpenShut
import Derived.ShutString
import Derived.ChangeOld
import Derived.Below
import Derived.BigQuiet
import Derived.Deep.QuietTactic
import Derived.Deep.Draws
import Derived.Deep.DeepCutAuto
import Derived.Deep.DeepFit
import Derived.Deep.LoopGhost
import Derived.Outline
import Derived.WalkSpells
import Derived.WalkLawsBesides
import Derived.WalkSmall
import Derived.Laws.OwnMore
import Derived.OneCell
import Derived.Laws.Rows
import Derived.Maps.AppendAt
import Derived.StillTailTactics
import Derived.Lib.SmallJoins
import Derived.Deep.RegionWith
import Derived.Deep.RegionHeld3
import Derived.RegionTactic
import Derived.Deep.Matrix
import Derived.Deep.Fields
import Derived.ChangeSame
namespace Go.Proofs.Ytiibegilolijlaa
open Go.RowKit

set_option linter.unusedVariables false in
set_option maxHeartbeats 2000000 in
theorem walk'_FnExactPowerAt (w0 : World) (v0 : Value) (z0 : List (List Int)) (r0 : RdS w0 v0 z0) (l0 : z0.length ≤ maxLen) (_ : OkS z0) (v1 : Value) (z1 : List Int) (r1 : RdI w0 v1 z1) (l1 : z1.length ≤ maxLen) (_ : ∀ n ∈ z1, I64 n) (a2 : Int) (i2 : I64 a2) :
    Calls Try.prog 6 #[v0, v1, .int .i64 a2] w0 fun e w' => e = .returned (.bool true) ∧ Nx w0 w' := by
  by_cases g1 : 1048576 < z1.length
  · obtain ⟨A1, c1, rfl, hx1⟩ := r1
    clear hx1
    go_enter Try.func6, Try.ntmps6
    go_wp2_with fail
    go_ret
    exact ⟨rfl, Below.refl _ _⟩
  have n1 : z1.length ≤ 1048576 := by omega
  have q1 := r1
  obtain ⟨A1, c1, rfl, hx1⟩ := r1
  clear hx1
  have q0 := r0
  go_enter Try.func6, Try.ntmps6
  have hb : Nx w0 w0 := Below.refl _ _
  go_wp2_with fail
  refine (szFadeS_any _ z0 _ _ (q0.below hb) l0 (by omega) (by omega)).mono ?_
  rintro e w1 ⟨sz0, rfl, hs0, b⟩
  replace hb := hb.trans b
  clear b
  by_cases g0 : sz0 < 0
  · go_wp2_with fail
    go_ret
    exact ⟨rfl, hb⟩
  have n0 := (hs0 (by omega)).1
  have m0 := (hs0 (by omega)).2
  clear hs0
  go_wp2_with fail
  refine (toFadeS_any _ _ _ (q0.below hb) n0).mono ?_
  rintro e w2 ⟨s0, rfl, o_s0, b⟩
  replace o_s0 := o_s0.mono hb.size
  replace hb := hb.trans b
  clear b
  go_wp2_with fail
  refine (toIntS_any _ _ _ (q1.below hb) n1).mono ?_
  rintro e w3 ⟨s1, rfl, o_s1, b⟩
  replace o_s1 := o_s1.mono hb.size
  replace o_s0 := o_s0.below b
  replace hb := hb.trans b
  clear b
  go_wp2_with fail
  refine (spec_PowerAt _ _ _ _ _ _ o_s0.reads n0 o_s1.reads n1 i2).mono ?_
  rintro e w4 ⟨rfl, b⟩
  replace o_s0 := o_s0.below b
  replace o_s1 := o_s1.below b
  replace hb := hb.trans b
  clear b
  go_wp2_with fail
  refine (toFadeS_any _ _ _ (q0.below hb) n0).mono ?_
  rintro e w5 ⟨x0, rfl, o_x0, b⟩
  replace o_x0 := o_x0.mono hb.size
  replace hb := hb.trans b
  clear b
  go_wp2_with fail
  refine (toIntS_any _ _ _ (q1.below hb) n1).mono ?_
  rintro e w6 ⟨x1, rfl, o_x1, b⟩
  replace o_x1 := o_x1.mono hb.size
  replace o_x0 := o_x0.below b
  replace hb := hb.trans b
  clear b
  go_wp2_with fail
  refine (impl_PowerAt _ _ _ _ _ _ o_x0.reads n0 o_x1.reads n1 i2).mono ?_
  rintro e w7 ⟨rfl, b⟩
  replace o_x0 := o_x0.below b
  replace o_x1 := o_x1.below b
  replace hb := hb.trans b
  clear b
  go_wp2_with fail
  refine (toFadeS_any _ _ _ (q0.below hb) n0).mono ?_
  rintro e w8 ⟨y0, rfl, o_y0, b⟩
  replace o_y0 := o_y0.mono hb.size
  replace o_x0 := o_x0.below b
  replace o_x1 := o_x1.below b
  replace hb := hb.trans b
  clear b
  go_wp2_with fail
  refine (eqFadeS_same _ _ _ _ o_x0.reads o_y0.reads n0).mono ?_
  rintro e w9 ⟨rfl, b⟩
  replace o_x0 := o_x0.below b
  replace o_x1 := o_x1.below b
  replace o_y0 := o_y0.below b
  replace hb := hb.trans b
  clear b
  go_wp2_with fail
  refine (toIntS_any _ _ _ (q1.below hb) n1).mono ?_
  rintro e w10 ⟨y1, rfl, o_y1, b⟩
  replace o_y1 := o_y1.mono hb.size
  replace o_x0 := o_x0.below b
  replace o_x1 := o_x1.below b
  replace hb := hb.trans b
  clear b
  go_wp2_with fail
  refine (eqIntS_same _ _ _ _ o_x1.reads o_y1.reads n1).mono ?_
  rintro e w11 ⟨rfl, b⟩
  replace o_x0 := o_x0.below b
  replace o_x1 := o_x1.below b
  replace o_y1 := o_y1.below b
  replace hb := hb.trans b
  clear b
  go_wp2_with fail
  go_ret
  exact ⟨rfl, hb⟩

open Go.ChangeShapes Go.WideShapes Go.ChangeAt Go.RowKit
open Go.ChangeMaps (open_string shut_string)

set_option linter.unusedVariables false
set_option maxRecDepth 100000 in
theorem lifted_FnExactPowerAt (os : Os) (started : os.Started) (H : Type) (enc : TypeId × Value → H) :
    ReturnsInHanded {} Try.checked os 6 .any (Rows.fnExactPowerAtSpec.pre6 enc Try.prog Try.f6 Rows.fnExactPowerAtRow.domain false) (Rows.fnExactPowerAtSpec.post enc Try.prog Try.f6 false true false false) := by
  refine returnsInHanded_of_change (C := Try.checked) own started (by kernel_rfl) Try.func6
    (ChangeSpec.witness6 (enc := enc) (C := Try.checked) false ⟨#[], #[.slice none 0 0, .slice none 0 0, .int .i64 0], []⟩ 8 (by kernel_rfl) (by kernel_rfl) (by kernel_rfl) (by kernel_rfl)) ?_
  intro W base args ds gs before hval0 hW hcnd _
  have hval : ∀ (j : Nat) t v, Try.f6.params[j]? = some t → args[j]? = some v → Value.okWide Try.prog W .any base t v := hval0
  have hW' := hW
  obtain ⟨p, q, hA0, hV, rfl, hfz, hnd⟩ := hW
  have hA : DataW.TrodAll enc Try.prog W 0 (fun _ => true) true Try.f6.params.toList args.toList ds p := hA0
  rw [Try.params6] at hA hval
  obtain ⟨v0, vs0, d0, ds0, p0, q0, hargs, rfl, rfl, h0, r0⟩ := trodAll_cons hA
  obtain ⟨v1, vs1, d1, ds1, p1, q1, rfl, rfl, rfl, h1, r1⟩ := trodAll_cons r0
  obtain ⟨v2, vs2, d2, ds2, p2, q2, rfl, rfl, rfl, h2, r2⟩ := trodAll_cons r1
  obtain ⟨rfl, rfl, rfl⟩ := trodAll_nil r2
  obtain rfl : args = #[v0, v1, v2] := by cases args; simp_all
  obtain ⟨rfl, rfl⟩ := trodVars_none hV
  obtain ⟨a0, len0, cap0, rfl⟩ := okWide_slice Try.underlying22 (hval 0 22 v0 rfl rfl)
  have k0 := h0
  have lt0 : ∀ x ∈ p0, x.block < W.heap.size := by obtain ⟨m, hm⟩ := k0; exact DataW.trod_lt m _ _ _ hm
  obtain ⟨y0, rd0, ln0, wy0⟩ := open_SFade (enc := enc) h0
  obtain ⟨a1, len1, cap1, rfl⟩ := okWide_slice Try.underlying33 (hval 1 33 v1 rfl rfl)
  have k1 := h1
  have lt1 : ∀ x ∈ p1, x.block < W.heap.size := by obtain ⟨m, hm⟩ := k1; exact DataW.trod_lt m _ _ _ hm
  obtain ⟨z1, w1⟩ : ∃ zs, IsRow .i64 W a1 len1 cap1 zs := by
    obtain ⟨fuel, hf⟩ := h1
    rcases open_ints Try.underlying33 Try.underlying3 (by kernel_rfl) hf with ⟨hcs, _⟩ | ⟨x, l, c, zs, hcs, _, hl, hm, hz, _, hcell, hwz⟩
    · simp [Value.cells] at hcs
      obtain ⟨rfl, rfl, rfl⟩ := hcs
      exact ⟨[], .inl ⟨rfl, rfl, rfl, rfl⟩⟩
    · simp [Value.cells] at hcs
      obtain ⟨rfl, rfl, rfl⟩ := hcs
      exact ⟨zs, .inr ⟨_, rfl, hl, hm, by simpa using hz, hcell, hwz⟩⟩
  obtain ⟨y1, rd1, ln1, wy1⟩ := isRow_reads w1
  obtain ⟨a2, rfl, rfl, rfl, w2⟩ := open_int Try.underlying3 (hval 2 3 v2 rfl rfl) h2
  clear hA0 hval0
  refine (walk'_FnExactPowerAt W _ y0 rd0 ln0 wy0 _ y1 rd1 ln1 (fun n hn => I64.of_wf (wy1 n hn)) a2 (I64.of_wf w2)).mono fun e W' ⟨he, bel⟩ => ?_
  subst he
  exact ⟨_, rfl, _, _, _, [], _, [], hW', trodAll_mk1 (shut_bool Try.underlying4 _), (trodAll_cons_mk (Below.trod laidOut (by kernel_rfl) (of_decide_eq_true (by kernel_rfl)) k0 bel lt0) (trodAll_cons_mk (Below.trod laidOut (by kernel_rfl) (of_decide_eq_true (by kernel_rfl)) k1 bel lt1) (trodAll_cons_mk (shut_int Try.underlying3 w2) trodAll_mk0))), rfl, bel.frame _, fun h => by cases h⟩

theorem holds_FnExactPowerAt : Rows.FnExactPowerAtSaid :=
  OpenClaim.holds_of_wide 6 Try.f6 rfl rfl rfl rfl rfl rfl rfl ⟨rfl, rfl, rfl, rfl, rfl⟩ rfl rfl rfl rfl rfl (by kernel_rfl) Try.func6 (by kernel_rfl)
    (of_decide_eq_true (by kernel_rfl)) (by unfold Func.isWrapper; first | (rw [if_pos (by decide +kernel)]; kernel_rfl) | (rw [if_neg (by decide +kernel)]; exact ⟨rfl, rfl⟩))
    (fun os started H enc _ => lifted_FnExactPowerAt os started H enc)
#print axioms holds_FnExactPowerAt

end Go.Proofs.Ytiibegilolijlaa
