/- The law FnExactBestLesson holds: for every input the program's function answers as the reference does; nothing that was there is changed. -/
import Derived.Test.YtfilpeamhcdgfaaPlV
import Derived.Test.YtfilpeamhcdgfaaPlW
import Derived.WalkKit
import Derived.ProofKit
import Derived.Handy
import Derived.OpenShut
import Derived.ShutString
import Derived.ChangeOld
import Derived.Below
import Derived.BigQuiet
import Derived.Deep.QuietTactic
import Derived.Deep.Draws
import Derived.Deep.DeepCutAuto
import Derived.Deep.DeepFit
import Derived.Deep.LoopGhost
import Derived.Outline
import Derived.WalkSpells
import Derived.WalkLawsBesides
import Derived.WalkSmall
import Derived.Laws.OwnMore
import Derived.OneCell
import Derived.Laws.Rows
import Derived.Maps.AppendAt
import Derived.StillTailTactics
import Derived.Lib.SmallJoins
import Derived.Deep.RegionWith
import Derived.Deep.RegionHeld3
import Derived.RegionTactic
import Derived.Deep.Matrix
import Derived.Deep.Fields
import Derived.ChangeSame
namespace Go.Proofs.Ytfilpeamhcdgfaa
open Go.RowKit

set_option linter.unusedVariables false in
set_option maxHeartbeats 2000000 in
theorem walk'_FnExactBestLesson (w0 : World) (v0 : Value) (z0 : List Plr) (r0 : RdP w0 v0 z0) (l0 : LenP z0) (_ : OkP z0) (v1 : Value) (z1 : List Int) (r1 : RdI w0 v1 z1) (l1 : z1.length ≤ maxLen) (_ : ∀ n ∈ z1, I64 n) :
    Calls Try.prog 5 #[v0, v1] w0 fun e w' => e = .returned (.bool true) ∧ Nx w0 w' := by
  by_cases g1 : 1048576 < z1.length
  · obtain ⟨A1, c1, rfl, hx1⟩ := r1
    clear hx1
    go_enter Try.func5, Try.ntmps5
    go_wp2_with fail
    go_ret
    exact ⟨rfl, Below.refl _ _⟩
  have n1 : z1.length ≤ 1048576 := by omega
  have q1 := r1
  obtain ⟨A1, c1, rfl, hx1⟩ := r1
  clear hx1
  have q0 := r0
  obtain ⟨la, lb, lc, hlv0⟩ := lesV_form z0 z1
  have hlv := hide hlv0
  clear hlv0
  go_enter Try.func5, Try.ntmps5
  have hb : Nx w0 w0 := Below.refl _ _
  go_wp2_with fail
  refine (szPlayerS_any _ z0 _ _ (q0.below hb) l0 (by omega) (by omega)).mono ?_
  rintro e w1 ⟨sz0, rfl, hs0, b⟩
  replace hb := hb.trans b
  clear b
  by_cases g0 : sz0 < 0
  · go_wp2_with fail
    go_ret
    exact ⟨rfl, hb⟩
  have n0 := (hs0 (by omega)).1
  have m0 := (hs0 (by omega)).2
  clear hs0
  go_wp2_with fail
  refine (toPlayerS_any _ _ _ (q0.below hb) n0).mono ?_
  rintro e w2 ⟨s0, rfl, o_s0, b⟩
  replace o_s0 := o_s0.mono hb.size
  replace hb := hb.trans b
  clear b
  go_wp2_with fail
  refine (toIntS_any _ _ _ (q1.below hb) n1).mono ?_
  rintro e w3 ⟨s1, rfl, o_s1, b⟩
  replace o_s1 := o_s1.mono hb.size
  replace o_s0 := o_s0.below b
  replace hb := hb.trans b
  clear b
  go_wp2_with fail
  refine (spec_BestLesson _ _ _ _ _ _ o_s0 n0 o_s1.reads n1).mono ?_
  rintro e w4 ⟨rfl, b⟩
  rw [hlv.out]
  replace o_s0 := o_s0.below b
  replace o_s1 := o_s1.below b
  replace hb := hb.trans b
  clear b
  go_wp2_with fail
  refine (toPlayerS_any _ _ _ (q0.below hb) n0).mono ?_
  rintro e w5 ⟨x0, rfl, o_x0, b⟩
  replace o_x0 := o_x0.mono hb.size
  replace hb := hb.trans b
  clear b
  go_wp2_with fail
  refine (toIntS_any _ _ _ (q1.below hb) n1).mono ?_
  rintro e w6 ⟨x1, rfl, o_x1, b⟩
  replace o_x1 := o_x1.mono hb.size
  replace o_x0 := o_x0.below b
  replace hb := hb.trans b
  clear b
  go_wp2_with fail
  refine (impl_BestLesson _ _ _ _ _ o_x0.reads n0 o_x1.reads n1).mono ?_
  rintro e w7 ⟨rfl, b⟩
  rw [hlv.out]
  replace o_x0 := o_x0.below b
  replace o_x1 := o_x1.below b
  replace hb := hb.trans b
  clear b
  go_wp2_with fail
  refine (toPlayerS_any _ _ _ (q0.below hb) n0).mono ?_
  rintro e w8 ⟨y0, rfl, o_y0, b⟩
  replace o_y0 := o_y0.mono hb.size
  replace o_x0 := o_x0.below b
  replace o_x1 := o_x1.below b
  replace hb := hb.trans b
  clear b
  go_wp2_with fail
  refine (eqPlayerS_same _ _ _ _ o_x0.reads o_y0.reads n0).mono ?_
  rintro e w9 ⟨rfl, b⟩
  replace o_x0 := o_x0.below b
  replace o_x1 := o_x1.below b
  replace o_y0 := o_y0.below b
  replace hb := hb.trans b
  clear b
  go_wp2_with fail
  refine (toIntS_any _ _ _ (q1.below hb) n1).mono ?_
  rintro e w10 ⟨y1, rfl, o_y1, b⟩
  replace o_y1 := o_y1.mono hb.size
  replace o_x0 := o_x0.below b
  replace o_x1 := o_x1.below b
  replace hb := hb.trans b
  clear b
  go_wp2_with fail
  refine (eqIntS_same _ _ _ _ o_x1.reads o_y1.reads n1).mono ?_
  rintro e w11 ⟨rfl, b⟩
  replace o_x0 := o_x0.below b
  replace o_x1 := o_x1.below b
  replace o_y1 := o_y1.below b
  replace hb := hb.trans b
  clear b
  go_wp2_with fail
  go_ret
  exact ⟨rfl, hb⟩

open Go.ChangeShapes Go.WideShapes Go.ChangeAt Go.RowKit
open Go.ChangeMaps (open_string shut_string)

set_option linter.unusedVariables false
set_option maxRecDepth 100000 in
theorem lifted_FnExactBestLesson (os : Os) (started : os.Started) (H : Type) (enc : TypeId × Value → H) :
    ReturnsInHanded {} Try.checked os 5 .any (Rows.fnExactBestLessonSpec.pre6 enc Try.prog Try.f5 Rows.fnExactBestLessonRow.domain false) (Rows.fnExactBestLessonSpec.post enc Try.prog Try.f5 false true false false) := by
  refine returnsInHanded_of_change (C := Try.checked) own started (by kernel_rfl) Try.func5
    (ChangeSpec.witness6 (enc := enc) (C := Try.checked) false ⟨#[], #[.slice none 0 0, .slice none 0 0], []⟩ 8 (by kernel_rfl) (by kernel_rfl) (by kernel_rfl) (by kernel_rfl)) ?_
  intro W base args ds gs before hval0 hW hcnd _
  have hval : ∀ (j : Nat) t v, Try.f5.params[j]? = some t → args[j]? = some v → Value.okWide Try.prog W .any base t v := hval0
  have hW' := hW
  obtain ⟨p, q, hA0, hV, rfl, hfz, hnd⟩ := hW
  have hA : DataW.TrodAll enc Try.prog W 0 (fun _ => true) true Try.f5.params.toList args.toList ds p := hA0
  rw [Try.params5] at hA hval
  obtain ⟨v0, vs0, d0, ds0, p0, q0, hargs, rfl, rfl, h0, r0⟩ := trodAll_cons hA
  obtain ⟨v1, vs1, d1, ds1, p1, q1, rfl, rfl, rfl, h1, r1⟩ := trodAll_cons r0
  obtain ⟨rfl, rfl, rfl⟩ := trodAll_nil r1
  obtain rfl : args = #[v0, v1] := by cases args; simp_all
  obtain ⟨rfl, rfl⟩ := trodVars_none hV
  obtain ⟨a0, len0, cap0, rfl⟩ := okWide_slice Try.underlying22 (hval 0 22 v0 rfl rfl)
  have k0 := h0
  have lt0 : ∀ x ∈ p0, x.block < W.heap.size := by obtain ⟨m, hm⟩ := k0; exact DataW.trod_lt m _ _ _ hm
  obtain ⟨y0, rd0, ln0, wy0⟩ := open_P (enc := enc) h0
  obtain ⟨a1, len1, cap1, rfl⟩ := okWide_slice Try.underlying23 (hval 1 23 v1 rfl rfl)
  have k1 := h1
  have lt1 : ∀ x ∈ p1, x.block < W.heap.size := by obtain ⟨m, hm⟩ := k1; exact DataW.trod_lt m _ _ _ hm
  obtain ⟨z1, w1⟩ : ∃ zs, IsRow .i64 W a1 len1 cap1 zs := by
    obtain ⟨fuel, hf⟩ := h1
    rcases open_ints Try.underlying23 Try.underlying3 (by kernel_rfl) hf with ⟨hcs, _⟩ | ⟨x, l, c, zs, hcs, _, hl, hm, hz, _, hcell, hwz⟩
    · simp [Value.cells] at hcs
      obtain ⟨rfl, rfl, rfl⟩ := hcs
      exact ⟨[], .inl ⟨rfl, rfl, rfl, rfl⟩⟩
    · simp [Value.cells] at hcs
      obtain ⟨rfl, rfl, rfl⟩ := hcs
      exact ⟨zs, .inr ⟨_, rfl, hl, hm, by simpa using hz, hcell, hwz⟩⟩
  obtain ⟨y1, rd1, ln1, wy1⟩ := isRow_reads w1
  clear hA0 hval0
  refine (walk'_FnExactBestLesson W _ y0 rd0 ln0 wy0 _ y1 rd1 ln1 (fun n hn => I64.of_wf (wy1 n hn))).mono fun e W' ⟨he, bel⟩ => ?_
  subst he
  exact ⟨_, rfl, _, _, _, [], _, [], hW', trodAll_mk1 (shut_bool Try.underlying4 _), (trodAll_cons_mk (Below.trod laidOut (by kernel_rfl) (of_decide_eq_true (by kernel_rfl)) k0 bel lt0) (trodAll_cons_mk (Below.trod laidOut (by kernel_rfl) (of_decide_eq_true (by kernel_rfl)) k1 bel lt1) trodAll_mk0)), rfl, bel.frame _, fun h => by cases h⟩

theorem holds_FnExactBestLesson : Rows.FnExactBestLessonSaid :=
  OpenClaim.holds_of_wide 5 Try.f5 rfl rfl rfl rfl rfl rfl rfl ⟨rfl, rfl, rfl, rfl, rfl⟩ rfl rfl rfl rfl rfl (by kernel_rfl) Try.func5 (by kernel_rfl)
    (of_decide_eq_true (by kernel_rfl)) (by unfold Func.isWrapper; first | (rw [if_pos (by decide +kernel)]; kernel_rfl) | (rw [if_neg (by decide +kernel)]; exact ⟨rfl, rfl⟩))
    (fun os started H enc _ => lifted_FnExactBestLesson os started H enc)
#print axioms holds_FnExactBestLesson

end Go.Proofs.Ytfilpeamhcdgfaa
