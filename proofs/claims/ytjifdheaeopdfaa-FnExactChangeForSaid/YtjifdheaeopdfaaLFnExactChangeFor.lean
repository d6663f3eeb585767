/- The law FnExactChangeFor holds: for every input the program's function answers as the reference does; nothing that was there is changed. -/
import Derived.Test.YtjifdheaeopdfaaSplit
import Derived.WalkKit
import Derived.ProofKit
import Derived.Handy
import Derived.OpenShut
import Derived.ShutString
import Derived.ChangeOld
import Derived.Below
import Derived.BigQuiet
import Derived.Deep.QuietTactic
import Derived.Deep.Draws
import Derived.Deep.DeepCutAuto
import Derived.Deep.DeepFit
import Derived.Deep.LoopGhost
import Derived.Outline
import Derived.WalkSpells
import Derived.WalkLawsBesides
import Derived.WalkSmall
import Derived.Laws.OwnMore
import Derived.OneCell
import Derived.Laws.Rows
import Derived.Maps.AppendAt
import Derived.StillTailTactics
namespace Go.Proofs.Ytjifdheaeopdfaa
open Go.RowKit

set_option linter.unusedVariables false in
set_option maxHeartbeats 2000000 in
theorem walk'_FnExactChangeFor (w0 : World) (a0 : Int) (i0 : I64 a0) (a1 : Int) (i1 : I64 a1) :
    Calls Try.prog 11 #[.int .i64 a0, .int .i64 a1] w0 fun e w' => e = .returned (.bool true) ∧ Nx w0 w' := by
  go_enter Try.func11, Try.ntmps11
  have hb : Nx w0 w0 := Below.refl _ _
  go_wp2_with fail
  refine (spec_ChangeFor _ _ _ i0 i1).mono ?_
  rintro e w1 ⟨g, rfl, o_g, b⟩
  replace o_g := o_g.mono hb.size
  replace hb := hb.trans b
  clear b
  go_wp2_with fail
  refine (impl_ChangeFor _ _ _ i0 i1).mono ?_
  rintro e w2 ⟨h, rfl, o_h, b⟩
  have ap_h_g := o_g.apart o_h (Nat.le_refl _)
  have ap_g_h := o_g.apart' o_h (Nat.le_refl _)
  replace o_h := o_h.mono hb.size
  replace o_g := o_g.below b
  replace hb := hb.trans b
  clear b
  have ng : _ := ChangeFor_len a0 a1
  go_wp2_with fail
  refine (eqIntS_same _ _ _ _ o_h.reads o_g.reads ng).mono ?_
  rintro e w3 ⟨rfl, b⟩
  replace o_g := o_g.below b
  replace o_h := o_h.below b
  replace hb := hb.trans b
  clear b
  go_wp2_with fail
  refine (markIntS_any _ _ _ _ _ o_h ng (by omega) (by omega)).mono ?_
  rintro e w4 ⟨rfl, m_h, hg⟩
  replace hb := hb.only o_h hg (Nat.le_refl _)
  replace o_g := o_g.kept hg ap_g_h
  clear hg o_h
  have o_h := m_h
  go_wp2_with fail
  refine (heldIntS_marks _ _ _ _ o_h.reads ng (by omega) (by omega)).mono ?_
  rintro e w5 ⟨rfl, b⟩
  replace o_g := o_g.below b
  replace o_h := o_h.below b
  replace hb := hb.trans b
  clear b m_h
  go_wp2_with fail
  refine (impl_ChangeFor _ _ _ i0 i1).mono ?_
  rintro e w6 ⟨k, rfl, o_k, b⟩
  have ap_k_g := o_g.apart o_k (Nat.le_refl _)
  have ap_g_k := o_g.apart' o_k (Nat.le_refl _)
  have ap_k_h := o_h.apart o_k (Nat.le_refl _)
  have ap_h_k := o_h.apart' o_k (Nat.le_refl _)
  replace o_k := o_k.mono hb.size
  replace o_g := o_g.below b
  replace o_h := o_h.below b
  replace hb := hb.trans b
  clear b
  go_wp2_with fail
  refine (eqIntS_same _ _ _ _ o_k.reads o_g.reads ng).mono ?_
  rintro e w7 ⟨rfl, b⟩
  replace o_g := o_g.below b
  replace o_h := o_h.below b
  replace o_k := o_k.below b
  replace hb := hb.trans b
  clear b
  go_wp2_with fail
  refine (heldIntS_marks _ _ _ _ o_h.reads ng (by omega) (by omega)).mono ?_
  rintro e w8 ⟨rfl, b⟩
  replace o_g := o_g.below b
  replace o_h := o_h.below b
  replace o_k := o_k.below b
  replace hb := hb.trans b
  clear b
  go_wp2_with fail
  go_ret
  exact ⟨rfl, hb⟩

open Go.ChangeShapes Go.WideShapes Go.ChangeAt Go.RowKit
open Go.ChangeMaps (open_string shut_string)

set_option linter.unusedVariables false
set_option maxRecDepth 100000 in
theorem lifted_FnExactChangeFor (os : Os) (started : os.Started) (H : Type) (enc : TypeId × Value → H) :
    ReturnsInHanded {} Try.checked os 11 .any (Rows.fnExactChangeForSpec.pre6 enc Try.prog Try.f11 Rows.fnExactChangeForRow.domain false) (Rows.fnExactChangeForSpec.post enc Try.prog Try.f11 false true false false) := by
  refine returnsInHanded_of_change (C := Try.checked) own started (by kernel_rfl) Try.func11
    (ChangeSpec.witness6 (enc := enc) (C := Try.checked) false ⟨#[], #[.int .i64 0, .int .i64 0], []⟩ 8 (by kernel_rfl) (by kernel_rfl) (by kernel_rfl) (by kernel_rfl)) ?_
  intro W base args ds gs before hval0 hW hcnd _
  have hval : ∀ (j : Nat) t v, Try.f11.params[j]? = some t → args[j]? = some v → Value.okWide Try.prog W .any base t v := hval0
  have hW' := hW
  obtain ⟨p, q, hA0, hV, rfl, hfz, hnd⟩ := hW
  have hA : DataW.TrodAll enc Try.prog W 0 (fun _ => true) true Try.f11.params.toList args.toList ds p := hA0
  rw [Try.params11] at hA hval
  obtain ⟨v0, vs0, d0, ds0, p0, q0, hargs, rfl, rfl, h0, r0⟩ := trodAll_cons hA
  obtain ⟨v1, vs1, d1, ds1, p1, q1, rfl, rfl, rfl, h1, r1⟩ := trodAll_cons r0
  obtain ⟨rfl, rfl, rfl⟩ := trodAll_nil r1
  obtain rfl : args = #[v0, v1] := by cases args; simp_all
  obtain ⟨rfl, rfl⟩ := trodVars_none hV
  obtain ⟨a0, rfl, rfl, rfl, w0⟩ := open_int Try.underlying3 (hval 0 3 v0 rfl rfl) h0
  obtain ⟨a1, rfl, rfl, rfl, w1⟩ := open_int Try.underlying3 (hval 1 3 v1 rfl rfl) h1
  clear hA0 hval0
  refine (walk'_FnExactChangeFor W a0 (I64.of_wf w0) a1 (I64.of_wf w1)).mono fun e W' ⟨he, bel⟩ => ?_
  subst he
  exact ⟨_, rfl, _, _, _, [], _, [], hW', trodAll_mk1 (shut_bool Try.underlying4 _), (trodAll_cons_mk (shut_int Try.underlying3 w0) (trodAll_cons_mk (shut_int Try.underlying3 w1) trodAll_mk0)), rfl, bel.frame _, fun h => by cases h⟩

theorem holds_FnExactChangeFor : Rows.FnExactChangeForSaid :=
  OpenClaim.holds_of_wide 11 Try.f11 rfl rfl rfl rfl rfl rfl rfl ⟨rfl, rfl, rfl, rfl, rfl⟩ rfl rfl rfl rfl rfl (by kernel_rfl) Try.func11 (by kernel_rfl)
    (of_decide_eq_true (by kernel_rfl)) (by unfold Func.isWrapper; first | (rw [if_pos (by decide +kernel)]; kernel_rfl) | (rw [if_neg (by decide +kernel)]; exact ⟨rfl, rfl⟩))
    (fun os started H enc _ => lifted_FnExactChangeFor os started H enc)
#print axioms holds_FnExactChangeFor

end Go.Proofs.Ytjifdheaeopdfaa
