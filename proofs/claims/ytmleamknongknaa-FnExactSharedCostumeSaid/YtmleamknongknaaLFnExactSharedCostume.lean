/- The law FnExactSharedCostume holds: for every input the program's function answers as the reference does; nothing that was there is changed. -/
import Derived.Test.YtmleamknongknaaShI
import Derived.Test.YtmleamknongknaaShS
import Derived.WalkKit
import Derived.ProofKit
import Derived.Handy
import Derived.OpenShut
import Derived.ShutString
import Derived.ChangeOld
import Derived.Below
import Derived.BigQuiet
import Derived.Deep.QuietTactic
import Derived.Deep.Draws
import Derived.Deep.DeepCutAuto
import Derived.Deep.DeepFit
import Derived.Deep.LoopGhost
import Derived.Outline
import Derived.WalkSpells
import Derived.WalkLawsBesides
import Derived.WalkSmall
import Derived.Laws.OwnMore
import Derived.OneCell
import Derived.Laws.Rows
import Derived.Maps.AppendAt
import Derived.StillTailTactics
import Derived.Lib.SmallJoins
import Derived.Deep.RegionWith
import Derived.Deep.RegionHeld3
import Derived.RegionTactic
import Derived.Deep.Matrix
import Derived.Deep.Fields
import Derived.ChangeSame
namespace Go.Proofs.Ytmleamknongknaa
open Go.RowKit

theorem sharedV_form (rows : List (List Int)) : ∃ (A B C : Int) (o : Bool), sharedV rows = .tuple #[Ms A B C, .bool o] := by
  unfold sharedV
  split
  · exact ⟨_, _, _, _, rfl⟩
  · exact ⟨_, _, _, _, rfl⟩
theorem impl_SC (v : Value) (rows : List (List Int)) (w : World) (V : Value) (h : RdS w v rows) (hl : rows.length ≤ 1048576) (hV : sharedV rows = V) :
    Calls Try.prog 20 #[v] w fun e w' => e = .returned V ∧ Nx w w' := hV ▸ impl_SharedCostume v rows w h hl
theorem spec_SC (v : Value) (rows : List (List Int)) (w : World) (V : Value) (h : RdS w v rows) (hl : rows.length ≤ 1048576) (hV : sharedV rows = V) :
    Calls Try.prog 18 #[v] w fun e w' => e = .returned V ∧ Nx w w' := hV ▸ spec_SharedCostume v rows w h hl
set_option linter.unusedVariables false in
set_option maxHeartbeats 2000000 in
theorem walk'_FnExactSharedCostume (w0 : World) (v0 : Value) (z0 : List (List Int)) (r0 : RdS w0 v0 z0) (l0 : z0.length ≤ maxLen) (_ : OkS z0) :
    Calls Try.prog 6 #[v0] w0 fun e w' => e = .returned (.bool true) ∧ Nx w0 w' := by
  have q0 := r0
  obtain ⟨A, B, C, o, hV0⟩ := sharedV_form z0
  have hV := hide hV0
  clear hV0
  go_enter Try.func6, Try.ntmps6
  have hb : Nx w0 w0 := Below.refl _ _
  go_wp2_with fail
  refine (szMeasureS_any _ z0 _ _ (q0.below hb) l0 (by omega) (by omega)).mono ?_
  rintro e w1 ⟨sz0, rfl, hs0, b⟩
  replace hb := hb.trans b
  clear b
  by_cases g0 : sz0 < 0
  · go_wp2_with fail
    go_ret
    exact ⟨rfl, hb⟩
  have n0 := (hs0 (by omega)).1
  have m0 := (hs0 (by omega)).2
  clear hs0
  go_wp2_with fail
  refine (toMeasureS_any _ _ _ (q0.below hb) n0).mono ?_
  rintro e w2 ⟨s0, rfl, o_s0, b⟩
  replace hb := hb.trans b
  clear b
  go_wp2_with fail
  refine (spec_SC _ _ _ _ o_s0.reads n0 hV.out).mono ?_
  rintro e w3 ⟨rfl, b⟩
  clear o_s0
  replace hb := hb.trans b
  clear b
  go_wp2_with fail
  have k4 : Blk _ w3.heap.size 25 (msC A B C) := Blk.new w3 _ _
  replace hb := hb.trans (Nx.made w3 (.cells (msC A B C) 25))
  have K4 := hide k4
  clear k4
  change Calls _ _ _ (w3.alloc (.cells (msC A B C) 25)) _
  have e3 := hide (rfl : w3.heap.size = w3.heap.size)
  generalize w3.alloc (.cells (msC A B C) 25) = w4 at K4 hb ⊢
  clear e3
  generalize w3.heap.size = g4 at K4 ⊢
  refine (toMeasureS_any _ _ _ (q0.below hb) n0).mono ?_
  rintro e w5 ⟨x0, rfl, o_x0, b⟩
  replace K4 := hide (K4.out.below b)
  replace hb := hb.trans b
  clear b
  go_wp2_with fail
  refine (impl_SC _ _ _ _ o_x0.reads n0 hV.out).mono ?_
  rintro e w6 ⟨rfl, b⟩
  replace o_x0 := o_x0.below b
  replace K4 := hide (K4.out.below b)
  replace hb := hb.trans b
  clear b
  have c0 : w6.cell? ⟨g4, 0, none⟩ = some (.int .i64 A) := K4.out.cell 0
  have c1 : w6.cell? ⟨g4, 1, none⟩ = some (.int .i64 B) := K4.out.cell 1
  have c2 : w6.cell? ⟨g4, 2, none⟩ = some (.int .i64 C) := K4.out.cell 2
  have s6 : g4 < w6.heap.size := K4.out.lt
  go_wp2_with (go_at_call 21; fail)
  refine (eqMeasure_same _ _ _ _).mono ?_
  rintro e w7 ⟨rfl, b⟩
  replace b := (Nx.made w6 _).trans b
  replace o_x0 := o_x0.below b
  replace hb := hb.trans b
  clear b c0 c1 c2 K4
  have eo1 : (o == o) = true := by simp
  have eo2 : (o != o) = false := by simp
  go_wp2_with fail
  refine (toMeasureS_any _ _ _ (q0.below hb) n0).mono ?_
  rintro e w8 ⟨y0, rfl, o_y0, b⟩
  replace o_x0 := o_x0.below b
  replace hb := hb.trans b
  clear b
  go_wp2_with fail
  refine (eqMeasureS_same _ _ _ _ o_x0.reads o_y0.reads n0).mono ?_
  rintro e w9 ⟨rfl, b⟩
  replace hb := hb.trans b
  clear b
  go_wp2_with fail
  go_ret
  exact ⟨rfl, hb⟩

open Go.ChangeShapes Go.WideShapes Go.ChangeAt Go.RowKit
open Go.ChangeMaps (open_string shut_string)

set_option linter.unusedVariables false
set_option maxRecDepth 100000 in
theorem lifted_FnExactSharedCostume (os : Os) (started : os.Started) (H : Type) (enc : TypeId × Value → H) :
    ReturnsInHanded {} Try.checked os 6 .any (Rows.fnExactSharedCostumeSpec.pre6 enc Try.prog Try.f6 Rows.fnExactSharedCostumeRow.domain false) (Rows.fnExactSharedCostumeSpec.post enc Try.prog Try.f6 false true false false) := by
  refine returnsInHanded_of_change (C := Try.checked) own started (by kernel_rfl) Try.func6
    (ChangeSpec.witness6 (enc := enc) (C := Try.checked) false ⟨#[], #[.slice none 0 0], []⟩ 8 (by kernel_rfl) (by kernel_rfl) (by kernel_rfl) (by kernel_rfl)) ?_
  intro W base args ds gs before hval0 hW hcnd _
  have hval : ∀ (j : Nat) t v, Try.f6.params[j]? = some t → args[j]? = some v → Value.okWide Try.prog W .any base t v := hval0
  have hW' := hW
  obtain ⟨p, q, hA0, hV, rfl, hfz, hnd⟩ := hW
  have hA : DataW.TrodAll enc Try.prog W 0 (fun _ => true) true Try.f6.params.toList args.toList ds p := hA0
  rw [Try.params6] at hA hval
  obtain ⟨v0, vs0, d0, ds0, p0, q0, hargs, rfl, rfl, h0, r0⟩ := trodAll_cons hA
  obtain ⟨rfl, rfl, rfl⟩ := trodAll_nil r0
  obtain rfl : args = #[v0] := by cases args; simp_all
  obtain ⟨rfl, rfl⟩ := trodVars_none hV
  obtain ⟨a0, len0, cap0, rfl⟩ := okWide_slice Try.underlying31 (hval 0 31 v0 rfl rfl)
  have k0 := h0
  have lt0 : ∀ x ∈ p0, x.block < W.heap.size := by obtain ⟨m, hm⟩ := k0; exact DataW.trod_lt m _ _ _ hm
  obtain ⟨y0, rd0, ln0, wy0⟩ := open_SMeasure (enc := enc) h0
  clear hA0 hval0
  refine (walk'_FnExactSharedCostume W _ y0 rd0 ln0 wy0).mono fun e W' ⟨he, bel⟩ => ?_
  subst he
  exact ⟨_, rfl, _, _, _, [], _, [], hW', trodAll_mk1 (shut_bool Try.underlying4 _), (trodAll_cons_mk (Below.trod laidOut (by kernel_rfl) (of_decide_eq_true (by kernel_rfl)) k0 bel lt0) trodAll_mk0), rfl, bel.frame _, fun h => by cases h⟩

theorem holds_FnExactSharedCostume : Rows.FnExactSharedCostumeSaid :=
  OpenClaim.holds_of_wide 6 Try.f6 rfl rfl rfl rfl rfl rfl rfl ⟨rfl, rfl, rfl, rfl, rfl⟩ rfl rfl rfl rfl rfl (by kernel_rfl) Try.func6 (by kernel_rfl)
    (of_decide_eq_true (by kernel_rfl)) (by unfold Func.isWrapper; first | (rw [if_pos (by decide +kernel)]; kernel_rfl) | (rw [if_neg (by decide +kernel)]; exact ⟨rfl, rfl⟩))
    (fun os started H enc _ => lifted_FnExactSharedCostume os started H enc)
#print axioms holds_FnExactSharedCostume

end Go.Proofs.Ytmleamknongknaa
