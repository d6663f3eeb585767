/- The law FnExactFitsFor holds: for every input the program's function answers as the reference does; nothing that was there is changed. -/
import Derived.Test.YtmleamknongknaaFits
import Derived.WalkKit
import Derived.ProofKit
import Derived.Handy
import Derived.OpenShut
import Derived.ShutString
import Derived.ChangeOld
import Derived.Below
import Derived.BigQuiet
import Derived.Deep.QuietTactic
import Derived.Deep.Draws
import Derived.Deep.DeepCutAuto
import Derived.Deep.DeepFit
import Derived.Deep.LoopGhost
import Derived.Outline
import Derived.WalkSpells
import Derived.WalkLawsBesides
import Derived.WalkSmall
import Derived.Laws.OwnMore
import Derived.OneCell
import Derived.Laws.Rows
import Derived.Maps.AppendAt
import Derived.StillTailTactics
import Derived.Lib.SmallJoins
import Derived.Deep.RegionWith
import Derived.Deep.RegionHeld3
import Derived.RegionTactic
import Derived.Deep.Matrix
import Derived.Deep.Fields
import Derived.ChangeSame
namespace Go.Proofs.Ytmleamknongknaa
open Go.RowKit

set_option maxHeartbeats 2000000 in
theorem walk_FnExactFitsFor (a b c : Int) (_ : I64 a) (_ : I64 b) (_ : I64 c) (p q r : Int) (_ : I64 p) (_ : I64 q) (_ : I64 r) (w : World) :
    Calls Try.prog 4 #[.agg #[.int .i64 a, .int .i64 b, .int .i64 c], .agg #[.int .i64 p, .int .i64 q, .int .i64 r]] w fun e w' => e = .returned (.bool true) ∧ Nx w w' := by
  have G0 : Hid (Nx w ((w.alloc (.cells #[.int .i64 a, .int .i64 b, .int .i64 c] 23)).alloc (.cells #[.int .i64 p, .int .i64 q, .int .i64 r] 23))) := by
    show Nx _ _
    go_grown
  go_enter Try.func4, Try.ntmps4
  go_wp2_with fail
  have hb := unhide G0
  clear G0
  go_cut [5] (fun u wr => u = .bool (fits a b c p q r) ∧ Nx w wr ∧ w.heap.size + 2 ≤ wr.heap.size ∧ (∀ o, wr.cell? ⟨w.heap.size, o, none⟩ = (#[Value.int .i64 a, .int .i64 b, .int .i64 c])[o]?) ∧ (∀ o, wr.cell? ⟨w.heap.size + 1, o, none⟩ = (#[Value.int .i64 p, .int .i64 q, .int .i64 r])[o]?))
  case first =>
    go_region_with (first
      | (go_at_call 11; refine (toMeasure_any _ _ _ _).mono ?_; rintro e w1 ⟨rfl, b1⟩; have s1 : w.heap.size + 2 ≤ w1.heap.size := (by have s2 := b1.size; (try simp at s2); omega); have c1 := fun o => b1.cells w.heap.size o (by (try simp) <;> omega); have c2 := fun o => b1.cells (w.heap.size + 1) o (by (try simp) <;> omega); have hb := (by first | exact hb.trans b1 | exact hb.trans_drew b1 : Nx w w1); clear b1)
      | (go_at_call 13; refine (spec_FitsFor _ _ _ _ _ _ _).mono ?_; rintro e w1 ⟨rfl, b1⟩; have s1 : w.heap.size + 2 ≤ w1.heap.size := (by have s2 := b1.size; (try simp at s2); omega); have c1 := fun o => b1.cells w.heap.size o (by (try simp) <;> omega); have c2 := fun o => b1.cells (w.heap.size + 1) o (by (try simp) <;> omega); have hb := (by first | exact hb.trans b1 | exact hb.trans_drew b1 : Nx w w1); clear b1))
    all_goals (go_wp2_with fail; go_meet; exact ⟨rfl, hb, s1, fun o => by simp [*], fun o => by simp [*]⟩)
  case rest =>
    clear hb
    obtain ⟨rfl, hb, hs, c1, c2⟩ := hcut
    go_wp2_with fail
    go_cut [6] (fun u wr => u = .bool (fits a b c p q r) ∧ Nx w wr ∧ w.heap.size + 2 ≤ wr.heap.size ∧ (∀ o, wr.cell? ⟨w.heap.size, o, none⟩ = (#[Value.int .i64 a, .int .i64 b, .int .i64 c])[o]?) ∧ (∀ o, wr.cell? ⟨w.heap.size + 1, o, none⟩ = (#[Value.int .i64 p, .int .i64 q, .int .i64 r])[o]?))
    case first =>
      go_region_with (first
        | (go_at_call 11; refine (toMeasure_any _ _ _ _).mono ?_; rintro e w1 ⟨rfl, b1⟩; have s1 : w.heap.size + 2 ≤ w1.heap.size := (by have s2 := b1.size; (try simp at s2); omega); have c1 := fun o => b1.cells w.heap.size o (by (try simp) <;> omega); have c2 := fun o => b1.cells (w.heap.size + 1) o (by (try simp) <;> omega); have hb := (by first | exact hb.trans b1 | exact hb.trans_drew b1 : Nx w w1); clear b1)
        | (go_at_call 14; refine (impl_FitsFor _ _ _ _ _ _ _).mono ?_; rintro e w1 ⟨rfl, b1⟩; have s1 : w.heap.size + 2 ≤ w1.heap.size := (by have s2 := b1.size; (try simp at s2); omega); have c1 := fun o => b1.cells w.heap.size o (by (try simp) <;> omega); have c2 := fun o => b1.cells (w.heap.size + 1) o (by (try simp) <;> omega); have hb := (by first | exact hb.trans b1 | exact hb.trans_drew b1 : Nx w w1); clear b1))
      all_goals (go_wp2_with fail; go_meet; exact ⟨rfl, hb, s1, fun o => by simp [*], fun o => by simp [*]⟩)
    case rest =>
      clear hb hs c1 c2
      obtain ⟨rfl, hb, hs, c1, c2⟩ := hcut
      go_wp2_with fail
      go_ret
      exact ⟨rfl, hb⟩

open Go.ChangeShapes Go.WideShapes Go.ChangeAt Go.RowKit
open Go.ChangeMaps (open_string shut_string)

set_option linter.unusedVariables false
set_option maxRecDepth 100000 in
theorem lifted_FnExactFitsFor (os : Os) (started : os.Started) (H : Type) (enc : TypeId × Value → H) :
    ReturnsInHanded {} Try.checked os 4 .any (Rows.fnExactFitsForSpec.pre6 enc Try.prog Try.f4 Rows.fnExactFitsForRow.domain false) (Rows.fnExactFitsForSpec.post enc Try.prog Try.f4 false true false false) := by
  refine returnsInHanded_of_change (C := Try.checked) own started (by kernel_rfl) Try.func4
    (ChangeSpec.witness6 (enc := enc) (C := Try.checked) false ⟨#[], #[.agg #[.int .i64 0, .int .i64 0, .int .i64 0], .agg #[.int .i64 0, .int .i64 0, .int .i64 0]], []⟩ 8 (by kernel_rfl) (by kernel_rfl) (by kernel_rfl) (by kernel_rfl)) ?_
  intro W base args ds gs before hval0 hW hcnd _
  have hval : ∀ (j : Nat) t v, Try.f4.params[j]? = some t → args[j]? = some v → Value.okWide Try.prog W .any base t v := hval0
  have hW' := hW
  obtain ⟨p, q, hA0, hV, rfl, hfz, hnd⟩ := hW
  have hA : DataW.TrodAll enc Try.prog W 0 (fun _ => true) true Try.f4.params.toList args.toList ds p := hA0
  rw [Try.params4] at hA hval
  obtain ⟨v0, vs0, d0, ds0, p0, q0, hargs, rfl, rfl, h0, r0⟩ := trodAll_cons hA
  obtain ⟨v1, vs1, d1, ds1, p1, q1, rfl, rfl, rfl, h1, r1⟩ := trodAll_cons r0
  obtain ⟨rfl, rfl, rfl⟩ := trodAll_nil r1
  obtain rfl : args = #[v0, v1] := by cases args; simp_all
  obtain ⟨rfl, rfl⟩ := trodVars_none hV
  have k0 := h0
  have lt0 : ∀ x ∈ p0, x.block < W.heap.size := by obtain ⟨m, hm⟩ := k0; exact DataW.trod_lt m _ _ _ hm
  obtain ⟨c00, c01, c02, y00, y01, y02, m0, rfl, hd0, hp0, hy00, hy01, hy02⟩ := Go.Joins.open_agg3 Try.underlying23 (by kernel_rfl) (by kernel_rfl) (hval 0 23 v0 rfl rfl) h0
  obtain ⟨a00, e00, ey00, w00⟩ := DataW.trod_int Try.underlying3 hy00
  simp at e00; subst e00
  obtain ⟨a01, e01, ey01, w01⟩ := DataW.trod_int Try.underlying3 hy01
  simp at e01; subst e01
  obtain ⟨a02, e02, ey02, w02⟩ := DataW.trod_int Try.underlying3 hy02
  simp at e02; subst e02
  have k1 := h1
  have lt1 : ∀ x ∈ p1, x.block < W.heap.size := by obtain ⟨m, hm⟩ := k1; exact DataW.trod_lt m _ _ _ hm
  obtain ⟨c10, c11, c12, y10, y11, y12, m1, rfl, hd1, hp1, hy10, hy11, hy12⟩ := Go.Joins.open_agg3 Try.underlying23 (by kernel_rfl) (by kernel_rfl) (hval 1 23 v1 rfl rfl) h1
  obtain ⟨a10, e10, ey10, w10⟩ := DataW.trod_int Try.underlying3 hy10
  simp at e10; subst e10
  obtain ⟨a11, e11, ey11, w11⟩ := DataW.trod_int Try.underlying3 hy11
  simp at e11; subst e11
  obtain ⟨a12, e12, ey12, w12⟩ := DataW.trod_int Try.underlying3 hy12
  simp at e12; subst e12
  clear hA0 hval0
  refine (walk_FnExactFitsFor a00 a01 a02 (I64.of_wf w00) (I64.of_wf w01) (I64.of_wf w02) a10 a11 a12 (I64.of_wf w10) (I64.of_wf w11) (I64.of_wf w12) W).mono fun e W' ⟨he, bel⟩ => ?_
  subst he
  exact ⟨_, rfl, _, _, _, [], _, [], hW', trodAll_mk1 (shut_bool Try.underlying4 _), (trodAll_cons_mk (Below.trod laidOut (by kernel_rfl) (of_decide_eq_true (by kernel_rfl)) k0 bel lt0) (trodAll_cons_mk (Below.trod laidOut (by kernel_rfl) (of_decide_eq_true (by kernel_rfl)) k1 bel lt1) trodAll_mk0)), rfl, bel.frame _, fun h => by cases h⟩

theorem holds_FnExactFitsFor : Rows.FnExactFitsForSaid :=
  OpenClaim.holds_of_wide 4 Try.f4 rfl rfl rfl rfl rfl rfl rfl ⟨rfl, rfl, rfl, rfl, rfl⟩ rfl rfl rfl rfl rfl (by kernel_rfl) Try.func4 (by kernel_rfl)
    (of_decide_eq_true (by kernel_rfl)) (by unfold Func.isWrapper; first | (rw [if_pos (by decide +kernel)]; kernel_rfl) | (rw [if_neg (by decide +kernel)]; exact ⟨rfl, rfl⟩))
    (fun os started H enc _ => lifted_FnExactFitsFor os started H enc)
#print axioms holds_FnExactFitsFor

end Go.Proofs.Ytmleamknongknaa
