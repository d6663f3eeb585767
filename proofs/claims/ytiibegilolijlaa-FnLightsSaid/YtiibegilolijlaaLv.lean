/- LevelAt. -/
import Derived.Test.YtiibegilolijlaaFd
import Derived.Test.YtiibegilolijlaaLvS
import Derived.WalkKit
import Derived.ProofKit
import Derived.Handy
import Derived.OpenShut
import Derived.ShutString
import Derived.ChangeOld
import Derived.Below
import Derived.BigQuiet
import Derived.Deep.QuietTactic
import Derived.Deep.Draws
import Derived.Deep.DeepCutAuto
import Derived.Deep.DeepFit
import Derived.Deep.LoopGhost
import Derived.Outline
import Derived.WalkSpells
import Derived.WalkLawsBesides
import Derived.WalkSmall
import Derived.Laws.OwnMore
import Derived.OneCell
import Derived.Laws.Rows
import Derived.Maps.AppendAt
import Derived.StillTailTactics
import Derived.Lib.SmallJoins
import Derived.Deep.RegionWith
import Derived.Deep.RegionHeld3
import Derived.RegionTactic
import Derived.Deep.Matrix
import Derived.Deep.Fields
import Derived.ChangeSame
namespace Go.Proofs.Ytiibegilolijlaa
open Go.RowKit

set_option maxHeartbeats 1000000 in
theorem impl_LevelAt (v : Value) (rows : List (List Int)) (lamp t : Int) (w : World) (h : RdS w v rows) (hl : rows.length ≤ 1048576) (_ : I64 lamp) (_ : I64 t) :
    Calls Try.prog 15 #[v, .int .i64 lamp, .int .i64 t] w fun e w' => e = .returned (.int .i64 (levelAt rows lamp t)) ∧ Nx w w' := by
  cases h1 : fadesOk rows with
  | false =>
    have hf := hide (show levelAt rows lamp t = -1 from by simp [levelAt, h1])
    go_enter Try.func15, Try.ntmps15
    go_wp2_with fail
    refine (impl_FadesOk _ _ _ h hl).mono ?_
    rintro e w1 ⟨rfl, b⟩
    go_wp2_with fail
    go_ret
    exact ⟨ret_int hf.out.symm, b⟩
  | true =>
    cases h2 : inR t 0 1000 with
    | false =>
      have hf := hide (show levelAt rows lamp t = -1 from by simp [levelAt, h2])
      go_enter Try.func15, Try.ntmps15
      go_wp2_with fail
      refine (impl_FadesOk _ _ _ h hl).mono ?_
      rintro e w1 ⟨rfl, b⟩
      go_wp2_with (go_at_call 29; refine (within_any _ _ _ _).mono ?_; rintro e w' ⟨rfl, rfl⟩)
      go_ret
      exact ⟨ret_int hf.out.symm, b⟩
    | true =>
      have hf := hide (show levelAt rows lamp t = lvTo rows lamp t rows.length from by simp [levelAt, h1, h2])
      have H1 := hide h1
      go_enter Try.func15, Try.ntmps15
      go_wp2_with fail
      refine (impl_FadesOk _ _ _ h hl).mono ?_
      rintro e w1 ⟨rfl, b⟩
      go_wp2_with (go_at_call 29; refine (within_any _ _ _ _).mono ?_; rintro e w' ⟨rfl, rfl⟩)
      refine (impl_level _ _ _ _ _ (h.below b) H1.out (inR_iff.1 h2)).mono ?_
      rintro e w2 ⟨rfl, b2⟩
      go_wp2_with fail
      go_ret
      exact ⟨ret_int hf.out.symm, b.trans b2⟩

set_option maxHeartbeats 1000000 in
theorem spec_LevelAt (v : Value) (rows : List (List Int)) (lamp t : Int) (w : World) (h : RdS w v rows) (hl : rows.length ≤ 1048576) (_ : I64 lamp) (_ : I64 t) :
    Calls Try.prog 14 #[v, .int .i64 lamp, .int .i64 t] w fun e w' => e = .returned (.int .i64 (levelAt rows lamp t)) ∧ Nx w w' := by
  cases h1 : fadesOk rows with
  | false =>
    have hf := hide (show levelAt rows lamp t = -1 from by simp [levelAt, h1])
    go_enter Try.func14, Try.ntmps14
    go_wp2_with fail
    refine (spec_FadesOk _ _ _ h hl).mono ?_
    rintro e w1 ⟨rfl, b⟩
    go_wp2_with fail
    go_ret
    exact ⟨ret_int hf.out.symm, b⟩
  | true =>
    cases h2 : inR t 0 1000 with
    | false =>
      have hf := hide (show levelAt rows lamp t = -1 from by simp [levelAt, h2])
      go_enter Try.func14, Try.ntmps14
      go_wp2_with fail
      refine (spec_FadesOk _ _ _ h hl).mono ?_
      rintro e w1 ⟨rfl, b⟩
      go_wp2_with (go_at_call 27; refine (l01In_any _ _ _ _).mono ?_; rintro e w' ⟨rfl, rfl⟩)
      go_ret
      exact ⟨ret_int hf.out.symm, b⟩
    | true =>
      have hf := hide (show levelAt rows lamp t = lvTo rows lamp t rows.length from by simp [levelAt, h1, h2])
      have H1 := hide h1
      go_enter Try.func14, Try.ntmps14
      go_wp2_with fail
      refine (spec_FadesOk _ _ _ h hl).mono ?_
      rintro e w1 ⟨rfl, b⟩
      go_wp2_with (go_at_call 27; refine (l01In_any _ _ _ _).mono ?_; rintro e w' ⟨rfl, rfl⟩)
      refine (spec_level _ _ _ _ _ (h.below b) H1.out (inR_iff.1 h2)).mono ?_
      rintro e w2 ⟨rfl, b2⟩
      go_wp2_with fail
      go_ret
      exact ⟨ret_int hf.out.symm, b.trans b2⟩

end Go.Proofs.Ytiibegilolijlaa
