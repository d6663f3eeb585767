/- Players: the best lesson, impl. -/
import Derived.Test.YtfilpeamhcdgfaaPlL
import Derived.Test.YtfilpeamhcdgfaaPlT
import Derived.WalkKit
import Derived.ProofKit
import Derived.Handy
import Derived.OpenShut
import Derived.ShutString
import Derived.ChangeOld
import Derived.Below
import Derived.BigQuiet
import Derived.Deep.QuietTactic
import Derived.Deep.Draws
import Derived.Deep.DeepCutAuto
import Derived.Deep.DeepFit
import Derived.Deep.LoopGhost
import Derived.Outline
import Derived.WalkSpells
import Derived.WalkLawsBesides
import Derived.WalkSmall
import Derived.Laws.OwnMore
import Derived.OneCell
import Derived.Laws.Rows
import Derived.Maps.AppendAt
import Derived.StillTailTactics
import Derived.Lib.SmallJoins
import Derived.Deep.RegionWith
import Derived.Deep.RegionHeld3
import Derived.RegionTactic
import Derived.Deep.Matrix
import Derived.Deep.Fields
import Derived.ChangeSame
namespace Go.Proofs.Ytfilpeamhcdgfaa
open Go.RowKit

set_option maxHeartbeats 2000000 in
theorem impl_BestLesson (v : Value) (ps : List Plr) (u : Value) (pu : List Int) (w : World) (h : RdP w v ps) (hl : FitP ps) (hu : RdI w u pu) (hul : pu.length ≤ 1048576) :
    Calls Try.prog 22 #[v, u] w fun e w' => e = .returned (lesV ps pu) ∧ Nx w w' := by
  have hv := hide h
  have hw := hide hu
  have hn := hl.1
  obtain ⟨A, c, rfl, hx⟩ := h
  obtain ⟨Ap, cp, rfl, hx2⟩ := hu
  clear hx hx2
  cases h1 : playersOk ps with
  | false =>
    have hf := hide (show lesV ps pu = .tuple #[.int .i64 0, .int .i64 0, .bool false] from lesV_none (by simp [lesson, h1]))
    go_enter Try.func22, Try.ntmps22
    go_wp2_with (go_at_call 40; fail)
    refine (impl_PlayersOk _ ps w hv.out hl).mono ?_
    rintro e w1 ⟨rfl, b1⟩
    rw [h1]
    have HB := hide b1
    clear b1 h1
    go_wp2_with fail
    go_ret3
    exact ⟨by rw [hf.out]; rfl, HB.out⟩
  | true =>
  cases h2 : strictL 0 6 pu with
  | false =>
    have hf := hide (show lesV ps pu = .tuple #[.int .i64 0, .int .i64 0, .bool false] from lesV_none (by simp [lesson, h1, h2]))
    go_enter Try.func22, Try.ntmps22
    go_wp2_with (go_at_call 40; fail)
    refine (impl_PlayersOk _ ps w hv.out hl).mono ?_
    rintro e w1 ⟨rfl, b1⟩
    rw [h1]
    have HB := hide b1
    clear b1 h1
    go_wp2_with (go_at_call 42; fail)
    refine (arePuppets_any _ pu w1 (hw.out.below HB.out) hul).mono ?_
    rintro e w2 ⟨rfl, m, rfl⟩
    rw [h2]
    have HB2 := hide (Nx.drewN HB.out m)
    clear h2
    go_wp2_with fail
    go_ret3
    exact ⟨by rw [hf.out]; rfl, HB2.out⟩
  | true =>
    have Hok := hide (And.intro h1 h2)
    have Hl := hide (show lesson ps pu = if safeP ps pu then none else lessonTo ps pu ps.length from by simp [lesson, h1, h2]; cases safeP ps pu <;> simp)
    go_enter Try.func22, Try.ntmps22
    go_wp2_with (go_at_call 40; fail)
    refine (impl_PlayersOk _ ps w hv.out hl).mono ?_
    rintro e w1 ⟨rfl, b1⟩
    rw [h1]
    have HB := hide b1
    clear b1 h1
    go_wp2_with (go_at_call 42; fail)
    refine (arePuppets_any _ pu w1 (hw.out.below HB.out) hul).mono ?_
    rintro e w2 ⟨rfl, m, rfl⟩
    rw [h2]
    have HB2 := hide (Nx.drewN HB.out m)
    clear h2 HB
    generalize World.drewN w1 m = w2 at HB2 ⊢
    go_wp2_with (go_at_call 18; fail)
    refine (impl_IsSafe _ ps _ pu w2 (hv.out.below HB2.out) hl (hw.out.below HB2.out) hul).mono ?_
    rintro e w3 ⟨rfl, b3⟩
    have HB3 := hide (HB2.out.trans b3)
    clear b3 HB2
    cases h3 : safeP ps pu with
    | true =>
      have hf := hide (show lesV ps pu = .tuple #[.int .i64 0, .int .i64 0, .bool false] from lesV_none (by rw [Hl.out, h3]; rfl))
      clear h3
      go_wp2_with fail
      go_ret3
      exact ⟨by rw [hf.out]; rfl, HB3.out⟩
    | false =>
      have Hl2 := hide (show lesson ps pu = lessonTo ps pu ps.length from by rw [Hl.out, h3]; rfl)
      have hto0 := hide (show lessonTo ps pu 0 = none from rfl)
      have hin0 := hide (fun k => show lessonIn ps pu k 0 = none from rfl)
      clear h3
      go_wp2_with fail
      go_loopw [27] (fun i wr => ∃ k : Nat, k ≤ ps.length ∧ i = .int .i64 (k : Int) ∧ Hid (lessonTo ps pu k = none) ∧ Nx w wr) (fun i _ => ps.length - (intOf i).toNat)
      case atStart => exact ⟨0, Nat.zero_le _, rfl, hto0.out, HB3.out⟩
      case round =>
        clear HB3 hto0
        obtain ⟨k, hk, rfl, hto, hb⟩ := hrel
        have HB4 := hide hb
        clear hb
        by_cases hlt : k < ps.length
        · have hki : (k : Int) < (ps.length : Int) := by omega
          go_wp2_with fail
          go_loopw [32] (fun i wr => ∃ j : Nat, j ≤ pu.length ∧ i = .int .i64 (j : Int) ∧ Hid (lessonIn ps pu k j = none) ∧ Nx w wr) (fun i _ => pu.length - (intOf i).toNat)
          case atStart => exact ⟨0, Nat.zero_le _, rfl, (hin0.out k), HB4.out⟩
          case round =>
            clear HB4
            obtain ⟨j, hj, rfl, hin, hb⟩ := hrel
            have HB5 := hide hb
            clear hb
            by_cases hjl : j < pu.length
            · have hji : (j : Int) < (pu.length : Int) := by omega
              obtain ⟨b1, off1, rfl, hb1, hcp⟩ := hw.out.cells (by omega)
              have q1 := (HB5.out.cells b1 (off1 + j) hb1).trans (hcp j hjl)
              have hxj := strict_mem Hok.out.2 hjl
              clear hcp
              go_wp2_with (go_at_call 23; fail)
              refine (impl_TeachPuppet _ ps (k : Int) (gt pu j) _ (hv.out.below HB5.out) hl (by unfold I64; omega) (by unfold I64; omega)).mono ?_
              rintro e w6 ⟨r, rfl, ho, b6⟩
              have HO6 := hide ho.reads
              have HB6 := hide (HB5.out.trans b6)
              clear b6 ho q1
              cases ht : teachB ps (k : Int) (gt pu j) with
              | false =>
                have R := hide (lessonIn_no hin.out (show lessonB ps pu k j = false from by simp [lessonB, ht]))
                clear ht
                go_wp2_with fail
                go_roundw
                case rel => exact ⟨j + 1, by omega, by go_num, R.out, HB6.out⟩
                case measure => simp [intOf]; omega
              | true =>
                have hfit := teach_fit ht
                go_wp2_with (go_at_call 18; fail)
                refine (impl_IsSafe _ (teachP ps (k : Int) (gt pu j)) _ pu w6 HO6.out hfit (hw.out.below HB6.out) hul).mono ?_
                rintro e w7 ⟨rfl, b7⟩
                have HB7 := hide (HB6.out.trans b7)
                clear b7 HB6 HO6 hfit HB5
                cases hs : safeP (teachP ps (k : Int) (gt pu j)) pu with
                | false =>
                  have R := hide (lessonIn_no hin.out (show lessonB ps pu k j = false from by simp [lessonB, hs]))
                  clear ht hs
                  go_wp2_with fail
                  go_roundw
                  case rel => exact ⟨j + 1, by omega, by go_num, R.out, HB7.out⟩
                  case measure => simp [intOf]; omega
                | true =>
                  have hf := hide (show lesV ps pu = .tuple #[.int .i64 (k : Int), .int .i64 (gt pu j), .bool true] from lesV_some (by rw [Hl2.out]; exact lessonTo_found hto.out hin.out (by simp [lessonB, ht, hs]) hjl hlt))
                  clear ht hs
                  go_wp2_with fail
                  have HB8 := hide HB7.out
                  go_ret3
                  exact ⟨by rw [hf.out]; rfl, HB8.out⟩
            · obtain rfl : j = pu.length := by omega
              have R := hide (lessonTo_no hto.out hin.out)
              go_wp2_with fail
              go_roundw
              case rel => exact ⟨k + 1, by omega, by go_num, R.out, HB5.out⟩
              case measure => simp [intOf]; omega
        · obtain rfl : k = ps.length := by omega
          have hf := hide (show lesV ps pu = .tuple #[.int .i64 0, .int .i64 0, .bool false] from lesV_none (by rw [Hl2.out]; exact hto.out))
          go_wp2_with fail
          go_ret3
          exact ⟨by rw [hf.out]; rfl, HB4.out⟩

end Go.Proofs.Ytfilpeamhcdgfaa
