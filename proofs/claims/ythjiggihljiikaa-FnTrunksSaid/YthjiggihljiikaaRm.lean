/- RoomLeft. -/
import Derived.Test.YthjiggihljiikaaPkP
import Derived.WalkKit
import Derived.ProofKit
import Derived.Handy
import Derived.OpenShut
import Derived.ShutString
import Derived.ChangeOld
import Derived.Below
import Derived.BigQuiet
import Derived.Deep.QuietTactic
import Derived.Deep.Draws
import Derived.Deep.DeepCutAuto
import Derived.Deep.DeepFit
import Derived.Deep.LoopGhost
import Derived.Outline
import Derived.WalkSpells
import Derived.WalkLawsBesides
import Derived.WalkSmall
import Derived.Laws.OwnMore
import Derived.OneCell
import Derived.Laws.Rows
import Derived.Maps.AppendAt
import Derived.StillTailTactics
import Derived.Lib.SmallJoins
import Derived.Deep.RegionWith
import Derived.Deep.RegionHeld3
import Derived.RegionTactic
import Derived.Deep.Matrix
import Derived.Deep.Fields
import Derived.ChangeSame
namespace Go.Proofs.Ythjiggihljiikaa
open Go.RowKit


set_option maxHeartbeats 1000000 in
theorem impl_RoomLeft (v : Value) (zs : List Int) (room : Int) (u : Value) (bs : List Int) (w : World) (h : RdI w v zs) (hl : zs.length ≤ 1048576) (hi : I64 room) (h' : RdI w u bs) (hl' : bs.length ≤ 1048576) :
    Calls Try.prog 25 #[v, .int .i64 room, u] w fun e w' => e = .returned (.int .i64 (roomLeft zs room bs)) ∧ Nx w w' := by
  cases h1 : packed zs room bs with
  | false =>
    have hf := hide (show roomLeft zs room bs = -1 from by simp [roomLeft, h1])
    go_enter Try.func25, Try.ntmps25
    go_wp2_with fail
    refine (impl_IsPacked _ _ _ _ _ _ h hl hi h' hl').mono ?_
    rintro e w1 ⟨rfl, b⟩
    go_wp2_with fail
    go_ret
    exact ⟨ret_int hf.out.symm, b⟩
  | true =>
    have hf := hide (show roomLeft zs room bs = roomTo zs room bs 12 from by simp [roomLeft, h1])
    have hp := h1
    simp only [packed, Bool.and_eq_true, decide_eq_true_eq] at hp
    obtain ⟨⟨⟨p1, p2⟩, p3⟩, p4⟩ := hp
    have hbx := boxesOk_iff.1 p1
    have hn12 := hbx.1
    have hroom := hbx.2.1
    have H2 := hide p2
    have Hz := hide (fun k (hk : k < zs.length) => show 1 ≤ gt zs k ∧ gt zs k ≤ 1000 by have := hbx.2.2 k hk; omega)
    have Hw := hide (allW_iff.1 p3)
    have Hbx := hide hbx
    clear p1 p2 p3 p4 hbx
    have H := hide h
    have H' := hide h'
    go_enter Try.func25, Try.ntmps25
    go_wp2_with fail
    refine (impl_IsPacked _ _ _ _ _ _ h hl hi h' hl').mono ?_
    rintro e w1 ⟨rfl, b⟩
    have Hb1 := hide b
    go_wp2_with fail
    refine (impl_loads _ _ _ _ _ (H.out.below Hb1.out) (H'.out.below Hb1.out) H2.out hn12 Hz.out Hw.out).mono ?_
    rintro e w2 ⟨rfl, b2⟩
    have Hb := hide (Hb1.out.trans b2)
    have hix := fun k hk W => run_index_loads zs bs zs.length k hk W
    clear b b2 h1 h h'
    have HC := hide (Eq.refl (ldCells zs bs zs.length).toArray)
    generalize (ldCells zs bs zs.length).toArray = C at *
    have Hix := hide hix
    clear hix HC
    go_wp2_with fail
    go_loop [7, 18] (fun o i => ∃ k : Nat, k ≤ 12 ∧ i = .int .i64 k ∧ o = .int .i64 (roomTo zs room bs k)) (fun _ i => 12 - (intOf i).toNat)
    case atStart => exact ⟨0, Nat.zero_le _, rfl, rfl⟩
    case round =>
      obtain ⟨k, hk, rfl, rfl⟩ := hrel
      by_cases hlt : k < 12
      · have hik := Hix.out k hlt
        have hbd := ldTo_bd (bs := bs) Hz.out (k : Int) (Nat.le_refl zs.length)
        have hrb := roomTo_bd (bs := bs) Hbx.out k
        by_cases hr : 0 < ldTo zs bs (k : Int) zs.length
        · have hs := hide (roomTo_yes (zs := zs) (bs := bs) (room := room) (b := k) hr)
          go_wp2_with fail
          go_round
          case rel => exact ⟨k + 1, by omega, by go_num, by rw [hs.out]⟩
          case measure => simp [intOf]; omega
        · have hs := hide (roomTo_no (zs := zs) (bs := bs) (room := room) (b := k) hr)
          go_wp2_with fail
          go_round
          case rel => exact ⟨k + 1, by omega, by go_num, by rw [hs.out]⟩
          case measure => simp [intOf]; omega
      · obtain rfl : k = 12 := by omega
        go_wp2_with fail
        go_ret
        exact ⟨ret_int hf.out.symm, Hb.out⟩

set_option maxHeartbeats 1000000 in
theorem spec_RoomLeft (v : Value) (zs : List Int) (room : Int) (u : Value) (bs : List Int) (w : World) (h : RdI w v zs) (hl : zs.length ≤ 1048576) (hi : I64 room) (h' : RdI w u bs) (hl' : bs.length ≤ 1048576) :
    Calls Try.prog 24 #[v, .int .i64 room, u] w fun e w' => e = .returned (.int .i64 (roomLeft zs room bs)) ∧ Nx w w' := by
  cases h1 : packed zs room bs with
  | false =>
    have hf := hide (show roomLeft zs room bs = -1 from by simp [roomLeft, h1])
    go_enter Try.func24, Try.ntmps24
    go_wp2_with fail
    refine (spec_IsPacked _ _ _ _ _ _ h hl hi h' hl').mono ?_
    rintro e w1 ⟨rfl, b⟩
    go_wp2_with fail
    go_ret
    exact ⟨ret_int hf.out.symm, b⟩
  | true =>
    have hf := hide (show roomLeft zs room bs = roomTo zs room bs 12 from by simp [roomLeft, h1])
    have hp := h1
    simp only [packed, Bool.and_eq_true, decide_eq_true_eq] at hp
    obtain ⟨⟨⟨p1, p2⟩, p3⟩, p4⟩ := hp
    have hbx := boxesOk_iff.1 p1
    have hn12 := hbx.1
    have hroom := hbx.2.1
    have H2 := hide p2
    have Hz := hide (fun k (hk : k < zs.length) => show 1 ≤ gt zs k ∧ gt zs k ≤ 1000 by have := hbx.2.2 k hk; omega)
    have Hbx := hide hbx
    clear p1 p2 p3 p4 hbx
    have H := hide h
    have H' := hide h'
    go_enter Try.func24, Try.ntmps24
    go_wp2_with fail
    refine (spec_IsPacked _ _ _ _ _ _ h hl hi h' hl').mono ?_
    rintro e w1 ⟨rfl, b⟩
    have Hb1 := hide b
    go_wp2_with fail
    clear b h1 h h'
    go_loopw [7, 8] (fun o i wr => ∃ k : Nat, k ≤ 12 ∧ i = .int .i64 k ∧ o = .int .i64 (roomTo zs room bs k) ∧ Nx w wr) (fun _ i _ => 12 - (intOf i).toNat)
    case atStart => exact ⟨0, Nat.zero_le _, rfl, rfl, Hb1.out⟩
    case round =>
      obtain ⟨k, hk, rfl, rfl, hb⟩ := hrel
      have Hb2 := hide hb
      clear hb
      by_cases hlt : k < 12
      · have hbd := ldTo_bd (bs := bs) Hz.out (k : Int) (Nat.le_refl zs.length)
        have hrb := roomTo_bd (bs := bs) Hbx.out k
        by_cases hr : 0 < ldTo zs bs (k : Int) zs.length
        · have hs := hide (roomTo_yes (zs := zs) (bs := bs) (room := room) (b := k) hr)
          go_wp2_with fail
          refine (spec_load _ _ _ _ _ _ (H.out.below Hb2.out) (H'.out.below Hb2.out) H2.out hn12 Hz.out).mono ?_
          rintro e w2 ⟨rfl, b⟩
          have Hb3 := hide (Hb2.out.trans b)
          clear b
          go_wp2_with fail
          go_roundw
          case rel => exact ⟨k + 1, by omega, by go_num, by rw [hs.out]; go_num, Hb3.out⟩
          case measure => simp [intOf]; omega
        · have hs := hide (roomTo_no (zs := zs) (bs := bs) (room := room) (b := k) hr)
          go_wp2_with fail
          refine (spec_load _ _ _ _ _ _ (H.out.below Hb2.out) (H'.out.below Hb2.out) H2.out hn12 Hz.out).mono ?_
          rintro e w2 ⟨rfl, b⟩
          have Hb3 := hide (Hb2.out.trans b)
          clear b
          go_wp2_with fail
          go_roundw
          case rel => exact ⟨k + 1, by omega, by go_num, by rw [hs.out], Hb3.out⟩
          case measure => simp [intOf]; omega
      · obtain rfl : k = 12 := by omega
        go_wp2_with fail
        go_ret
        exact ⟨ret_int hf.out.symm, Hb2.out⟩

end Go.Proofs.Ythjiggihljiikaa
