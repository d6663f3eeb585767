/- IsPacked, RoomLeft. -/
import Derived.Test.YthjiggihljiikaaLd
import Derived.Test.YthjiggihljiikaaLdS
import Derived.WalkKit
import Derived.ProofKit
import Derived.Handy
import Derived.OpenShut
import Derived.ShutString
import Derived.ChangeOld
import Derived.Below
import Derived.BigQuiet
import Derived.Deep.QuietTactic
import Derived.Deep.Draws
import Derived.Deep.DeepCutAuto
import Derived.Deep.DeepFit
import Derived.Deep.LoopGhost
import Derived.Outline
import Derived.WalkSpells
import Derived.WalkLawsBesides
import Derived.WalkSmall
import Derived.Laws.OwnMore
import Derived.OneCell
import Derived.Laws.Rows
import Derived.Maps.AppendAt
import Derived.StillTailTactics
import Derived.Lib.SmallJoins
import Derived.Deep.RegionWith
import Derived.Deep.RegionHeld3
import Derived.RegionTactic
import Derived.Deep.Matrix
import Derived.Deep.Fields
import Derived.ChangeSame
namespace Go.Proofs.Ythjiggihljiikaa
open Go.RowKit

theorem rix0 (a0 a1 a2 a3 a4 a5 a6 a7 a8 a9 a10 a11 : Int) (w : World) : (Instr.index 37 (.agg #[.int .i64 a0, .int .i64 a1, .int .i64 a2, .int .i64 a3, .int .i64 a4, .int .i64 a5, .int .i64 a6, .int .i64 a7, .int .i64 a8, .int .i64 a9, .int .i64 a10, .int .i64 a11]) (.int .i64 0)).run Try.prog w = .ok (.int .i64 a0) w := by kernel_rfl
theorem rix1 (a0 a1 a2 a3 a4 a5 a6 a7 a8 a9 a10 a11 : Int) (w : World) : (Instr.index 37 (.agg #[.int .i64 a0, .int .i64 a1, .int .i64 a2, .int .i64 a3, .int .i64 a4, .int .i64 a5, .int .i64 a6, .int .i64 a7, .int .i64 a8, .int .i64 a9, .int .i64 a10, .int .i64 a11]) (.int .i64 1)).run Try.prog w = .ok (.int .i64 a1) w := by kernel_rfl
theorem rix2 (a0 a1 a2 a3 a4 a5 a6 a7 a8 a9 a10 a11 : Int) (w : World) : (Instr.index 37 (.agg #[.int .i64 a0, .int .i64 a1, .int .i64 a2, .int .i64 a3, .int .i64 a4, .int .i64 a5, .int .i64 a6, .int .i64 a7, .int .i64 a8, .int .i64 a9, .int .i64 a10, .int .i64 a11]) (.int .i64 2)).run Try.prog w = .ok (.int .i64 a2) w := by kernel_rfl
theorem rix3 (a0 a1 a2 a3 a4 a5 a6 a7 a8 a9 a10 a11 : Int) (w : World) : (Instr.index 37 (.agg #[.int .i64 a0, .int .i64 a1, .int .i64 a2, .int .i64 a3, .int .i64 a4, .int .i64 a5, .int .i64 a6, .int .i64 a7, .int .i64 a8, .int .i64 a9, .int .i64 a10, .int .i64 a11]) (.int .i64 3)).run Try.prog w = .ok (.int .i64 a3) w := by kernel_rfl
theorem rix4 (a0 a1 a2 a3 a4 a5 a6 a7 a8 a9 a10 a11 : Int) (w : World) : (Instr.index 37 (.agg #[.int .i64 a0, .int .i64 a1, .int .i64 a2, .int .i64 a3, .int .i64 a4, .int .i64 a5, .int .i64 a6, .int .i64 a7, .int .i64 a8, .int .i64 a9, .int .i64 a10, .int .i64 a11]) (.int .i64 4)).run Try.prog w = .ok (.int .i64 a4) w := by kernel_rfl
theorem rix5 (a0 a1 a2 a3 a4 a5 a6 a7 a8 a9 a10 a11 : Int) (w : World) : (Instr.index 37 (.agg #[.int .i64 a0, .int .i64 a1, .int .i64 a2, .int .i64 a3, .int .i64 a4, .int .i64 a5, .int .i64 a6, .int .i64 a7, .int .i64 a8, .int .i64 a9, .int .i64 a10, .int .i64 a11]) (.int .i64 5)).run Try.prog w = .ok (.int .i64 a5) w := by kernel_rfl
theorem rix6 (a0 a1 a2 a3 a4 a5 a6 a7 a8 a9 a10 a11 : Int) (w : World) : (Instr.index 37 (.agg #[.int .i64 a0, .int .i64 a1, .int .i64 a2, .int .i64 a3, .int .i64 a4, .int .i64 a5, .int .i64 a6, .int .i64 a7, .int .i64 a8, .int .i64 a9, .int .i64 a10, .int .i64 a11]) (.int .i64 6)).run Try.prog w = .ok (.int .i64 a6) w := by kernel_rfl
theorem rix7 (a0 a1 a2 a3 a4 a5 a6 a7 a8 a9 a10 a11 : Int) (w : World) : (Instr.index 37 (.agg #[.int .i64 a0, .int .i64 a1, .int .i64 a2, .int .i64 a3, .int .i64 a4, .int .i64 a5, .int .i64 a6, .int .i64 a7, .int .i64 a8, .int .i64 a9, .int .i64 a10, .int .i64 a11]) (.int .i64 7)).run Try.prog w = .ok (.int .i64 a7) w := by kernel_rfl
theorem rix8 (a0 a1 a2 a3 a4 a5 a6 a7 a8 a9 a10 a11 : Int) (w : World) : (Instr.index 37 (.agg #[.int .i64 a0, .int .i64 a1, .int .i64 a2, .int .i64 a3, .int .i64 a4, .int .i64 a5, .int .i64 a6, .int .i64 a7, .int .i64 a8, .int .i64 a9, .int .i64 a10, .int .i64 a11]) (.int .i64 8)).run Try.prog w = .ok (.int .i64 a8) w := by kernel_rfl
theorem rix9 (a0 a1 a2 a3 a4 a5 a6 a7 a8 a9 a10 a11 : Int) (w : World) : (Instr.index 37 (.agg #[.int .i64 a0, .int .i64 a1, .int .i64 a2, .int .i64 a3, .int .i64 a4, .int .i64 a5, .int .i64 a6, .int .i64 a7, .int .i64 a8, .int .i64 a9, .int .i64 a10, .int .i64 a11]) (.int .i64 9)).run Try.prog w = .ok (.int .i64 a9) w := by kernel_rfl
theorem rix10 (a0 a1 a2 a3 a4 a5 a6 a7 a8 a9 a10 a11 : Int) (w : World) : (Instr.index 37 (.agg #[.int .i64 a0, .int .i64 a1, .int .i64 a2, .int .i64 a3, .int .i64 a4, .int .i64 a5, .int .i64 a6, .int .i64 a7, .int .i64 a8, .int .i64 a9, .int .i64 a10, .int .i64 a11]) (.int .i64 10)).run Try.prog w = .ok (.int .i64 a10) w := by kernel_rfl
theorem rix11 (a0 a1 a2 a3 a4 a5 a6 a7 a8 a9 a10 a11 : Int) (w : World) : (Instr.index 37 (.agg #[.int .i64 a0, .int .i64 a1, .int .i64 a2, .int .i64 a3, .int .i64 a4, .int .i64 a5, .int .i64 a6, .int .i64 a7, .int .i64 a8, .int .i64 a9, .int .i64 a10, .int .i64 a11]) (.int .i64 11)).run Try.prog w = .ok (.int .i64 a11) w := by kernel_rfl
/-- an array of numbers by value: the number at place k. -/
theorem run_index_loads (zs bs : List Int) (n k : Nat) (hk : k < 12) (w : World) : (Instr.index 37 (.agg (ldCells zs bs n).toArray) (.int .i64 (k : Int))).run Try.prog w = .ok (.int .i64 (ldTo zs bs (k : Int) n)) w := by
  rw [ldCells_lit]
  match k, hk with
  | 0, _ => exact rix0 _ _ _ _ _ _ _ _ _ _ _ _ _
  | 1, _ => exact rix1 _ _ _ _ _ _ _ _ _ _ _ _ _
  | 2, _ => exact rix2 _ _ _ _ _ _ _ _ _ _ _ _ _
  | 3, _ => exact rix3 _ _ _ _ _ _ _ _ _ _ _ _ _
  | 4, _ => exact rix4 _ _ _ _ _ _ _ _ _ _ _ _ _
  | 5, _ => exact rix5 _ _ _ _ _ _ _ _ _ _ _ _ _
  | 6, _ => exact rix6 _ _ _ _ _ _ _ _ _ _ _ _ _
  | 7, _ => exact rix7 _ _ _ _ _ _ _ _ _ _ _ _ _
  | 8, _ => exact rix8 _ _ _ _ _ _ _ _ _ _ _ _ _
  | 9, _ => exact rix9 _ _ _ _ _ _ _ _ _ _ _ _ _
  | 10, _ => exact rix10 _ _ _ _ _ _ _ _ _ _ _ _ _
  | 11, _ => exact rix11 _ _ _ _ _ _ _ _ _ _ _ _ _

set_option maxHeartbeats 2000000 in
theorem impl_IsPacked (v : Value) (zs : List Int) (room : Int) (u : Value) (bs : List Int) (w : World) (h : RdI w v zs) (hl : zs.length ≤ 1048576) (hi : I64 room) (h' : RdI w u bs) (hl' : bs.length ≤ 1048576) :
    Calls Try.prog 17 #[v, .int .i64 room, u] w fun e w' => e = .returned (.bool (packed zs room bs)) ∧ Nx w w' := by
  have hv := h
  have hv' := h'
  obtain ⟨A, c, rfl, hx⟩ := h
  obtain ⟨A', c', rfl, hx'⟩ := h'
  clear hx hx'
  cases h1 : boxesOk zs room with
  | false =>
    have hf := hide (show packed zs room bs = false from by simp [packed, h1])
    go_enter Try.func17, Try.ntmps17
    go_wp2_with fail
    refine (impl_BoxesOk _ _ _ _ hv hl hi).mono ?_
    rintro e w1 ⟨rfl, b⟩
    go_wp2_with fail
    go_ret
    exact ⟨ret_bool hf.out.symm, b⟩
  | true =>
  by_cases h2 : bs.length = zs.length
  · have h2' : ((bs.length : Int) != (zs.length : Int)) = false := by simp; omega
    have H2 := hide h2
    clear h2
    cases h3 : allW 0 11 bs with
    | false =>
      have hf := hide (show packed zs room bs = false from by simp [packed, h3])
      go_enter Try.func17, Try.ntmps17
      go_wp2_with fail
      refine (impl_BoxesOk _ _ _ _ hv hl hi).mono ?_
      rintro e w1 ⟨rfl, b⟩
      have hv1 := hv'.below b
      go_wp2_with (go_at_call 30; refine (allWithin_any _ _ _ _ _ hv1 hl').mono ?_; rintro e w' ⟨rfl, rfl⟩)
      go_ret
      exact ⟨ret_bool hf.out.symm, b⟩
    | true =>
      have H1 := hide h1
      have H3 := hide h3
      obtain ⟨hn12, hroom, hz⟩ := boxesOk_iff.1 h1
      have Hz := hide (fun k (hk : k < zs.length) => show 1 ≤ gt zs k ∧ gt zs k ≤ 1000 by have := hz k hk; omega)
      have Hw := hide (allW_iff.1 h3)
      clear hz
      go_enter Try.func17, Try.ntmps17
      go_wp2_with fail
      refine (impl_BoxesOk _ _ _ _ hv hl hi).mono ?_
      rintro e w1 ⟨rfl, b⟩
      have hv1 := hv'.below b
      have hv2 := hv.below b
      go_upto_region 3 with (go_at_call 30; refine (allWithin_any _ _ _ _ _ hv1 hl').mono ?_; rintro e w' ⟨rfl, rfl⟩)
      go_wp2_with fail
      refine (impl_loads _ _ _ _ _ hv2 hv1 H2.out hn12 Hz.out Hw.out).mono ?_
      rintro e w2 ⟨rfl, b2⟩
      have Hb := hide (b.trans b2)
      have hix := fun k hk W => run_index_loads zs bs zs.length k hk W
      clear b b2 h1 h3 hv hv' hv1 hv2
      have HC := hide (Eq.refl (ldCells zs bs zs.length).toArray)
      generalize (ldCells zs bs zs.length).toArray = C at *
      have Hix := hide hix
      clear hix HC
      go_wp2_with fail
      go_loop [28] (fun i => ∃ k : Nat, k ≤ 12 ∧ i = .int .i64 k ∧ Hid (∀ j : Nat, j < k → ldTo zs bs (j : Int) zs.length ≤ room)) (fun i => 12 - (intOf i).toNat)
      case atStart => exact ⟨0, Nat.zero_le _, rfl, fun j hj => absurd hj (by omega)⟩
      case round =>
        obtain ⟨k, hk, rfl, hall⟩ := hrel
        by_cases hlt : k < 12
        · have hik := Hix.out k hlt
          have hbd := ldTo_bd (bs := bs) Hz.out (k : Int) (Nat.le_refl zs.length)
          by_cases hr : room < ldTo zs bs (k : Int) zs.length
          · have hf := hide (packed_no k hlt hr)
            go_wp2_with fail
            go_ret
            exact ⟨ret_bool hf.out.symm, Hb.out⟩
          · have hr' : ldTo zs bs (k : Int) zs.length ≤ room := by omega
            go_wp2_with fail
            go_round
            case rel => exact ⟨k + 1, by omega, by go_num, fun j hj => by
              rcases Nat.lt_or_ge j k with h | h
              · exact hall.out j h
              · obtain rfl : j = k := by omega
                exact hr'⟩
            case measure => simp [intOf]; omega
        · obtain rfl : k = 12 := by omega
          have hf := hide (packed_yes H1.out H2.out H3.out hall.out)
          go_wp2_with fail
          go_ret
          exact ⟨ret_bool hf.out.symm, Hb.out⟩
  · have h2' : ((bs.length : Int) != (zs.length : Int)) = true := by simp; omega
    have hf := hide (show packed zs room bs = false from by simp [packed, h2])
    go_enter Try.func17, Try.ntmps17
    go_wp2_with fail
    refine (impl_BoxesOk _ _ _ _ hv hl hi).mono ?_
    rintro e w1 ⟨rfl, b⟩
    go_wp2_with fail
    go_ret
    exact ⟨ret_bool hf.out.symm, b⟩

set_option maxHeartbeats 2000000 in
theorem spec_IsPacked (v : Value) (zs : List Int) (room : Int) (u : Value) (bs : List Int) (w : World) (h : RdI w v zs) (hl : zs.length ≤ 1048576) (hi : I64 room) (h' : RdI w u bs) (hl' : bs.length ≤ 1048576) :
    Calls Try.prog 16 #[v, .int .i64 room, u] w fun e w' => e = .returned (.bool (packed zs room bs)) ∧ Nx w w' := by
  have hv := h
  have hv' := h'
  obtain ⟨A, c, rfl, hx⟩ := h
  obtain ⟨A', c', rfl, hx'⟩ := h'
  have Hx' := hide hx'
  clear hx hx'
  cases h1 : boxesOk zs room with
  | false =>
    have hf := hide (show packed zs room bs = false from by simp [packed, h1])
    go_enter Try.func16, Try.ntmps16
    go_wp2_with fail
    refine (spec_BoxesOk _ _ _ _ hv hl hi).mono ?_
    rintro e w1 ⟨rfl, b⟩
    go_wp2_with fail
    go_ret
    exact ⟨ret_bool hf.out.symm, b⟩
  | true =>
  by_cases h2 : bs.length = zs.length
  · have h2' : ((bs.length : Int) != (zs.length : Int)) = false := by simp; omega
    have H2 := hide h2
    clear h2
    have H1 := hide h1
    obtain ⟨hn12, hroom, hz⟩ := boxesOk_iff.1 h1
    have Hz := hide (fun k (hk : k < zs.length) => show 1 ≤ gt zs k ∧ gt zs k ≤ 1000 by have := hz k hk; omega)
    clear hz
    have HV := hide hv
    have HV' := hide hv'
    go_enter Try.func16, Try.ntmps16
    go_wp2_with fail
    refine (spec_BoxesOk _ _ _ _ hv hl hi).mono ?_
    rintro e w1 ⟨rfl, b⟩
    have Hb := hide b
    go_wp2_with fail
    clear b h1 hv hv'
    go_loop [7] (fun i => ∃ k : Nat, k ≤ bs.length ∧ i = .int .i64 k ∧ Hid (∀ j, j < k → inR (gt bs j) 0 11 = true)) (fun i => bs.length - (intOf i).toNat)
    case atStart => exact ⟨0, Nat.zero_le _, rfl, fun j hj => absurd hj (by omega)⟩
    case round =>
      obtain ⟨k, hk, rfl, hall⟩ := hrel
      by_cases hlt : k < bs.length
      · obtain ⟨b0, off, rfl, hb0, hc⟩ := Hx'.out (by omega)
        have hck : w1.cell? ⟨b0, off + k, none⟩ = some (.int .i64 (gt bs k)) := (Hb.out.cell (p := ⟨b0, off + k, none⟩) hb0).trans (hc k hlt)
        clear hc Hx'
        cases hin : inR (gt bs k) 0 11 with
        | true =>
          go_wp2_with (go_at_call 28; refine (l01In_any _ _ _ _).mono ?_; rintro e w' ⟨rfl, rfl⟩)
          go_round
          case rel => exact ⟨k + 1, by omega, by go_num, fun j hj => by
            rcases Nat.lt_or_ge j k with h | h
            · exact hall.out j h
            · obtain rfl : j = k := by omega
              exact hin⟩
          case measure => simp [intOf]; omega
        | false =>
          have hf := hide (show packed zs room bs = false from by simp [packed, allW_false hlt hin])
          go_wp2_with (go_at_call 28; refine (l01In_any _ _ _ _).mono ?_; rintro e w' ⟨rfl, rfl⟩)
          go_ret
          exact ⟨ret_bool hf.out.symm, Hb.out⟩
      · obtain rfl : k = bs.length := by omega
        have H3 := hide (allW_of hall.out)
        go_wp2_with fail
        go_loopw [8] (fun i wr => ∃ k : Nat, k ≤ 12 ∧ i = .int .i64 k ∧ Nx w wr ∧ Hid (∀ j : Nat, j < k → ldTo zs bs (j : Int) zs.length ≤ room)) (fun i _ => 12 - (intOf i).toNat)
        case atStart => exact ⟨0, Nat.zero_le _, rfl, Hb.out, fun j hj => absurd hj (by omega)⟩
        case round =>
          obtain ⟨k, hk, rfl, hb, hall2⟩ := hrel
          have Hb2 := hide hb
          clear hb
          by_cases hlt : k < 12
          · have hbd := ldTo_bd (bs := bs) Hz.out (k : Int) (Nat.le_refl zs.length)
            by_cases hr : room < ldTo zs bs (k : Int) zs.length
            · have hf := hide (packed_no k hlt hr)
              go_wp2_with fail
              refine (spec_load _ _ _ _ _ _ (HV.out.below Hb2.out) (HV'.out.below Hb2.out) H2.out hn12 Hz.out).mono ?_
              rintro e w2 ⟨rfl, b⟩
              have Hb3 := hide (Hb2.out.trans b)
              clear b
              go_wp2_with fail
              go_ret
              exact ⟨ret_bool hf.out.symm, Hb3.out⟩
            · have hr' : ldTo zs bs (k : Int) zs.length ≤ room := by omega
              go_wp2_with fail
              refine (spec_load _ _ _ _ _ _ (HV.out.below Hb2.out) (HV'.out.below Hb2.out) H2.out hn12 Hz.out).mono ?_
              rintro e w2 ⟨rfl, b⟩
              have Hb3 := hide (Hb2.out.trans b)
              clear b
              go_wp2_with fail
              go_roundw
              case rel => exact ⟨k + 1, by omega, by go_num, Hb3.out, fun j hj => by
                rcases Nat.lt_or_ge j k with h | h
                · exact hall2.out j h
                · obtain rfl : j = k := by omega
                  exact hr'⟩
              case measure => simp [intOf]; omega
          · obtain rfl : k = 12 := by omega
            have hf := hide (packed_yes H1.out H2.out H3.out hall2.out)
            go_wp2_with fail
            go_ret
            exact ⟨ret_bool hf.out.symm, Hb2.out⟩
  · have h2' : ((bs.length : Int) != (zs.length : Int)) = true := by simp; omega
    have hf := hide (show packed zs room bs = false from by simp [packed, h2])
    go_enter Try.func16, Try.ntmps16
    go_wp2_with fail
    refine (spec_BoxesOk _ _ _ _ hv hl hi).mono ?_
    rintro e w1 ⟨rfl, b⟩
    go_wp2_with fail
    go_ret
    exact ⟨ret_bool hf.out.symm, b⟩

end Go.Proofs.Ythjiggihljiikaa
