/- Players: the needed ones. -/
import Derived.Test.YtfilpeamhcdgfaaPlS
import Derived.WalkKit
import Derived.ProofKit
import Derived.Handy
import Derived.OpenShut
import Derived.ShutString
import Derived.ChangeOld
import Derived.Below
import Derived.BigQuiet
import Derived.Deep.QuietTactic
import Derived.Deep.Draws
import Derived.Deep.DeepCutAuto
import Derived.Deep.DeepFit
import Derived.Deep.LoopGhost
import Derived.Outline
import Derived.WalkSpells
import Derived.WalkLawsBesides
import Derived.WalkSmall
import Derived.Laws.OwnMore
import Derived.OneCell
import Derived.Laws.Rows
import Derived.Maps.AppendAt
import Derived.StillTailTactics
import Derived.Lib.SmallJoins
import Derived.Deep.RegionWith
import Derived.Deep.RegionHeld3
import Derived.RegionTactic
import Derived.Deep.Matrix
import Derived.Deep.Fields
import Derived.ChangeSame
namespace Go.Proofs.Ytfilpeamhcdgfaa
open Go.RowKit

theorem NeededPlayers_len (ps : List Plr) (pu : List Int) (h : FitP ps) (_ : pu.length ≤ 1048576) : (needed ps pu).length ≤ 1048576 := by
  unfold needed
  split
  · have := needTo_length ps pu ps.length
    have := h.1
    omega
  · simp
set_option maxHeartbeats 2000000 in
theorem impl_NeededPlayers (v : Value) (ps : List Plr) (u : Value) (pu : List Int) (w : World) (h : RdP w v ps) (hl : FitP ps) (hu : RdI w u pu) (hul : pu.length ≤ 1048576) :
    Calls Try.prog 10 #[v, u] w fun e w' => ∃ r, e = .returned r ∧ OwI w' w.heap.size r (needed ps pu) ∧ Nx w w' := by
  have hv := hide h
  have hw := hide hu
  have hn := hl.1
  obtain ⟨A, c, rfl, hx⟩ := h
  obtain ⟨Ap, cp, rfl, hx2⟩ := hu
  clear hx hx2
  cases h1 : canP ps pu with
  | false =>
    have hf := hide (show needed ps pu = [] from by simp [needed, h1])
    go_enter Try.func10, Try.ntmps10
    go_wp2_with (go_at_call 30; fail)
    refine (canPlay_any _ ps _ pu w hv.out hl hw.out hul).mono ?_
    rintro e w1 ⟨rfl, b1⟩
    rw [h1]
    have HB := hide b1
    clear b1 h1
    go_wp2_with fail
    go_ret
    exact ⟨_, rfl, by rw [hf.out]; exact OwI.nil _ _, HB.out⟩
  | true =>
    have hf := hide (show needed ps pu = needTo ps pu ps.length from by simp [needed, h1])
    go_enter Try.func10, Try.ntmps10
    go_wp2_with (go_at_call 30; fail)
    refine (canPlay_any _ ps _ pu w hv.out hl hw.out hul).mono ?_
    rintro e w1 ⟨rfl, b1⟩
    rw [h1]
    have HB := hide b1
    clear b1 h1
    have HO := hide ((OwI.made0 w1).mono HB.out.size)
    have HB1 := hide (HB.out.trans (Nx.made w1 (.cells #[] 3)))
    clear HB
    have hs0 := hide (show needTo ps pu 0 = [] from rfl)
    have Hs := hide (fun k => show needTo ps pu (k + 1) = if canP (illP ps (k : Int)) pu then needTo ps pu k else needTo ps pu k ++ [(k : Int)] from rfl)
    have Hlen := hide (fun k => needTo_length ps pu k)
    go_wp2_with fail
    go_loopw [5, 14] (fun q i wr => ∃ k : Nat, k ≤ ps.length ∧ i = .int .i64 (k : Int) ∧ OwI wr w.heap.size q (needTo ps pu k) ∧ Nx w wr) (fun _ i _ => ps.length - (intOf i).toNat)
    case atStart => exact ⟨0, Nat.zero_le _, rfl, by rw [hs0.out]; exact HO.out, HB1.out⟩
    case round =>
      clear HB1 HO hs0
      obtain ⟨k, hk, rfl, hown, hb⟩ := hrel
      have HB := hide hb
      have HO := hide hown
      clear hb hown
      by_cases hlt : k < ps.length
      · have hki : (k : Int) < (ps.length : Int) := by omega
        have hl16 : (needTo ps pu k).length ≤ 16777216 := by have := Hlen.out k; omega
        go_wp2_with (go_at_call 31; fail)
        refine (without_any _ ps _ pu (k : Int) wr (hv.out.below HB.out) hl (hw.out.below HB.out) hul (by unfold I64; omega)).mono ?_
        rintro e w3 ⟨rfl, b3⟩
        have HB3 := hide (HB.out.trans b3)
        have HO3 := hide (HO.out.below b3)
        clear b3
        cases h2 : canP (illP ps (k : Int)) pu with
        | true =>
          have R := hide (show needTo ps pu (k + 1) = needTo ps pu k from by rw [Hs.out, if_pos h2])
          clear h2
          go_wp2_with fail
          go_roundw
          case rel => exact ⟨k + 1, by omega, by go_num, by rw [R.out]; exact HO3.out, HB3.out⟩
          case measure => simp [intOf]; omega
        | false =>
          have R := hide (show needTo ps pu (k + 1) = needTo ps pu k ++ [(k : Int)] from by rw [Hs.out, if_neg (by rw [h2]; simp)])
          have hz3 := HB3.out.size
          clear h2
          go_wp2_with (at_builtin; refine wpList_push rfl (.tmp 22) (.tmp 24) rfl w3 w.heap.size _ (needTo ps pu k) (k : Int) rfl rfl HO3.out hl16 hz3 ?_; intro v4 w4 hown4 hg4 _; have hb4 := hide (HB3.out.only HO3.out hg4 (Nat.le_refl _)); have HO4 := hide hown4; clear hown4 hg4)
          go_roundw
          case rel => exact ⟨k + 1, by omega, by go_num, by rw [R.out]; exact HO4.out, hb4.out⟩
          case measure => simp [intOf]; omega
      · obtain rfl : k = ps.length := by omega
        go_wp2_with fail
        go_ret
        exact ⟨_, rfl, by rw [hf.out]; exact HO.out, HB.out⟩
set_option maxHeartbeats 2000000 in
theorem spec_NeededPlayers (v : Value) (ps : List Plr) (u : Value) (pu : List Int) (w : World) (h : RdP w v ps) (hl : FitP ps) (hu : RdI w u pu) (hul : pu.length ≤ 1048576) :
    Calls Try.prog 7 #[v, u] w fun e w' => ∃ r, e = .returned r ∧ OwI w' w.heap.size r (needed ps pu) ∧ Nx w w' := by
  have hv := hide h
  have hw := hide hu
  have hn := hl.1
  obtain ⟨A, c, rfl, hx⟩ := h
  obtain ⟨Ap, cp, rfl, hx2⟩ := hu
  clear hx hx2
  have ho0 := OwI.made0 w
  have hb0 := Nx.made w (.cells #[] 3)
  have HO0 := hide ho0
  have HB0 := hide hb0
  clear ho0 hb0
  cases h1 : canP ps pu with
  | false =>
    have hf := hide (show needed ps pu = [] from by simp [needed, h1])
    go_enter Try.func7, Try.ntmps7
    go_wp2_with (go_at_call 27; fail)
    refine (l17Can_any _ ps _ pu _ (hv.out.below HB0.out) hl (hw.out.below HB0.out) hul).mono ?_
    rintro e w1 ⟨rfl, b1⟩
    rw [h1]
    have HB := hide (HB0.out.trans b1)
    have HO := hide (HO0.out.below b1)
    clear b1 h1 HB0 HO0
    go_wp2_with fail
    go_ret
    exact ⟨_, rfl, by rw [hf.out]; exact HO.out, HB.out⟩
  | true =>
    have hf := hide (show needed ps pu = needTo ps pu ps.length from by simp [needed, h1])
    go_enter Try.func7, Try.ntmps7
    go_wp2_with (go_at_call 27; fail)
    refine (l17Can_any _ ps _ pu _ (hv.out.below HB0.out) hl (hw.out.below HB0.out) hul).mono ?_
    rintro e w1 ⟨rfl, b1⟩
    rw [h1]
    have HB := hide (HB0.out.trans b1)
    have HO := hide (HO0.out.below b1)
    clear b1 h1 HB0 HO0
    have HB1 := hide HB.out
    clear HB
    have hs0 := hide (show needTo ps pu 0 = [] from rfl)
    have Hs := hide (fun k => show needTo ps pu (k + 1) = if canP (illP ps (k : Int)) pu then needTo ps pu k else needTo ps pu k ++ [(k : Int)] from rfl)
    have Hlen := hide (fun k => needTo_length ps pu k)
    go_wp2_with fail
    go_loopw [5, 6] (fun q i wr => ∃ k : Nat, k ≤ ps.length ∧ i = .int .i64 (k : Int) ∧ OwI wr w.heap.size q (needTo ps pu k) ∧ Nx w wr) (fun _ i _ => ps.length - (intOf i).toNat)
    case atStart => exact ⟨0, Nat.zero_le _, rfl, by rw [hs0.out]; exact HO.out, HB1.out⟩
    case round =>
      clear HB1 HO hs0
      obtain ⟨k, hk, rfl, hown, hb⟩ := hrel
      have HB := hide hb
      have HO := hide hown
      clear hb hown
      by_cases hlt : k < ps.length
      · have hki : (k : Int) < (ps.length : Int) := by omega
        have hl16 : (needTo ps pu k).length ≤ 16777216 := by have := Hlen.out k; omega
        go_wp2_with (go_at_call 28; fail)
        refine (spec_WithoutPlayer _ ps (k : Int) wr (hv.out.below HB.out) hl (by unfold I64; omega)).mono ?_
        rintro e w2 ⟨r, rfl, ho, b2⟩
        have HB2 := hide (HB.out.trans b2)
        have HO2 := hide (HO.out.below b2)
        have HR := hide ho.reads
        clear b2 ho
        go_wp2_with (go_at_call 27; fail)
        refine (l17Can_any _ (illP ps (k : Int)) _ pu w2 HR.out (hl.ill k) (hw.out.below HB2.out) hul).mono ?_
        rintro e w3 ⟨rfl, b3⟩
        have HB3 := hide (HB2.out.trans b3)
        have HO3 := hide (HO2.out.below b3)
        clear b3
        cases h2 : canP (illP ps (k : Int)) pu with
        | true =>
          have R := hide (show needTo ps pu (k + 1) = needTo ps pu k from by rw [Hs.out, if_pos h2])
          clear h2
          go_wp2_with fail
          go_roundw
          case rel => exact ⟨k + 1, by omega, by go_num, by rw [R.out]; exact HO3.out, HB3.out⟩
          case measure => simp [intOf]; omega
        | false =>
          have R := hide (show needTo ps pu (k + 1) = needTo ps pu k ++ [(k : Int)] from by rw [Hs.out, if_neg (by rw [h2]; simp)])
          have hz3 := HB3.out.size
          clear h2
          go_wp2_with (at_builtin; refine wpList_push rfl (.tmp 31) (.tmp 33) rfl w3 w.heap.size _ (needTo ps pu k) (k : Int) rfl rfl HO3.out hl16 hz3 ?_; intro v4 w4 hown4 hg4 _; have hb4 := hide (HB3.out.only HO3.out hg4 (Nat.le_refl _)); have HO4 := hide hown4; clear hown4 hg4)
          go_roundw
          case rel => exact ⟨k + 1, by omega, by go_num, by rw [R.out]; exact HO4.out, hb4.out⟩
          case measure => simp [intOf]; omega
      · obtain rfl : k = ps.length := by omega
        go_wp2_with fail
        go_ret
        exact ⟨_, rfl, by rw [hf.out]; exact HO.out, HB.out⟩

end Go.Proofs.Ytfilpeamhcdgfaa
