/- Widths: spec. -/
import Derived.Test.YtmleamknongknaaWid
import Derived.WalkKit
import Derived.ProofKit
import Derived.Handy
import Derived.OpenShut
import Derived.ShutString
import Derived.ChangeOld
import Derived.Below
import Derived.BigQuiet
import Derived.Deep.QuietTactic
import Derived.Deep.Draws
import Derived.Deep.DeepCutAuto
import Derived.Deep.DeepFit
import Derived.Deep.LoopGhost
import Derived.Outline
import Derived.WalkSpells
import Derived.WalkLawsBesides
import Derived.WalkSmall
import Derived.Laws.OwnMore
import Derived.OneCell
import Derived.Laws.Rows
import Derived.Maps.AppendAt
import Derived.StillTailTactics
import Derived.Lib.SmallJoins
import Derived.Deep.RegionWith
import Derived.Deep.RegionHeld3
import Derived.RegionTactic
import Derived.Deep.Matrix
import Derived.Deep.Fields
import Derived.ChangeSame
namespace Go.Proofs.Ytmleamknongknaa
open Go.RowKit

set_option maxHeartbeats 1000000 in
theorem spec_okC (v : Value) (zs : List Int) (e : Int) (w : World) (h : RdI w v zs) (hl : zs.length ≤ 1048576) :
    Calls Try.prog 39 #[v, .int .i64 e] w fun en w' => en = .returned (.bool (okC zs e)) ∧ w = w' := by
  obtain ⟨A, c, rfl, hx⟩ := h
  go_enter Try.func39, Try.ntmps39
  go_wp2_with fail
  go_loop [5] (fun i => ∃ k : Nat, k ≤ zs.length ∧ i = .int .i64 k ∧ Hid (∀ j, j < k → inR (gt zs j) 1 200 = true)) (fun i => zs.length - (intOf i).toNat)
  case atStart => exact ⟨0, Nat.zero_le _, rfl, fun j hj => absurd hj (by omega)⟩
  case round =>
    obtain ⟨k, hk, rfl, hall⟩ := hrel
    by_cases hlt : k < zs.length
    · obtain ⟨b0, off, rfl, hb0, hc⟩ := hx (by omega)
      have hck := hc k hlt
      clear hc hx
      cases hin : inR (gt zs k) 1 200 with
      | true =>
        go_wp2_with (go_at_call 36; refine (l01In_any _ _ _ _).mono ?_; rintro e w' ⟨rfl, rfl⟩)
        go_round
        case rel => exact ⟨k + 1, by omega, by go_num, fun j hj => by
          rcases Nat.lt_or_ge j k with h | h
          · exact hall.out j h
          · obtain rfl : j = k := by omega
            exact hin⟩
        case measure => simp [intOf]; omega
      | false =>
        have hf := hide (show okC zs e = false from by simp [okC, allW_false hlt hin])
        go_wp2_with (go_at_call 36; refine (l01In_any _ _ _ _).mono ?_; rintro e w' ⟨rfl, rfl⟩)
        go_ret
        exact ⟨ret_bool hf.out.symm, rfl⟩
    · obtain rfl : k = zs.length := by omega
      have hw := allW_of hall.out
      clear hx
      by_cases h30 : zs.length ≤ 30
      · have hf := hide (show okC zs e = inR e 0 50 from by simp [okC, hw, h30])
        clear hw
        go_wp2_with (go_at_call 36; refine (l01In_any _ _ _ _).mono ?_; rintro e w' ⟨rfl, rfl⟩)
        go_ret
        exact ⟨ret_bool hf.out.symm, rfl⟩
      · have hf := hide (show okC zs e = false from by simp [okC, h30])
        clear hw
        go_wp2_with fail
        go_ret
        exact ⟨ret_bool hf.out.symm, rfl⟩
theorem leastTo_yes {l : Int} {zs : List Int} {j : Nat} (h : l < gt zs j) (h1 : leastTo l zs j = 0 ∨ gt zs j < leastTo l zs j) : leastTo l zs (j + 1) = gt zs j := by
  simp only [leastTo]; rw [if_pos ⟨h, h1⟩]
theorem leastTo_no {l : Int} {zs : List Int} {j : Nat} (h : ¬ (l < gt zs j ∧ (leastTo l zs j = 0 ∨ gt zs j < leastTo l zs j))) : leastTo l zs (j + 1) = leastTo l zs j := by
  simp only [leastTo]; rw [if_neg h]
theorem leastTo_bd {l : Int} {zs : List Int} (hz : ∀ k, k < zs.length → 1 ≤ gt zs k ∧ gt zs k ≤ 200) {j : Nat} (hj : j ≤ zs.length) : 0 ≤ leastTo l zs j ∧ leastTo l zs j ≤ 200 := by
  induction j with
  | zero => simp [leastTo]
  | succ j ih =>
    have := ih (by omega)
    have := hz j (by omega)
    simp only [leastTo]
    split <;> omega
set_option maxHeartbeats 1000000 in
theorem spec_WidthsFor (v : Value) (zs : List Int) (e : Int) (w : World) (h : RdI w v zs) (hl : zs.length ≤ 1048576) (_ : I64 e) :
    Calls Try.prog 27 #[v, .int .i64 e] w fun en w' => ∃ u, en = .returned u ∧ OwI w' w.heap.size u (widthsL zs e) ∧ Nx w w' := by
  have hv := h
  obtain ⟨A, c, rfl, hx⟩ := h
  clear hx
  have ho0 := OwI.made0 w
  have hb0 : Nx w (w.alloc (.cells #[] 3)) := Nx.made w _
  go_enter Try.func27, Try.ntmps27
  go_wp2_with (go_at_call 39; fail)
  refine (spec_okC _ _ _ _ (hv.below hb0) hl).mono ?_
  rintro en w1 ⟨rfl, rfl⟩
  cases h1 : okC zs e with
  | false =>
    have hf := hide (show widthsL zs e = [] from by simp [widthsL, h1])
    go_wp2_with fail
    go_ret
    exact ⟨_, rfl, by rw [hf.out]; exact ho0, hb0⟩
  | true =>
    have hf := hide (show widthsL zs e = (wTo (sortL zs) e zs.length).1 from by simp [widthsL, h1])
    simp only [okC, Bool.and_eq_true, decide_eq_true_eq] at h1
    obtain ⟨⟨h30, h2⟩, h3⟩ := h1
    have be := inR_iff.1 h3
    have bz := hide (allW_iff.1 h2)
    have ba := hide (fun k (hk : k < (sortL zs).length) => perm_bd (sortL_perm zs) h2 hk)
    have hsl := hide (sortL_length zs)
    have hV := hide hv
    clear h2 h3 hv
    go_wp2_with fail
    go_loopw [5, 6] (fun o i wr => ∃ k : Nat, k ≤ zs.length ∧ i = .int .i64 (wTo (sortL zs) e k).2 ∧ OwI wr w.heap.size o (wTo (sortL zs) e k).1 ∧ Nx w wr ∧ Hid (∀ j, j < k → gt (sortL zs) j ≤ (wTo (sortL zs) e k).2)) (fun _ i _ => 300 - (intOf i).toNat)
    case atStart => exact ⟨0, by omega, rfl, ho0, hb0, fun j hj => absurd hj (by omega)⟩
    case round =>
      clear ho0 hb0
      obtain ⟨k, hk, hi, hown, hb, hle⟩ := hrel
      have bl := wTo_bd (a := sortL zs) (k := k) be (by have := hsl.out; omega) ba.out
      have hwl := wTo_len (sortL zs) e k
      have hsz := hb.size
      have Hnone := hide (fun h => next_none (zs := zs) (e := e) (k := k) hk rfl h)
      have Hsome := hide (fun (m : Int) h0 h1 h2 => next_some (zs := zs) (e := e) (k := k) (m := m) be.1 rfl hle.out h0 h1 h2)
      have Hown := hide hown
      obtain ⟨A5, c5, rfl, hx5⟩ := hown.reads
      clear hx5 hown
      generalize hL : (wTo (sortL zs) e k).1 = L at *
      generalize hl2 : (wTo (sortL zs) e k).2 = l at *
      have HL := hide hL
      have Hl2 := hide hl2
      clear hL hl2
      subst hi
      have hrk := (hV.out.below hb)
      obtain ⟨A3, c3, e3, hx3⟩ := hrk
      injection e3 with e4 e5 e6
      subst e4
      clear e5 e6
      have Hx3 := hide hx3
      clear hx3
      go_wp2_with fail
      go_loop [7, 8] (fun m i => ∃ j : Nat, j ≤ zs.length ∧ i = .int .i64 j ∧ m = .int .i64 (leastTo l zs j)) (fun _ i => zs.length - (intOf i).toNat)
      case atStart => exact ⟨0, by omega, rfl, rfl⟩
      case round =>
        obtain ⟨j, hj, rfl, rfl⟩ := hrel
        have bm := leastTo_bd (l := l) bz.out hj
        by_cases hlt : j < zs.length
        · obtain ⟨b0, off, rfl, hb0, hc⟩ := Hx3.out (by omega)
          have hcj := hc j hlt
          have bj := bz.out j hlt
          clear hc
          have Hy := hide (fun h h1 => leastTo_yes (l := l) (zs := zs) (j := j) h h1)
          have Hn := hide (fun h => leastTo_no (l := l) (zs := zs) (j := j) h)
          generalize leastTo l zs j = m at *
          by_cases c1 : l < gt zs j
          · by_cases c2 : m = 0
            · have d2 : (m == 0) = true := by simp; omega
              have hs := hide (Hy.out c1 (.inl c2))
              go_wp2_with fail
              go_round
              case rel => exact ⟨j + 1, by omega, by go_num, by rw [hs.out]⟩
              case measure => simp [intOf]; omega
            · have d2 : (m == 0) = false := by simp; omega
              by_cases c3 : gt zs j < m
              · have hs := hide (Hy.out c1 (.inr c3))
                go_wp2_with fail
                go_round
                case rel => exact ⟨j + 1, by omega, by go_num, by rw [hs.out]⟩
                case measure => simp [intOf]; omega
              · have hs := hide (Hn.out (by omega))
                go_wp2_with fail
                go_round
                case rel => exact ⟨j + 1, by omega, by go_num, by rw [hs.out]⟩
                case measure => simp [intOf]; omega
          · have hs := hide (Hn.out (by omega))
            go_wp2_with fail
            go_round
            case rel => exact ⟨j + 1, by omega, by go_num, by rw [hs.out]⟩
            case measure => simp [intOf]; omega
        · obtain rfl : j = zs.length := by omega
          rcases leastTo_spec (l := l) (zs := zs) (by omega) (j := zs.length) with ⟨hm0, hm1⟩ | ⟨hm0, hm1, hm2⟩
          · have hs := hide (Hnone.out hm1)
            generalize leastTo l zs zs.length = m at *
            have d2 : (m == 0) = true := by simp; omega
            clear hm1
            go_wp2_with fail
            go_ret
            exact ⟨_, rfl, by rw [hf.out, hs.out, HL.out]; exact Hown.out, hb⟩
          · obtain ⟨k', hk', hs0, hs1⟩ := Hsome.out _ hm0 hm1 hm2
            have hs := hide hs0
            have Hs1 := hide hs1
            generalize leastTo l zs zs.length = m at *
            have d2 : (m == 0) = false := by simp; omega
            have bm2 : m + e ≤ 250 ∧ l < m + e := by omega
            clear hm1 hm2 hs0 hs1
            have hown := Hown.out
            go_wp2_with (at_builtin; refine wpList_push rfl (.tmp 49) (.tmp 51) rfl wr w.heap.size _ L (m + e) rfl rfl hown (by omega) hsz ?_; intro v1 w2 hown1 hg1 hat1; have hb1 := hb.pushed hown (Nat.le_refl _) hg1)
            go_roundw
            case rel => exact ⟨k', hk', by rw [hs.out], by rw [hs.out]; exact hown1, hb1, by rw [hs.out]; exact Hs1⟩
            case measure => simp [intOf]; omega

end Go.Proofs.Ytmleamknongknaa
