/- First fit: impl. -/
import Derived.Test.YthjiggihljiikaaFfP
import Derived.WalkKit
import Derived.ProofKit
import Derived.Handy
import Derived.OpenShut
import Derived.ShutString
import Derived.ChangeOld
import Derived.Below
import Derived.BigQuiet
import Derived.Deep.QuietTactic
import Derived.Deep.Draws
import Derived.Deep.DeepCutAuto
import Derived.Deep.DeepFit
import Derived.Deep.LoopGhost
import Derived.Outline
import Derived.WalkSpells
import Derived.WalkLawsBesides
import Derived.WalkSmall
import Derived.Laws.OwnMore
import Derived.OneCell
import Derived.Laws.Rows
import Derived.Maps.AppendAt
import Derived.StillTailTactics
import Derived.Lib.SmallJoins
import Derived.Deep.RegionWith
import Derived.Deep.RegionHeld3
import Derived.RegionTactic
import Derived.Deep.Matrix
import Derived.Deep.Fields
import Derived.ChangeSame
namespace Go.Proofs.Ythjiggihljiikaa
open Go.RowKit

set_option maxHeartbeats 2000000 in
theorem impl_FirstFit (v : Value) (zs : List Int) (room : Int) (w : World) (h : RdI w v zs) (hl : zs.length ≤ 1048576) (hi64 : I64 room) :
    Calls Try.prog 19 #[v, .int .i64 room] w fun e w' => ∃ u, e = .returned u ∧ OwI w' w.heap.size u (firstFit zs room) ∧ Nx w w' := by
  have hv := h
  obtain ⟨A, c, rfl, hx⟩ := h
  clear hx
  cases h1 : boxesOk zs room with
  | false =>
    have hf := hide (show firstFit zs room = [] from by simp [firstFit, h1])
    go_enter Try.func19, Try.ntmps19
    go_wp2_with fail
    refine (impl_BoxesOk _ _ _ _ hv hl hi64).mono ?_
    rintro e w1 ⟨rfl, hb⟩
    go_wp2_with fail
    go_ret
    exact ⟨_, rfl, by rw [hf.out]; exact OwI.nil _ _, hb⟩
  | true =>
    have hf := hide (show firstFit zs room = (ffTo room zs zs.length).1 from by simp [firstFit, h1])
    obtain ⟨hn12, hroom, hz⟩ := boxesOk_iff.1 h1
    have Hz := hide hz
    have Hbd := hide (fun k (hk : k ≤ zs.length) => ffTo_bd hz hk)
    clear hz
    go_enter Try.func19, Try.ntmps19
    go_wp2_with fail
    refine (impl_BoxesOk _ _ _ _ hv hl hi64).mono ?_
    rintro e w1 ⟨rfl, hb⟩
    obtain ⟨A0, c0, e0, hx⟩ := hv.below hb
    injection e0 with e1 e2 e3
    subst e1
    clear e2 e3
    have H1 := hide h1
    have M2 := made_two w1
    have hsz := hb.size
    have M2' := hide M2
    clear M2
    go_wp2_with fail
    clear h1
    go_loopw [5, 6, 18] (fun vo vu i wr => ∃ k : Nat, k ≤ zs.length ∧ i = .int .i64 k ∧ OwI wr w1.heap.size vo (ffTo room zs k).1 ∧ OwI wr w1.heap.size vu (ffTo room zs k).2 ∧ Apart vo vu ∧ Nx w1 wr) (fun _ _ i _ => zs.length - (intOf i).toNat)
    case atStart => exact ⟨0, Nat.zero_le _, rfl, M2'.out.1, M2'.out.2.1, M2'.out.2.2.1, M2'.out.2.2.2⟩
    case round =>
      obtain ⟨k, hk, rfl, ho, hu, hap, hn⟩ := hrel
      have hlen := ffTo_len room zs k
      have hbd := Hbd.out k hk
      by_cases hlt : k < zs.length
      · obtain ⟨b0, off, rfl, hb0, hc⟩ := hx (by omega)
        have hck : wr.cell? ⟨b0, off + k, none⟩ = some (.int .i64 (gt zs k)) := (hn.cell (p := ⟨b0, off + k, none⟩) hb0).trans (hc k hlt)
        have hzk := Hz.out k hlt
        have Hnew := hide (fun h => ffTo_new (room := room) (zs := zs) (k := k) h)
        have Hold := hide (fun (m : Nat) h h1 => ffTo_old (room := room) (zs := zs) (k := k) (m := m) h h1)
        have hl1 : (ffTo room zs k).1.length ≤ 1000 := by omega
        have hl2 : (ffTo room zs k).2.length ≤ 1000 := by omega
        clear hc hx hlen
        generalize hO : (ffTo room zs k).1 = O at *
        generalize hU : (ffTo room zs k).2 = U at *
        have HO := hide hO
        have HU := hide hU
        have Hbd' := hide hbd
        clear hO hU hbd
        have Ho := hide ho
        have Hu := hide hu
        have Hn := hide hn
        have Hap := hide hap
        obtain ⟨Au, cu, rfl, hau, _⟩ := hu.open_
        have hcu : ∀ j, j < U.length → ∃ g, Au = some ⟨g, 0, none⟩ ∧ wr.cell? ⟨g, j, none⟩ = some (.int .i64 (gt U j)) := fun j hj => by
          obtain ⟨g, rfl⟩ := hau (by omega)
          exact ⟨g, rfl, OwN.cellAt (n := U.length) hu hj⟩
        have Hcu := hide hcu
        have hwsz := hn.size
        clear ho hn hu hap hcu hau
        go_wp2_with fail
        go_loop [9] (fun q => ∃ j : Nat, j ≤ U.length ∧ q = .int .i64 j ∧ Hid (∀ m, m < j → room < gt U m + gt zs k)) (fun q => U.length - (intOf q).toNat)
        case atStart => exact ⟨0, Nat.zero_le _, rfl, fun m hm => absurd hm (by omega)⟩
        case round =>
          obtain ⟨j, hj, rfl, hall⟩ := hrel
          by_cases hju : j < U.length
          · obtain ⟨g, rfl, hcj⟩ := Hcu.out j hju
            have hbj := Hbd'.out j hju
            have hjne : ((j : Int) == (U.length : Int)) = false := by simp; omega
            by_cases hfit : room < gt U j + gt zs k
            · go_wp2_with fail
              go_round
              case rel => exact ⟨j + 1, by omega, by go_num, fun m hm => by
                rcases Nat.lt_or_ge m j with h | h
                · exact hall.out m h
                · obtain rfl : m = j := by omega
                  exact hfit⟩
              case measure => simp [intOf]; omega
            · have hidx := hide (ffIdx_eq (by omega) hall.out (.inr (by omega : gt U j + gt zs k ≤ room)))
              have hst := OwN.stored (n := U.length) Hu.out j (gt U j + gt zs k)
              have hfr := OwN.frozenAt (n := U.length) Hu.out j
              have hO2 : OwI (wr.setCell ⟨g, j, none⟩ (.int .i64 (gt U j + gt zs k))) w1.heap.size u5 O := Ho.out.kept hst.2 (by have := Hap.out.ne; simpa [Value.ownBlock] using this)
              have hU2 := hide hst.1.toI
              have hN2 : Nx w1 (wr.setCell ⟨g, j, none⟩ (.int .i64 (gt U j + gt zs k))) := Hn.out.only Hu.out hst.2 (Nat.le_refl _)
              have hN2' := hide hN2
              have hsz2 := hN2.size
              clear hst hN2
              go_wp2_with (at_builtin; refine wpList_pushH rfl (.tmp 52) (.tmp 54) rfl _ w1.heap.size wr.heap.size (by simp) u5 O (j : Int) rfl rfl hO2 (by omega) hsz2 ?_; intro v2 w2 hown2 hg2 hat2)
              have hU3 : OwI w2 w1.heap.size (.slice (some ⟨g, 0, none⟩) U.length cu) (U.set j (gt U j + gt zs k)) := by
                exact hU2.out.kept hg2 Hap.out.symm.ne
              have hN3 : Nx w1 w2 := hN2'.out.only hO2 hg2 (Nat.le_refl _)
              have hap3 : Apart v2 (.slice (some ⟨g, 0, none⟩) U.length cu) := (Hap.out.symm.pushed hU2.out (by simp) hat2).symm
              have hstep := hide (Hold.out j hidx.out hju)
              have G := hide (And.intro hown2 (And.intro hU3 (And.intro hap3 hN3)))
              clear hU3 hN3 hap3 hown2 hg2 hat2
              go_wp2_with fail
              go_roundw
              case rel => exact ⟨k + 1, by omega, by go_num, by rw [hstep.out]; exact G.out.1, by rw [hstep.out]; exact G.out.2.1, G.out.2.2⟩
              case measure => simp [intOf]; omega
          · obtain rfl : j = U.length := by omega
            have hjeq : ((U.length : Int) == (U.length : Int)) = true := by simp
            have hidx := hide (ffIdx_eq (Nat.le_refl _) hall.out (.inl rfl))
            have hu0 := Hu.out
            go_upto_region 12 with (at_builtin; refine wpList_pushH rfl (.tmp 42) (.tmp 43) rfl _ w1.heap.size wr.heap.size rfl _ U 0 rfl rfl hu0 (by omega) hwsz ?_; intro v2 w2 hown2 hg2 hat2)
            have hO2 : OwI w2 w1.heap.size u5 O := Ho.out.kept hg2 Hap.out.ne
            have hN2 : Nx w1 w2 := Hn.out.only hu0 hg2 (Nat.le_refl _)
            have hap2 := Hap.out.pushed Ho.out (by omega) hat2
            obtain ⟨g, cap, rfl, _⟩ : ∃ g cap, v2 = .slice (some ⟨g, 0, none⟩) (U.length + 1) cap ∧ True := by
              rcases hown2.form with ⟨_, h0⟩ | ⟨g, cap, e, _⟩
              · simp at h0
              · exact ⟨g, cap, by simpa using e, trivial⟩
            have hN : OwN w2 w1.heap.size (.slice (some ⟨g, 0, none⟩) (U.length + 1) cap) (U.length + 1) (U ++ [0]) := by
              have := hown2.toN
              rwa [List.length_append] at this
            have hc2 := hN.cellAt (j := U.length) (by omega)
            rw [gt_snoc] at hc2
            have hf2 := hN.frozenAt U.length
            have hst := hN.stored U.length (gt zs k)
            rw [set_snoc_len] at hst
            have hO3 : OwI (w2.setCell ⟨g, U.length, none⟩ (.int .i64 (gt zs k))) w1.heap.size u5 O := hO2.kept hst.2 (by have := hap2.ne; simpa [Value.ownBlock] using this)
            have hN3 := hN2.only hown2 hst.2 (Nat.le_refl _)
            have hU3 := hide hst.1.toI
            have hN3' := hide hN3
            have hap3 := hide hap2
            have hsz3 := hN3.size
            have hi1 : (U.length : Int) < ((U.length + 1 : Nat) : Int) := by omega
            clear hst hown2 hg2 hat2 hN hN2 hN3 hap2 hO2 hu0
            go_wp2_with (at_builtin; refine wpList_pushH rfl (.tmp 52) (.tmp 54) rfl _ w1.heap.size w2.heap.size (by simp) u5 O (U.length : Int) rfl rfl hO3 (by omega) hsz3 ?_; intro v3 w3 hown3 hg3 hat3)
            have hU4 : OwI w3 w1.heap.size (.slice (some ⟨g, 0, none⟩) (U.length + 1) cap) (U ++ [gt zs k]) := by
              exact hU3.out.kept hg3 hap3.out.symm.ne
            have hN4 : Nx w1 w3 := hN3'.out.only hO3 hg3 (Nat.le_refl _)
            have hap4 : Apart v3 (.slice (some ⟨g, 0, none⟩) (U.length + 1) cap) := (hap3.out.symm.pushed hU3.out (by simp) hat3).symm
            have hstep := hide (Hnew.out hidx.out)
            have G := hide (And.intro hown3 (And.intro hU4 (And.intro hap4 hN4)))
            clear hU4 hN4 hap4 hown3 hg3 hat3
            go_wp2_with fail
            go_roundw
            case rel => exact ⟨k + 1, by omega, by go_num, by rw [hstep.out]; exact G.out.1, by rw [hstep.out]; exact G.out.2.1, G.out.2.2⟩
            case measure => simp [intOf]; omega
      · obtain rfl : k = zs.length := by omega
        have R := hide (And.intro ho hn)
        clear ho hn hu hap hx
        go_wp2_with fail
        go_ret
        exact ⟨_, rfl, by rw [hf.out]; exact R.out.1.mono hsz, hb.trans R.out.2⟩

end Go.Proofs.Ythjiggihljiikaa
