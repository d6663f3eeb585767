/- First fit: spec. -/
import Derived.Test.YthjiggihljiikaaFfP
import Derived.WalkKit
import Derived.ProofKit
import Derived.Handy
import Derived.OpenShut
import Derived.ShutString
import Derived.ChangeOld
import Derived.Below
import Derived.BigQuiet
import Derived.Deep.QuietTactic
import Derived.Deep.Draws
import Derived.Deep.DeepCutAuto
import Derived.Deep.DeepFit
import Derived.Deep.LoopGhost
import Derived.Outline
import Derived.WalkSpells
import Derived.WalkLawsBesides
import Derived.WalkSmall
import Derived.Laws.OwnMore
import Derived.OneCell
import Derived.Laws.Rows
import Derived.Maps.AppendAt
import Derived.StillTailTactics
import Derived.Lib.SmallJoins
import Derived.Deep.RegionWith
import Derived.Deep.RegionHeld3
import Derived.RegionTactic
import Derived.Deep.Matrix
import Derived.Deep.Fields
import Derived.ChangeSame
namespace Go.Proofs.Ythjiggihljiikaa
open Go.RowKit

set_option maxHeartbeats 2000000 in
theorem spec_FirstFit (v : Value) (zs : List Int) (room : Int) (w : World) (h : RdI w v zs) (hl : zs.length ≤ 1048576) (hi64 : I64 room) :
    Calls Try.prog 18 #[v, .int .i64 room] w fun e w' => ∃ u, e = .returned u ∧ OwI w' w.heap.size u (firstFit zs room) ∧ Nx w w' := by
  have hv := h
  obtain ⟨A, c, rfl, hx⟩ := h
  have Hx0 := hide hx
  clear hx
  cases h1 : boxesOk zs room with
  | false =>
    have hf := hide (show firstFit zs room = [] from by simp [firstFit, h1])
    have ho0 := OwI.made0 w
    have hb0 : Nx w (w.alloc (.cells #[] 3)) := Nx.made w _
    have G := hide (And.intro ho0 hb0)
    clear ho0
    go_enter Try.func18, Try.ntmps18
    go_wp2_with fail
    refine (spec_BoxesOk _ _ _ _ (hv.below hb0) hl hi64).mono ?_
    rintro e w1 ⟨rfl, hb⟩
    have G1 := hide (And.intro (G.out.1.below hb) (G.out.2.trans hb))
    clear hb
    go_wp2_with fail
    go_ret
    exact ⟨_, rfl, by rw [hf.out]; exact G1.out.1, G1.out.2⟩
  | true =>
    have hf := hide (show firstFit zs room = (ffTo room zs zs.length).1 from by simp [firstFit, h1])
    obtain ⟨hn12, hroom, hz⟩ := boxesOk_iff.1 h1
    have Hz := hide hz
    have Hbd := hide (fun k (hk : k ≤ zs.length) => ffTo_bd hz hk)
    clear hz
    have ho0 := OwI.made0 w
    have hb0 : Nx w (w.alloc (.cells #[] 3)) := Nx.made w _
    have G := hide (And.intro ho0 hb0)
    clear ho0
    go_enter Try.func18, Try.ntmps18
    go_wp2_with fail
    refine (spec_BoxesOk _ _ _ _ (hv.below hb0) hl hi64).mono ?_
    rintro e w1 ⟨rfl, hb⟩
    have hb1 := G.out.2.trans hb
    have ho1 := G.out.1.below hb
    have ho2 : OwI (w1.alloc (.cells #[] 3)) w.heap.size (.slice (some ⟨w.heap.size, 0, none⟩) 0 0) [] := own_alloc ho1 _
    have hsz := hb1.size
    have hlt0 := (own_lt ho1 (g := w.heap.size) rfl).2
    have hu2 : OwI (w1.alloc (.cells #[] 3)) w.heap.size (.slice (some ⟨w1.heap.size, 0, none⟩) 0 0) (leftL room []) := (OwI.made0 w1).mono hsz
    have hap0 : Apart (.slice (some ⟨w.heap.size, 0, none⟩) 0 0) (.slice (some ⟨w1.heap.size, 0, none⟩) 0 0) := fun g h1 h2 => by
      simp [Value.ownBlock] at h1 h2
      omega
    have hn0 : Nx w (w1.alloc (.cells #[] 3)) := hb1.trans (Nx.made w1 _)
    have M := hide (And.intro ho2 (And.intro hu2 (And.intro hap0 hn0)))
    clear ho1 ho2 hu2 hap0 hn0 hb hb1 hb0
    go_wp2_with fail
    clear h1
    go_loopw [5, 6, 7] (fun vo vu i wr => ∃ k : Nat, k ≤ zs.length ∧ i = .int .i64 k ∧ OwI wr w.heap.size vo (ffTo room zs k).1 ∧ OwI wr w.heap.size vu (leftL room (ffTo room zs k).2) ∧ Apart vo vu ∧ Nx w wr) (fun _ _ i _ => zs.length - (intOf i).toNat)
    case atStart => exact ⟨0, Nat.zero_le _, rfl, M.out.1, M.out.2.1, M.out.2.2.1, M.out.2.2.2⟩
    case round =>
      obtain ⟨k, hk, rfl, ho, hu, hap, hn⟩ := hrel
      have hlen := ffTo_len room zs k
      have hbd := Hbd.out k hk
      by_cases hlt : k < zs.length
      · obtain ⟨b0, off, rfl, hb0, hc⟩ := Hx0.out (by omega)
        have hck : wr.cell? ⟨b0, off + k, none⟩ = some (.int .i64 (gt zs k)) := (hn.cell (p := ⟨b0, off + k, none⟩) hb0).trans (hc k hlt)
        have Hc0 := hide (hc k hlt)
        have hzk := Hz.out k hlt
        have Hnew := hide (fun h => ffTo_new (room := room) (zs := zs) (k := k) h)
        have Hold := hide (fun (m : Nat) h h1 => ffTo_old (room := room) (zs := zs) (k := k) (m := m) h h1)
        have hl1 : (ffTo room zs k).1.length ≤ 1000 := by omega
        have hl2 : (ffTo room zs k).2.length ≤ 1000 := by omega
        clear hc Hx0 hlen
        generalize hO : (ffTo room zs k).1 = O at *
        generalize hU : (ffTo room zs k).2 = U at *
        have HO := hide hO
        have HU := hide hU
        have Hbd' := hide hbd
        clear hO hU hbd
        have hLL := leftL_length room U
        have hu1 : OwN wr w.heap.size u6 U.length (leftL room U) := by have := hu.toN; rwa [hLL] at this
        clear hLL hu
        have Ho := hide ho
        have Hu := hide hu1
        have Hn := hide hn
        have Hap := hide hap
        obtain ⟨Au, cu, rfl, hau⟩ : ∃ A c, u6 = .slice A U.length c ∧ (0 < U.length → ∃ g, A = some ⟨g, 0, none⟩) := by
          have := (OwN.toI hu1).open_
          rw [leftL_length] at this
          obtain ⟨A, c, h1, h2, _⟩ := this
          exact ⟨A, c, h1, h2⟩
        have hcu : ∀ j, j < U.length → ∃ g, Au = some ⟨g, 0, none⟩ ∧ wr.cell? ⟨g, j, none⟩ = some (.int .i64 (room - gt U j)) := fun j hj => by
          obtain ⟨g, rfl⟩ := hau (by omega)
          refine ⟨g, rfl, ?_⟩
          rw [← gt_leftL hj]
          exact OwN.cellAt hu1 hj
        have Hcu := hide hcu
        have hwsz := hn.size
        clear ho hn hu1 hap hcu hau
        go_wp2_with fail
        go_loopw [8] (fun q wq => ∃ j m : Nat, j ≤ U.length ∧ q = .int .i64 j ∧ wq = wr.drewN m ∧ Hid (∀ m, m < j → room < gt U m + gt zs k)) (fun q _ => U.length - (intOf q).toNat)
        case atStart => exact ⟨0, 0, Nat.zero_le _, rfl, rfl, fun m hm => absurd hm (by omega)⟩
        case round =>
          obtain ⟨j, m, hj, rfl, rfl, hall⟩ := hrel
          by_cases hju : j < U.length
          · obtain ⟨g, rfl, hcj⟩ := Hcu.out j hju
            have hbj := Hbd'.out j hju
            have hjne : ((j : Int) == (U.length : Int)) = false := by simp; omega
            have hg1 : decide (j < U.length) = true := by simpa using hju
            have hi1 : (j : Int) < (U.length : Int) := by omega
            have hi2 : (k : Int) < (zs.length : Int) := by omega
            by_cases hfit : room < gt U j + gt zs k
            · have hd : room - gt U j < gt zs k := by omega
              go_wp2_with fail
              go_quiet (fail)
              go_wp2
              go_roundw
              case rel => exact ⟨j + 1, _, by omega, by go_num, rfl, fun m hm => by
                rcases Nat.lt_or_ge m j with h | h
                · exact hall.out m h
                · obtain rfl : m = j := by omega
                  exact hfit⟩
              case measure => simp [intOf]; omega
            · have hidx := hide (ffIdx_eq (by omega) hall.out (.inr (by omega : gt U j + gt zs k ≤ room)))
              have hd : gt zs k ≤ room - gt U j := by omega
              go_wp2_with fail
              go_quiet (fail)
              go_upto_region 13 with (fail)
              have F : OwI (wr.drewN (m + nq)) w.heap.size u5 O ∧ OwN (wr.drewN (m + nq)) w.heap.size (.slice (some ⟨g, 0, none⟩) U.length cu) U.length (leftL room U) ∧ Nx w (wr.drewN (m + nq)) ∧ (wr.drewN (m + nq)).cell? ⟨b0, off + k, none⟩ = some (.int .i64 (gt zs k)) ∧ (wr.drewN (m + nq)).cell? ⟨g, j, none⟩ = some (.int .i64 (room - gt U j)) :=
                ⟨Ho.out, Hu.out, Nx.drewN Hn.out _, hck, hcj⟩
              clear hck hcj
              generalize wr.drewN (m + nq) = wx at F ⊢
              obtain ⟨F1, F2, F3, F5, F6⟩ := F
              have hfr0 := F2.frozenAt j
              have hsu : room - gt U j - gt zs k = room - (gt U j + gt zs k) := by omega
              have Hsu := hide hsu
              clear hsu
              go_still_tail 12, (by kernel_rfl)
              have E : OwI wx.drew w.heap.size u5 O ∧ OwN wx.drew w.heap.size (.slice (some ⟨g, 0, none⟩) U.length cu) U.length (leftL room U) ∧ Nx w wx.drew ∧ wx.drew.cell? ⟨g, j, none⟩ = some (.int .i64 (room - gt U j)) := ⟨F1, F2, Nx.drew F3, F6⟩
              change wpList _ _ _ _ _ wx.drew
              clear F1 F2 F3 F5 F6
              generalize wx.drew = wy at E ⊢
              obtain ⟨F1, F2, F3, F6⟩ := E
              have hst := F2.stored j (room - gt U j - gt zs k)
              rw [Hsu.out, ← leftL_set] at hst
              rw [← Hsu.out] at hst
              have hfr := F2.frozenAt j
              have hO2 : OwI (wy.setCell ⟨g, j, none⟩ (.int .i64 (room - gt U j - gt zs k))) w.heap.size u5 O := OwI.kept F1 hst.2 (by have := Hap.out.ne; simpa [Value.ownBlock] using this)
              have hN2 : Nx w (wy.setCell ⟨g, j, none⟩ (.int .i64 (room - gt U j - gt zs k))) := F3.only F2.toI hst.2 (Nat.le_refl _)
              have hU2 := hide hst.1
              have hN2' := hide hN2
              have hsz2 := hN2.size
              clear hst hN2 F1 F3 F2
              go_wp2_with (at_builtin; refine wpList_pushH rfl (.tmp 59) (.tmp 61) rfl _ w.heap.size wy.heap.size (by simp) u5 O (j : Int) rfl rfl hO2 (by omega) hsz2 ?_; intro v2 w2 hown2 hg2 hat2)
              have hU3 : OwI w2 w.heap.size (.slice (some ⟨g, 0, none⟩) U.length cu) (leftL room (U.set j (gt U j + gt zs k))) := by
                exact OwI.kept (OwN.toI hU2.out) hg2 Hap.out.symm.ne
              have hN3 : Nx w w2 := hN2'.out.only hO2 hg2 (Nat.le_refl _)
              have hap3 : Apart v2 (.slice (some ⟨g, 0, none⟩) U.length cu) := (Hap.out.symm.pushed (OwN.toI hU2.out) (by simp) hat2).symm
              have hstep := hide (Hold.out j hidx.out hju)
              have G2 := hide (And.intro hown2 (And.intro hU3 (And.intro hap3 hN3)))
              clear hU3 hN3 hap3 hown2 hg2 hat2
              go_roundw
              case rel => exact ⟨k + 1, by omega, by go_num, by rw [hstep.out]; exact G2.out.1, by rw [hstep.out]; exact G2.out.2.1, G2.out.2.2⟩
              case measure => simp [intOf]; omega
          · obtain rfl : j = U.length := by omega
            have hjeq : ((U.length : Int) == (U.length : Int)) = true := by simp
            have hidx := hide (ffIdx_eq (Nat.le_refl _) hall.out (.inl rfl))
            have hg1 : decide (U.length < U.length) = false := by simp
            have hu0 := Hu.out
            go_wp2_with fail
            go_quiet (fail)
            go_upto_region 12 with (fail)
            have F : OwI (wr.drewN (m + nq)) w.heap.size u5 O ∧ OwN (wr.drewN (m + nq)) w.heap.size (.slice Au U.length cu) U.length (leftL room U) ∧ Nx w (wr.drewN (m + nq)) ∧ (wr.drewN (m + nq)).cell? ⟨b0, off + k, none⟩ = some (.int .i64 (gt zs k)) :=
              ⟨Ho.out, Hu.out, Nx.drewN Hn.out _, hck⟩
            clear hck
            generalize wr.drewN (m + nq) = wx at F ⊢
            obtain ⟨F1, F2, F3, F5⟩ := F
            have hu1 := F2.toI
            have hwx := F3.size
            go_upto_region 13 with (at_builtin; refine wpList_pushH rfl (.tmp 43) (.tmp 45) rfl wx w.heap.size wx.heap.size rfl _ (leftL room U) room rfl rfl hu1 (by rw [leftL_length]; omega) hwx ?_; intro v2 w2 hown2 hg2 hat2)
            have hO2 : OwI w2 w.heap.size u5 O := F1.kept hg2 Hap.out.ne
            have hN2 : Nx w w2 := F3.only hu1 hg2 (Nat.le_refl _)
            have hap2 := Hap.out.pushed F1 (by omega) hat2
            have hck2 : w2.cell? ⟨b0, off + k, none⟩ = some (.int .i64 (gt zs k)) := (hN2.cell (p := ⟨b0, off + k, none⟩) hb0).trans Hc0.out
            clear F5
            obtain ⟨g, cap, rfl, _⟩ : ∃ g cap, v2 = .slice (some ⟨g, 0, none⟩) (U.length + 1) cap ∧ True := by
              rcases hown2.form with ⟨_, h0⟩ | ⟨g, cap, e, _⟩
              · simp at h0
              · exact ⟨g, cap, by simpa [leftL_length] using e, trivial⟩
            have hN : OwN w2 w.heap.size (.slice (some ⟨g, 0, none⟩) (U.length + 1) cap) (U.length + 1) (leftL room U ++ [room]) := by
              have := hown2.toN
              rwa [List.length_append, leftL_length] at this
            have hc2 := hN.cellAt (j := U.length) (by omega)
            rw [show gt (leftL room U ++ [room]) U.length = room from by have := gt_snoc (leftL room U) room; rwa [leftL_length] at this] at hc2
            have hf2 := hN.frozenAt U.length
            have hi1 : (U.length : Int) < (U.length : Int) + 1 := by omega
            have hi2 : (k : Int) < (zs.length : Int) := by omega
            go_still_tail 12, (by kernel_rfl)
            have E : OwI w2.drew w.heap.size u5 O ∧ OwN w2.drew w.heap.size (.slice (some ⟨g, 0, none⟩) (U.length + 1) cap) (U.length + 1) (leftL room U ++ [room]) ∧ Nx w w2.drew ∧ w2.drew.cell? ⟨g, U.length, none⟩ = some (.int .i64 room) := ⟨hO2, hN, Nx.drew hN2, hc2⟩
            change wpList _ _ _ _ _ w2.drew
            have hap3 := hide hap2
            clear hO2 hN hN2 hc2 hf2 hck2 hown2 hg2 hat2 hap2 F1 F2 F3 hu1
            generalize w2.drew = wy at E ⊢
            obtain ⟨F1, F2, F3, F6⟩ := E
            have hst := F2.stored U.length (room - gt zs k)
            rw [show (leftL room U ++ [room]).set U.length (room - gt zs k) = leftL room (U ++ [gt zs k]) from by
              have := set_snoc_len (leftL room U) room (room - gt zs k)
              rw [leftL_length] at this
              rw [this, leftL_snoc]] at hst
            have hfr := F2.frozenAt U.length
            have hO2 : OwI (wy.setCell ⟨g, U.length, none⟩ (.int .i64 (room - gt zs k))) w.heap.size u5 O := F1.kept hst.2 (by have := hap3.out.ne; simpa [Value.ownBlock] using this)
            have hN2 : Nx w (wy.setCell ⟨g, U.length, none⟩ (.int .i64 (room - gt zs k))) := F3.only F2.toI hst.2 (Nat.le_refl _)
            have hU2 := hide hst.1.toI
            have hN2' := hide hN2
            have hsz2 := hN2.size
            clear hst hN2 F1 F3 F2
            go_wp2_with (at_builtin; refine wpList_pushH rfl (.tmp 59) (.tmp 61) rfl _ w.heap.size wy.heap.size (by simp) u5 O (U.length : Int) rfl rfl hO2 (by omega) hsz2 ?_; intro v3 w3 hown3 hg3 hat3)
            have hU4 : OwI w3 w.heap.size (.slice (some ⟨g, 0, none⟩) (U.length + 1) cap) (leftL room (U ++ [gt zs k])) := by
              exact hU2.out.kept hg3 hap3.out.symm.ne
            have hN4 : Nx w w3 := hN2'.out.only hO2 hg3 (Nat.le_refl _)
            have hap4 : Apart v3 (.slice (some ⟨g, 0, none⟩) (U.length + 1) cap) := (hap3.out.symm.pushed hU2.out (by simp) hat3).symm
            have hstep := hide (Hnew.out hidx.out)
            have G2 := hide (And.intro hown3 (And.intro hU4 (And.intro hap4 hN4)))
            clear hU4 hN4 hap4 hown3 hg3 hat3
            go_roundw
            case rel => exact ⟨k + 1, by omega, by go_num, by rw [hstep.out]; exact G2.out.1, by rw [hstep.out]; exact G2.out.2.1, G2.out.2.2⟩
            case measure => simp [intOf]; omega
      · obtain rfl : k = zs.length := by omega
        have R := hide (And.intro ho hn)
        clear ho hn hu hap
        go_wp2_with fail
        go_ret
        exact ⟨_, rfl, by rw [hf.out]; exact R.out.1, R.out.2⟩

theorem FirstFit_len (zs : List Int) (room : Int) (h : zs.length ≤ 1048576) : (firstFit zs room).length ≤ 1048576 := by
  unfold firstFit
  split
  · rw [(ffTo_len room zs zs.length).1]; exact h
  · simp

end Go.Proofs.Ythjiggihljiikaa
