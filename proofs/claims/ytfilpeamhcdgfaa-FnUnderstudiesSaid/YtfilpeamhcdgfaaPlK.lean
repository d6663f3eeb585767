/- Players: PlayersOk. -/
import Derived.Test.YtfilpeamhcdgfaaPlP
import Derived.WalkKit
import Derived.ProofKit
import Derived.Handy
import Derived.OpenShut
import Derived.ShutString
import Derived.ChangeOld
import Derived.Below
import Derived.BigQuiet
import Derived.Deep.QuietTactic
import Derived.Deep.Draws
import Derived.Deep.DeepCutAuto
import Derived.Deep.DeepFit
import Derived.Deep.LoopGhost
import Derived.Outline
import Derived.WalkSpells
import Derived.WalkLawsBesides
import Derived.WalkSmall
import Derived.Laws.OwnMore
import Derived.OneCell
import Derived.Laws.Rows
import Derived.Maps.AppendAt
import Derived.StillTailTactics
import Derived.Lib.SmallJoins
import Derived.Deep.RegionWith
import Derived.Deep.RegionHeld3
import Derived.RegionTactic
import Derived.Deep.Matrix
import Derived.Deep.Fields
import Derived.ChangeSame
namespace Go.Proofs.Ytfilpeamhcdgfaa
open Go.RowKit

theorem idxL_lt {zs : List Int} {n : Int} : decide (idxL zs n < 0) = !decide (n ∈ zs) := by
  by_cases h : n ∈ zs
  · simp [h, show ¬ idxL zs n < 0 from fun e => idxL_neg.1 e h]
  · simp [h, idxL_neg.2 h]
set_option maxHeartbeats 2000000 in
theorem l11Rising_any (v : Value) (zs : List Int) (w : World) (h : RdI w v zs) (hl : zs.length ≤ 1048576) :
    Calls Try.prog 37 #[v, .int .i64 6] w fun e w' => e = .returned (.bool (strictL 0 6 zs)) ∧ ∃ m, w' = w.drewN m := by
  obtain ⟨A, c, rfl, hx⟩ := h
  have Hx := hide hx
  clear hx
  go_enter Try.func37, Try.ntmps37
  go_wp2_with fail
  go_loopw [5] (fun i wr => ∃ k m : Nat, k ≤ zs.length ∧ i = .int .i64 k ∧ wr = w.drewN m ∧ Hid (∀ j, j < k → inR (gt zs j) 0 6 = true ∧ (0 < j → gt zs (j - 1) < gt zs j))) (fun i _ => zs.length - (intOf i).toNat)
  case atStart => exact ⟨0, 0, Nat.zero_le _, rfl, rfl, fun j hj => absurd hj (by omega)⟩
  case round =>
    obtain ⟨k, m, hk, rfl, rfl, hall⟩ := hrel
    by_cases hlt : k < zs.length
    · obtain ⟨b0, off, rfl, hb0, hc⟩ := Hx.out (by omega)
      have hkb : (k : Int) < (zs.length : Int) := by omega
      have hck := hc k hlt
      cases hin : inR (gt zs k) 0 6 with
      | false =>
        have hf := hide (show strictL 0 6 zs = false from by simp [strictL, allW_false hlt hin])
        have Hin := hide (fun W => show Calls Try.prog 49 #[.int .i64 (gt zs k), .int .i64 0, .int .i64 6] W fun e w' => e = .returned (.bool false) ∧ W = w' from by have := l01In_any (gt zs k) 0 6 W; rwa [hin] at this)
        clear hc hin Hx
        generalize gt zs k = x at *
        go_wp2_with fail
        go_quiet ((go_at_call 49; exact quiet_add_left (Hin.out _)))
        go_wp2
        go_ret
        exact ⟨ret_bool hf.out.symm, _, World.drewN_drewN _ _ _⟩
      | true =>
        have Hin := hide (fun W => show Calls Try.prog 49 #[.int .i64 (gt zs k), .int .i64 0, .int .i64 6] W fun e w' => e = .returned (.bool true) ∧ W = w' from by have := l01In_any (gt zs k) 0 6 W; rwa [hin] at this)
        have HinK := hide hin
        clear hin
        by_cases h0 : 0 < k
        · have hcj := hc (k - 1) (by omega)
          have gk : decide ((0 : Int) < (k : Int)) = true := decide_eq_true (by omega)
          have hwr := IntWalk.i64_in ((k : Int) - 1) (by omega)
          have hto : ((k : Int) - 1).toNat = k - 1 := by omega
          have hkc : (k : Int) - 1 < (zs.length : Int) := by omega
          by_cases hs : gt zs k ≤ gt zs (k - 1)
          · have hf := hide (strictL_false1 (a := 0) (b := 6) hlt h0 hs)
            clear hc Hx
            generalize gt zs k = x at *
            generalize gt zs (k - 1) = y at *
            go_wp2_with fail
            go_quiet ((go_at_call 49; exact quiet_add_left (Hin.out _)))
            go_wp2
            go_ret
            exact ⟨ret_bool hf.out.symm, _, World.drewN_drewN _ _ _⟩
          · have R : Hid (∀ j, j < k + 1 → inR (gt zs j) 0 6 = true ∧ (0 < j → gt zs (j - 1) < gt zs j)) := fun j hj => by
              rcases Nat.lt_or_ge j k with h | h
              · exact hall.out j h
              · obtain rfl : j = k := by omega
                exact ⟨HinK.out, fun _ => by omega⟩
            clear hc
            generalize gt zs k = x at *
            generalize gt zs (k - 1) = y at *
            go_wp2_with fail
            go_quiet ((go_at_call 49; exact quiet_add_left (Hin.out _)))
            go_wp2
            go_roundw
            case rel => exact ⟨k + 1, _, by omega, by go_num, rfl, R⟩
            case measure => simp [intOf]; omega
        · have R : Hid (∀ j, j < k + 1 → inR (gt zs j) 0 6 = true ∧ (0 < j → gt zs (j - 1) < gt zs j)) := fun j hj => by
            rcases Nat.lt_or_ge j k with h | h
            · exact hall.out j h
            · obtain rfl : j = k := by omega
              exact ⟨HinK.out, fun h => absurd h h0⟩
          have gk : decide ((0 : Int) < (k : Int)) = false := decide_eq_false (by omega)
          clear hc
          generalize gt zs k = x at *
          go_wp2_with fail
          go_quiet ((go_at_call 49; exact quiet_add_left (Hin.out _)))
          go_wp2
          go_roundw
          case rel => exact ⟨k + 1, _, by omega, by go_num, rfl, R⟩
          case measure => simp [intOf]; omega
    · obtain rfl : k = zs.length := by omega
      have hf := hide (show strictL 0 6 zs = true from by rw [strictL_of fun j hj h0 => (hall.out j hj).2 h0]; exact allW_of fun j hj => (hall.out j hj).1)
      clear Hx
      go_wp2_with fail
      go_ret
      exact ⟨ret_bool hf.out.symm, _, rfl⟩
theorem arePuppets_any (v : Value) (zs : List Int) (w : World) (h : RdI w v zs) (hl : zs.length ≤ 1048576) :
    Calls Try.prog 42 #[v] w fun e w' => e = .returned (.bool (strictL 0 6 zs)) ∧ ∃ m, w' = w.drewN m := by
  have H := hide (isStrict_any v zs 0 6 w h hl)
  obtain ⟨A, c, rfl, hx⟩ := h
  clear hx
  go_enter Try.func42, Try.ntmps42
  go_wp2_with (go_at_call 55; fail)
  refine H.out.mono ?_
  rintro e w1 ⟨rfl, m, rfl⟩
  go_wp2_with fail
  go_ret
  exact ⟨rfl, m, rfl⟩
set_option maxHeartbeats 2000000 in
theorem impl_PlayersOk (v : Value) (ps : List Plr) (w : World) (h : RdP w v ps) (hl : FitP ps) :
    Calls Try.prog 40 #[v] w fun e w' => e = .returned (.bool (playersOk ps)) ∧ Nx w w' := by
  obtain ⟨A, c, rfl, hx⟩ := h
  have hn := hl.1
  have hrow := hide (fun i hi => hl.row (k := i) hi)
  have Hx := hide hx
  clear hx hl
  go_enter Try.func40, Try.ntmps40
  go_wp2_with fail
  go_loopw [7] (fun i wr => ∃ k : Nat, k ≤ ps.length ∧ i = .int .i64 k ∧ Nx w wr ∧ Hid (∀ j, j < k → strictL 0 6 (kn ps j) = true ∧ inR (fr ps j) 0 2 = true)) (fun i _ => ps.length - (intOf i).toNat)
  case atStart => exact ⟨0, Nat.zero_le _, rfl, Below.refl _ _, fun j hj => absurd hj (by omega)⟩
  case round =>
    obtain ⟨k, hk, rfl, hb, hall⟩ := hrel
    by_cases hlt : k < ps.length
    · obtain ⟨b0, off, rfl, hb0, hc⟩ := Hx.out (by omega)
      obtain ⟨⟨A1, c1, hc0, hr0'⟩, hc1⟩ := hc k hlt
      have q0 := (hb.cells b0 (off + k * 2) hb0).trans hc0
      have q1 := (hb.cells b0 (off + k * 2 + 1) hb0).trans hc1
      have hk1 : (k : Int) < (ps.length : Int) := by omega
      have bN := hide (Blk.new wr 44 #[.slice A1 (kn ps k).length c1, .int .i64 (fr ps k)])
      have HB := hide (hb.trans (Nx.made wr (.cells #[.slice A1 (kn ps k).length c1, .int .i64 (fr ps k)] 44)))
      have HR := hide ((hr0'.below hb).below (Nx.made wr (.cells #[.slice A1 (kn ps k).length c1, .int .i64 (fr ps k)] 44)))
      clear hb hc hc0 hc1 hr0'
      go_wp2_with (go_at_call 55; fail)
      refine (isStrict_any _ (kn ps k) 0 6 _ HR.out (hrow.out k hlt)).mono ?_
      rintro e w1 ⟨rfl, m, rfl⟩
      have bM : (World.drewN (wr.alloc (.cells #[.slice A1 (kn ps k).length c1, .int .i64 (fr ps k)] 44)) m).cell? ⟨wr.heap.size, 1, none⟩ = some (.int .i64 (fr ps k)) := (bN.out.drewN m).cell 1
      have HB2 := hide (Nx.drewN HB.out m)
      clear bN HB HR q0 q1
      generalize World.drewN _ _ = w2 at bM HB2 ⊢
      cases h1 : strictL 0 6 (kn ps k) with
      | false =>
        have hf := hide (playersOk_no hlt (.inl h1))
        go_wp2_with fail
        go_ret
        exact ⟨ret_bool hf.out.symm, HB2.out⟩
      | true =>
        cases h2 : inR (fr ps k) 0 2 with
        | false =>
          have hf := hide (playersOk_no hlt (.inr h2))
          go_wp2_with (go_at_call 41; refine (within_any _ _ _ _).mono ?_; rintro e w' ⟨rfl, rfl⟩; rw [h2])
          go_ret
          exact ⟨ret_bool hf.out.symm, HB2.out⟩
        | true =>
          have R : Hid (∀ j, j < k + 1 → strictL 0 6 (kn ps j) = true ∧ inR (fr ps j) 0 2 = true) := fun j hj => by
            rcases Nat.lt_or_ge j k with h | h
            · exact hall.out j h
            · obtain rfl : j = k := by omega
              exact ⟨h1, h2⟩
          go_wp2_with (go_at_call 41; refine (within_any _ _ _ _).mono ?_; rintro e w' ⟨rfl, rfl⟩; rw [h2])
          go_roundw
          case rel => exact ⟨k + 1, by omega, by go_num, HB2.out, R⟩
          case measure => simp [intOf]; omega
    · obtain rfl : k = ps.length := by omega
      have hf := hide (playersOk_end hall.out)
      have HB := hide hb
      clear hb Hx
      go_wp2_with (go_at_call 41; refine (within_any _ _ _ _).mono ?_; rintro e w' ⟨rfl, rfl⟩)
      go_ret
      exact ⟨ret_bool hf.out.symm, HB.out⟩
set_option maxHeartbeats 2000000 in
theorem spec_PlayersOk (v : Value) (ps : List Plr) (w : World) (h : RdP w v ps) (hl : FitP ps) :
    Calls Try.prog 36 #[v] w fun e w' => e = .returned (.bool (playersOk ps)) ∧ ∃ m, w' = w.drewN m := by
  obtain ⟨A, c, rfl, hx⟩ := h
  have hn := hl.1
  have hrow := hide (fun i hi => hl.row (k := i) hi)
  have Hx := hide hx
  clear hx hl
  go_enter Try.func36, Try.ntmps36
  go_wp2_with fail
  go_loopw [3] (fun i wr => ∃ k m : Nat, k ≤ ps.length ∧ i = .int .i64 k ∧ wr = w.drewN m ∧ Hid (∀ j, j < k → strictL 0 6 (kn ps j) = true ∧ inR (fr ps j) 0 2 = true)) (fun i _ => ps.length - (intOf i).toNat)
  case atStart => exact ⟨0, 0, Nat.zero_le _, rfl, rfl, fun j hj => absurd hj (by omega)⟩
  case round =>
    obtain ⟨k, m, hk, rfl, rfl, hall⟩ := hrel
    by_cases hlt : k < ps.length
    · obtain ⟨b0, off, rfl, hb0, hc⟩ := Hx.out (by omega)
      obtain ⟨⟨A1, c1, hc0, hr0'⟩, hc1⟩ := hc k hlt
      have hk1 : (k : Int) < (ps.length : Int) := by omega
      have HR := hide (hr0'.below (Nx.drewN (Below.refl _ _) m))
      clear hc hr0'
      go_wp2_with (go_at_call 37; fail)
      refine (l11Rising_any _ (kn ps k) _ HR.out (hrow.out k hlt)).mono ?_
      rintro e w1 ⟨rfl, m1, rfl⟩
      clear HR
      cases h1 : strictL 0 6 (kn ps k) with
      | false =>
        have hf := hide (playersOk_no hlt (.inl h1))
        go_wp2_with fail
        go_ret
        exact ⟨ret_bool hf.out.symm, _, rfl⟩
      | true =>
        cases h2 : inR (fr ps k) 0 2 with
        | false =>
          have hf := hide (playersOk_no hlt (.inr h2))
          go_wp2_with (go_at_call 49; refine (l01In_any _ _ _ _).mono ?_; rintro e w' ⟨rfl, rfl⟩; rw [h2])
          go_ret
          exact ⟨ret_bool hf.out.symm, _, rfl⟩
        | true =>
          have R : Hid (∀ j, j < k + 1 → strictL 0 6 (kn ps j) = true ∧ inR (fr ps j) 0 2 = true) := fun j hj => by
            rcases Nat.lt_or_ge j k with h | h
            · exact hall.out j h
            · obtain rfl : j = k := by omega
              exact ⟨h1, h2⟩
          go_wp2_with (go_at_call 49; refine (l01In_any _ _ _ _).mono ?_; rintro e w' ⟨rfl, rfl⟩; rw [h2])
          go_roundw
          case rel => exact ⟨k + 1, _, by omega, by go_num, rfl, R⟩
          case measure => simp [intOf]; omega
    · obtain rfl : k = ps.length := by omega
      have hf := hide (playersOk_end hall.out)
      clear Hx
      go_wp2_with (go_at_call 49; refine (l01In_any _ _ _ _).mono ?_; rintro e w' ⟨rfl, rfl⟩)
      go_ret
      exact ⟨ret_bool hf.out.symm, _, rfl⟩
set_option maxHeartbeats 1000000 in
theorem l13Knows_any (A : Option Addr) (c : Nat) (zs : List Int) (f x : Int) (w : World) (h : RdI w (.slice A zs.length c) zs) (hl : zs.length ≤ 1048576) :
    Calls Try.prog 53 #[.agg #[.slice A zs.length c, .int .i64 f], .int .i64 x] w fun e w' => e = .returned (.bool (decide (x ∈ zs))) ∧ Nx w w' := by
  have b0 := hide (Blk.new w 44 #[.slice A zs.length c, .int .i64 f])
  have hb := hide (Nx.made w (.cells #[.slice A zs.length c, .int .i64 f] 44))
  have HR := hide (h.below hb.out)
  clear h
  go_enter Try.func53, Try.ntmps53
  go_wp2_with fail
  generalize hW : World.alloc _ _ = w1 at b0 hb HR ⊢
  clear hW
  have k0 : w1.cell? ⟨w.heap.size, 0, none⟩ = some (.slice A zs.length c) := b0.out.cell 0
  clear b0
  go_loop [5] (fun i => ∃ k : Nat, k ≤ zs.length ∧ i = .int .i64 k ∧ Hid (∀ j, j < k → gt zs j ≠ x)) (fun i => zs.length - (intOf i).toNat)
  case atStart => exact ⟨0, Nat.zero_le _, rfl, fun j hj => absurd hj (by omega)⟩
  case round =>
    obtain ⟨k, hk, rfl, hall⟩ := hrel
    by_cases hlt : k < zs.length
    · obtain ⟨A', c', e', hx'⟩ := HR.out
      injection e' with e1 e2 e3
      subst e1 e3
      obtain ⟨b0, off, rfl, hb0, hc⟩ := hx' (by omega)
      have hck := hc k hlt
      clear hc hx' e2
      by_cases e : gt zs k = x
      · have hf := hide (show decide (x ∈ zs) = true from decide_eq_true (mem_gt.2 ⟨k, hlt, e⟩))
        have e1 : (gt zs k == x) = true := by simpa using e
        clear e
        go_wp2_with fail
        go_ret
        exact ⟨ret_bool hf.out.symm, hb.out⟩
      · have e1 : (gt zs k == x) = false := by simpa using e
        go_wp2_with fail
        go_round
        case rel => exact ⟨k + 1, by omega, by go_num, fun j hj => by
          rcases Nat.lt_or_ge j k with h | h
          · exact hall.out j h
          · obtain rfl : j = k := by omega
            exact e⟩
        case measure => simp [intOf]; omega
    · obtain rfl : k = zs.length := by omega
      have hf := hide (show decide (x ∈ zs) = false from decide_eq_false fun hm => by obtain ⟨j, hj, e⟩ := mem_gt.1 hm; exact hall.out j hj e)
      clear HR
      go_wp2_with fail
      go_ret
      exact ⟨ret_bool hf.out.symm, hb.out⟩

end Go.Proofs.Ytfilpeamhcdgfaa
