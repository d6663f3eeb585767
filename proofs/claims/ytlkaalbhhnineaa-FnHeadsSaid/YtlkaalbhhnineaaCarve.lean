/- Contracts of CanCarve. -/
import Derived.Test.YtlkaalbhhnineaaWood
import Derived.WalkKit
import Derived.ProofKit
import Derived.Handy
import Derived.OpenShut
import Derived.ShutString
import Derived.ChangeOld
import Derived.Below
import Derived.BigQuiet
import Derived.Deep.QuietTactic
import Derived.Deep.Draws
import Derived.Deep.DeepCutAuto
import Derived.Deep.DeepFit
import Derived.Deep.LoopGhost
import Derived.Outline
import Derived.WalkSpells
import Derived.WalkLawsBesides
import Derived.WalkSmall
import Derived.Laws.OwnMore
import Derived.OneCell
import Derived.Laws.Rows
import Derived.Maps.AppendAt
import Derived.StillTailTactics
import Derived.Lib.SmallJoins
import Derived.Deep.RegionWith
import Derived.Deep.RegionHeld3
import Derived.RegionTactic
import Derived.Deep.Matrix
import Derived.Deep.Fields
import Derived.ChangeSame
namespace Go.Proofs.Ytlkaalbhhnineaa
open Go.RowKit

/-- a form can be carved. -/
def carve (b want : List (List Int)) : Bool :=
  gridOk b 8 8 0 20 && gridOk want 8 8 0 20 && decide (b.length = want.length) && decide ((rowAt b 0).length = (rowAt want 0).length) &&
    (List.range b.length).all fun y => (List.range (rowAt b 0).length).all fun x => decide (g2 want y x ≤ g2 b y x)
theorem carve_yes {b want : List (List Int)} (h1 : gridOk b 8 8 0 20 = true) (h2 : gridOk want 8 8 0 20 = true) (h3 : b.length = want.length) (h4 : (rowAt b 0).length = (rowAt want 0).length)
    (h : ∀ y, y < b.length → ∀ x, x < (rowAt b 0).length → g2 want y x ≤ g2 b y x) : carve b want = true := by
  simp only [carve, h1, h2, h3, h4, decide_true, Bool.true_and, List.all_eq_true, List.mem_range, decide_eq_true_eq]
  rw [h3, h4] at h
  exact h
theorem carve_no {b want : List (List Int)} {y x : Nat} (hy : y < b.length) (hx : x < (rowAt b 0).length) (h : g2 b y x < g2 want y x) : carve b want = false := by
  rw [Bool.eq_false_iff]
  intro ht
  simp only [carve, Bool.and_eq_true, List.all_eq_true, List.mem_range, decide_eq_true_eq] at ht
  have := ht.2 y hy x hx
  omega
theorem carve_grid {b want : List (List Int)} (h : carve b want = true) : gridOk b 8 8 0 20 = true ∧ gridOk want 8 8 0 20 = true ∧ b.length = want.length ∧ (rowAt b 0).length = (rowAt want 0).length ∧
    ∀ y, y < b.length → ∀ x, x < (rowAt b 0).length → g2 want y x ≤ g2 b y x := by
  simp only [carve, Bool.and_eq_true, List.all_eq_true, List.mem_range, decide_eq_true_eq] at h
  exact ⟨h.1.1.1.1, h.1.1.1.2, h.1.1.2, h.1.2, h.2⟩
/-- places to cut. -/
def cutAt (b want : List (List Int)) (y x : Nat) : Int := if g2 want y x = g2 b y x then 0 else 1
def cuts (b want : List (List Int)) : Int := if carve b want then tot (cutAt b want) (rowAt b 0).length b.length else -1
theorem RdG.drewN {w : World} {v : Value} {h wd : Nat} {f : Nat → Nat → Int} (hr : RdG w v h wd f) (n : Nat) : RdG (w.drewN n) v h wd f := hr

set_option maxHeartbeats 2000000 in
theorem specQ_CanCarve (v u : Value) (p q : List (List Int)) (w : World) (h : RdM w v p) (h' : RdM w u q) (hl : OkM p) (hl' : OkM q) :
    Calls Try.prog 18 #[v, u] w fun e w' => e = .returned (.bool (carve p q)) ∧ ∃ m, w' = w.drewN m := by
  have K1 := hide (fun n : Nat => specQ_BlockOk v p (w.drewN n) (h.below (Nx.drewN (Below.refl _ _) n)) hl)
  have K2 := hide (fun n : Nat => specQ_BlockOk u q (w.drewN n) (h'.below (Nx.drewN (Below.refl _ _) n)) hl')
  cases h1 : gridOk p 8 8 0 20 with
  | false =>
    have hf := hide (show carve p q = false from by simp [carve, h1])
    rw [h1] at K1
    go_enter Try.func18, Try.ntmps18
    go_wp2_with fail
    go_quiet ((go_at_call 12; first | (with_reducible exact Calls.quiet_of (K1.out _)) | (with_reducible exact Calls.quiet_of (K2.out _))))
    go_wp2
    go_ret
    exact ⟨ret_bool hf.out.symm, _, rfl⟩
  | true =>
    rw [h1] at K1
    cases h2 : gridOk q 8 8 0 20 with
    | false =>
      have hf := hide (show carve p q = false from by simp [carve, h2])
      rw [h2] at K2
      go_enter Try.func18, Try.ntmps18
      go_wp2_with fail
      go_quiet ((go_at_call 12; first | (with_reducible exact Calls.quiet_of (K1.out _)) | (with_reducible exact Calls.quiet_of (K2.out _))))
      go_wp2
      go_ret
      exact ⟨ret_bool hf.out.symm, _, rfl⟩
    | true =>
      rw [h2] at K2
      obtain ⟨hG, hh, hw⟩ := gridOk_grid h1
      obtain ⟨hG', hh', hw'⟩ := gridOk_grid h2
      have hr := h.grid hG (by omega) (by omega)
      have hr' := h'.grid hG' (by omega) (by omega)
      clear h h' hl hl'
      obtain ⟨b, off, c, rb, ro, rc, rfl, hrow, hcell⟩ := hr
      obtain ⟨b', off', c', rb', ro', rc', rfl, hrow', hcell'⟩ := hr'
      have r0 := hrow 0 (by omega)
      have r0' := hrow' 0 (by omega)
      rw [Nat.add_zero] at r0 r0'
      have p1 : (0 : Int) < (p.length : Int) := by omega
      have p2 : (0 : Int) < (q.length : Int) := by omega
      by_cases h3 : p.length = q.length
      · by_cases h4 : (rowAt p 0).length = (rowAt q 0).length
        · have Hyes := hide (carve_yes h1 h2 h3 h4)
          have Hno := hide (fun (y x : Nat) (hy : y < p.length) (hx : x < (rowAt p 0).length) (hn : g2 p y x < g2 q y x) => carve_no (want := q) hy hx hn)
          have hh8 : p.length ≤ 8 := by omega
          have ww8 : (rowAt p 0).length ≤ 8 := by omega
          rw [← h3] at hrow' hcell' p2 K2 ⊢
          rw [← h4] at hrow' hcell' r0'
          clear h1 h2 h3 h4 hG hG' hh hw hh' hw'
          generalize p.length = hh at *
          generalize (rowAt p 0).length = ww at *
          generalize g2 p = f at *
          generalize g2 q = f' at *
          have Hrow := hide hrow
          have Hcell := hide hcell
          have Hrow' := hide hrow'
          have Hcell' := hide hcell'
          clear hrow hcell hrow' hcell'
          go_enter Try.func18, Try.ntmps18
          go_wp2_with fail
          go_quiet ((go_at_call 12; first | (with_reducible exact Calls.quiet_of (K1.out _)) | (with_reducible exact Calls.quiet_of (K2.out _))))
          clear K1 K2
          go_wp2_with fail
          go_loopw [5] (fun i wr => ∃ y m : Nat, y ≤ hh ∧ i = .int .i64 y ∧ wr = w.drewN m ∧ Hid (∀ y', y' < y → ∀ x, x < ww → f' y' x ≤ f y' x)) (fun i _ => hh - (intOf i).toNat)
          case atStart => exact ⟨0, _, by omega, rfl, rfl, fun j hj => absurd hj (by omega)⟩
          case round =>
            obtain ⟨y, m, hy, rfl, rfl, hall⟩ := hrel
            by_cases hlt : y < hh
            · have k1 := Hrow.out y hlt
              have k2 := Hrow'.out y hlt
              have p3 : (y : Int) < (hh : Int) := by omega
              clear r0 r0'
              go_wp2_with fail
              go_loopw [6] (fun i wr => ∃ x m : Nat, x ≤ ww ∧ i = .int .i64 x ∧ wr = w.drewN m ∧ Hid (∀ x', x' < x → f' y x' ≤ f y x')) (fun i _ => ww - (intOf i).toNat)
              case atStart => exact ⟨0, _, by omega, rfl, rfl, fun j hj => absurd hj (by omega)⟩
              case round =>
                obtain ⟨x, m, hx, rfl, rfl, hin⟩ := hrel
                by_cases hxl : x < ww
                · have k3 := Hcell.out y x hlt hxl
                  have k4 := Hcell'.out y x hlt hxl
                  have p4 : (x : Int) < (ww : Int) := by omega
                  by_cases hc : f y x < f' y x
                  · have hf := hide (Hno.out y x hlt hxl hc)
                    go_wp2_with fail
                    go_quiet (fail)
                    go_wp2
                    go_ret
                    exact ⟨ret_bool hf.out.symm, _, World.drewN_drewN _ _ _⟩
                  · go_wp2_with fail
                    go_quiet (fail)
                    go_wp2
                    go_roundw
                    case rel => exact ⟨x + 1, _, by omega, by go_num, rfl, fun x' hx' => by
                      rcases Nat.lt_or_ge x' x with h | h
                      · exact hin.out x' h
                      · obtain rfl : x' = x := by omega
                        omega⟩
                    case measure => simp [intOf]; omega
                · obtain rfl : x = ww := by omega
                  go_wp2_with fail
                  go_roundw
                  case rel => exact ⟨y + 1, _, by omega, by go_num, rfl, fun y' hy' => by
                    rcases Nat.lt_or_ge y' y with h | h
                    · exact hall.out y' h
                    · obtain rfl : y' = y := by omega
                      exact hin.out⟩
                  case measure => simp [intOf]; omega
            · obtain rfl : y = hh := by omega
              have hf := hide (Hyes.out hall.out)
              clear r0 r0'
              go_wp2_with fail
              go_ret
              exact ⟨ret_bool hf.out.symm, _, rfl⟩
        · have hf := hide (show carve p q = false from by simp [carve, h4])
          rw [← h3] at p2 K2 ⊢
          have d1 : (((rowAt p 0).length : Int) != ((rowAt q 0).length : Int)) = true := by simp; omega
          have d2 : ((rowAt p 0).length != (rowAt q 0).length) = true := by simp; omega
          have d3 : (((rowAt p 0).length : Int) == ((rowAt q 0).length : Int)) = false := by simp; omega
          have d4 : ((rowAt p 0).length == (rowAt q 0).length) = false := by simp; omega
          clear h1 h2 h3 hrow hcell hrow' hcell'
          go_enter Try.func18, Try.ntmps18
          go_wp2_with fail
          go_quiet ((go_at_call 12; first | (with_reducible exact Calls.quiet_of (K1.out _)) | (with_reducible exact Calls.quiet_of (K2.out _))))
          go_wp2
          go_ret
          exact ⟨ret_bool hf.out.symm, _, rfl⟩
      · have hf := hide (show carve p q = false from by simp [carve, h3])
        have d1 : ((p.length : Int) != (q.length : Int)) = true := by simp; omega
        have d2 : (p.length != q.length) = true := by simp; omega
        have d3 : ((p.length : Int) == (q.length : Int)) = false := by simp; omega
        have d4 : (p.length == q.length) = false := by simp; omega
        clear h1 h2 hrow hcell hrow' hcell'
        go_enter Try.func18, Try.ntmps18
        go_wp2_with fail
        go_quiet ((go_at_call 12; first | (with_reducible exact Calls.quiet_of (K1.out _)) | (with_reducible exact Calls.quiet_of (K2.out _))))
        go_wp2
        go_ret
        exact ⟨ret_bool hf.out.symm, _, rfl⟩
theorem spec_CanCarve (v u : Value) (p q : List (List Int)) (w : World) (h : RdM w v p) (hl : OkM p) (h' : RdM w u q) (hl' : OkM q) :
    Calls Try.prog 18 #[v, u] w fun e w' => e = .returned (.bool (carve p q)) ∧ Nx w w' := calls_nx (specQ_CanCarve v u p q w h h' hl hl')

set_option maxHeartbeats 2000000 in
theorem implQ_CanCarve (v u : Value) (p q : List (List Int)) (w : World) (h : RdM w v p) (h' : RdM w u q) (hl : OkM p) (hl' : OkM q) :
    Calls Try.prog 19 #[v, u] w fun e w' => e = .returned (.bool (carve p q)) ∧ ∃ m, w' = w.drewN m := by
  have K1 := hide (fun n : Nat => implQ_BlockOk v p (w.drewN n) (h.below (Nx.drewN (Below.refl _ _) n)) hl)
  have K2 := hide (fun n : Nat => implQ_BlockOk u q (w.drewN n) (h'.below (Nx.drewN (Below.refl _ _) n)) hl')
  cases h1 : gridOk p 8 8 0 20 with
  | false =>
    have hf := hide (show carve p q = false from by simp [carve, h1])
    rw [h1] at K1
    go_enter Try.func19, Try.ntmps19
    go_wp2_with fail
    go_quiet ((go_at_call 14; first | (with_reducible exact Calls.quiet_of (K1.out _)) | (with_reducible exact Calls.quiet_of (K2.out _))))
    go_wp2
    go_ret
    exact ⟨ret_bool hf.out.symm, _, rfl⟩
  | true =>
    rw [h1] at K1
    cases h2 : gridOk q 8 8 0 20 with
    | false =>
      have hf := hide (show carve p q = false from by simp [carve, h2])
      rw [h2] at K2
      go_enter Try.func19, Try.ntmps19
      go_wp2_with fail
      go_quiet ((go_at_call 14; first | (with_reducible exact Calls.quiet_of (K1.out _)) | (with_reducible exact Calls.quiet_of (K2.out _))))
      go_wp2
      go_ret
      exact ⟨ret_bool hf.out.symm, _, rfl⟩
    | true =>
      rw [h2] at K2
      obtain ⟨hG, hh, hw⟩ := gridOk_grid h1
      obtain ⟨hG', hh', hw'⟩ := gridOk_grid h2
      have hr := h.grid hG (by omega) (by omega)
      have hr' := h'.grid hG' (by omega) (by omega)
      clear h h' hl hl'
      obtain ⟨b, off, c, rb, ro, rc, rfl, hrow, hcell⟩ := hr
      obtain ⟨b', off', c', rb', ro', rc', rfl, hrow', hcell'⟩ := hr'
      have r0 := hrow 0 (by omega)
      have r0' := hrow' 0 (by omega)
      rw [Nat.add_zero] at r0 r0'
      have p1 : (0 : Int) < (p.length : Int) := by omega
      have p2 : (0 : Int) < (q.length : Int) := by omega
      by_cases h3 : p.length = q.length
      · by_cases h4 : (rowAt p 0).length = (rowAt q 0).length
        · have Hyes := hide (carve_yes h1 h2 h3 h4)
          have Hno := hide (fun (y x : Nat) (hy : y < p.length) (hx : x < (rowAt p 0).length) (hn : g2 p y x < g2 q y x) => carve_no (want := q) hy hx hn)
          have hh8 : p.length ≤ 8 := by omega
          have ww8 : (rowAt p 0).length ≤ 8 := by omega
          rw [← h3] at hrow' hcell' p2 K2 ⊢
          rw [← h4] at hrow' hcell' r0'
          clear h1 h2 h3 h4 hG hG' hh hw hh' hw'
          generalize p.length = hh at *
          generalize (rowAt p 0).length = ww at *
          generalize g2 p = f at *
          generalize g2 q = f' at *
          have Hrow := hide hrow
          have Hcell := hide hcell
          have Hrow' := hide hrow'
          have Hcell' := hide hcell'
          clear hrow hcell hrow' hcell'
          go_enter Try.func19, Try.ntmps19
          go_wp2_with fail
          go_quiet ((go_at_call 14; first | (with_reducible exact Calls.quiet_of (K1.out _)) | (with_reducible exact Calls.quiet_of (K2.out _))))
          clear K1 K2
          go_wp2_with fail
          go_loopw [35] (fun i wr => ∃ y m : Nat, y ≤ hh ∧ i = .int .i64 y ∧ wr = w.drewN m ∧ Hid (∀ y', y' < y → ∀ x, x < ww → f' y' x ≤ f y' x)) (fun i _ => hh - (intOf i).toNat)
          case atStart => exact ⟨0, _, by omega, rfl, rfl, fun j hj => absurd hj (by omega)⟩
          case round =>
            obtain ⟨y, m, hy, rfl, rfl, hall⟩ := hrel
            by_cases hlt : y < hh
            · have k1 := Hrow.out y hlt
              have k2 := Hrow'.out y hlt
              have p3 : (y : Int) < (hh : Int) := by omega
              clear r0 r0'
              go_wp2_with fail
              go_loopw [43] (fun i wr => ∃ x m : Nat, x ≤ ww ∧ i = .int .i64 x ∧ wr = w.drewN m ∧ Hid (∀ x', x' < x → f' y x' ≤ f y x')) (fun i _ => ww - (intOf i).toNat)
              case atStart => exact ⟨0, _, by omega, rfl, rfl, fun j hj => absurd hj (by omega)⟩
              case round =>
                obtain ⟨x, m, hx, rfl, rfl, hin⟩ := hrel
                by_cases hxl : x < ww
                · have k3 := Hcell.out y x hlt hxl
                  have k4 := Hcell'.out y x hlt hxl
                  have p4 : (x : Int) < (ww : Int) := by omega
                  by_cases hc : f y x < f' y x
                  · have hf := hide (Hno.out y x hlt hxl hc)
                    go_wp2_with fail
                    go_quiet (fail)
                    go_wp2
                    go_ret
                    exact ⟨ret_bool hf.out.symm, _, World.drewN_drewN _ _ _⟩
                  · go_wp2_with fail
                    go_quiet (fail)
                    go_wp2
                    go_roundw
                    case rel => exact ⟨x + 1, _, by omega, by go_num, rfl, fun x' hx' => by
                      rcases Nat.lt_or_ge x' x with h | h
                      · exact hin.out x' h
                      · obtain rfl : x' = x := by omega
                        omega⟩
                    case measure => simp [intOf]; omega
                · obtain rfl : x = ww := by omega
                  go_wp2_with fail
                  go_roundw
                  case rel => exact ⟨y + 1, _, by omega, by go_num, rfl, fun y' hy' => by
                    rcases Nat.lt_or_ge y' y with h | h
                    · exact hall.out y' h
                    · obtain rfl : y' = y := by omega
                      exact hin.out⟩
                  case measure => simp [intOf]; omega
            · obtain rfl : y = hh := by omega
              have hf := hide (Hyes.out hall.out)
              clear r0 r0'
              go_wp2_with fail
              go_ret
              exact ⟨ret_bool hf.out.symm, _, rfl⟩
        · have hf := hide (show carve p q = false from by simp [carve, h4])
          rw [← h3] at p2 K2 ⊢
          have d1 : (((rowAt p 0).length : Int) != ((rowAt q 0).length : Int)) = true := by simp; omega
          have d2 : ((rowAt p 0).length != (rowAt q 0).length) = true := by simp; omega
          have d3 : (((rowAt p 0).length : Int) == ((rowAt q 0).length : Int)) = false := by simp; omega
          have d4 : ((rowAt p 0).length == (rowAt q 0).length) = false := by simp; omega
          clear h1 h2 h3 hrow hcell hrow' hcell'
          go_enter Try.func19, Try.ntmps19
          go_wp2_with fail
          go_quiet ((go_at_call 14; first | (with_reducible exact Calls.quiet_of (K1.out _)) | (with_reducible exact Calls.quiet_of (K2.out _))))
          go_wp2
          go_ret
          exact ⟨ret_bool hf.out.symm, _, rfl⟩
      · have hf := hide (show carve p q = false from by simp [carve, h3])
        have d1 : ((p.length : Int) != (q.length : Int)) = true := by simp; omega
        have d2 : (p.length != q.length) = true := by simp; omega
        have d3 : ((p.length : Int) == (q.length : Int)) = false := by simp; omega
        have d4 : (p.length == q.length) = false := by simp; omega
        clear h1 h2 hrow hcell hrow' hcell'
        go_enter Try.func19, Try.ntmps19
        go_wp2_with fail
        go_quiet ((go_at_call 14; first | (with_reducible exact Calls.quiet_of (K1.out _)) | (with_reducible exact Calls.quiet_of (K2.out _))))
        go_wp2
        go_ret
        exact ⟨ret_bool hf.out.symm, _, rfl⟩
theorem impl_CanCarve (v u : Value) (p q : List (List Int)) (w : World) (h : RdM w v p) (hl : OkM p) (h' : RdM w u q) (hl' : OkM q) :
    Calls Try.prog 19 #[v, u] w fun e w' => e = .returned (.bool (carve p q)) ∧ Nx w w' := calls_nx (implQ_CanCarve v u p q w h h' hl hl')

end Go.Proofs.Ytlkaalbhhnineaa
