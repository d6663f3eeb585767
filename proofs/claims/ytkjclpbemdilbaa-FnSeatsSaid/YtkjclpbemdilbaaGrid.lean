/- Grids: HallOk. -/
import Derived.Test.YtkjclpbemdilbaaMat
import Derived.WalkKit
import Derived.ProofKit
import Derived.Handy
import Derived.OpenShut
import Derived.ShutString
import Derived.ChangeOld
import Derived.Below
import Derived.BigQuiet
import Derived.Deep.QuietTactic
import Derived.Deep.Draws
import Derived.Deep.DeepCutAuto
import Derived.Deep.DeepFit
import Derived.Deep.LoopGhost
import Derived.Outline
import Derived.WalkSpells
import Derived.WalkLawsBesides
import Derived.WalkSmall
import Derived.Laws.OwnMore
import Derived.OneCell
import Derived.Laws.Rows
import Derived.Maps.AppendAt
import Derived.StillTailTactics
import Derived.Lib.SmallJoins
import Derived.Deep.RegionWith
import Derived.Deep.RegionHeld3
import Derived.RegionTactic
import Derived.Deep.Matrix
import Derived.Deep.Fields
import Derived.ChangeSame
namespace Go.Proofs.Ytkjclpbemdilbaa
open Go.RowKit

/-- the number at place x of row y. -/
def g2 (rows : List (List Int)) (y x : Nat) : Int := gt (rowAt rows y) x
/-- one row is as the first, its numbers from lo to hi. -/
def rowOk (rows : List (List Int)) (lo hi : Int) (y : Nat) : Bool := decide ((rowAt rows y).length = (rowAt rows 0).length) && allW lo hi (rowAt rows y)
/-- rows of one length with numbers from lo to hi. -/
def gridOk (rows : List (List Int)) (m wd lo hi : Int) : Bool :=
  inR (rows.length : Int) 1 m && inR ((rowAt rows 0).length : Int) 1 wd && (List.range rows.length).all (rowOk rows lo hi)
theorem gridOk_rows {rows : List (List Int)} {m wd lo hi : Int} (h1 : inR (rows.length : Int) 1 m = true) (h2 : inR ((rowAt rows 0).length : Int) 1 wd = true) (h : ∀ y, y < rows.length → rowOk rows lo hi y = true) : gridOk rows m wd lo hi = true := by
  simp only [gridOk, h1, h2, Bool.and_self, Bool.true_and, List.all_eq_true, List.mem_range]
  exact h
theorem gridOk_bad {rows : List (List Int)} {m wd lo hi : Int} {y : Nat} (hy : y < rows.length) (h : rowOk rows lo hi y = false) : gridOk rows m wd lo hi = false := by
  rw [Bool.eq_false_iff]
  intro ht
  simp only [gridOk, Bool.and_eq_true, List.all_eq_true, List.mem_range] at ht
  have := ht.2 y hy
  rw [h] at this
  cases this
theorem rowOk_len {rows : List (List Int)} {lo hi : Int} {y : Nat} (h : (rowAt rows y).length ≠ (rowAt rows 0).length) : rowOk rows lo hi y = false := by simp [rowOk, h]
/-- what a grid is good for. -/
structure Grid (rows : List (List Int)) (h wd : Nat) (lo hi : Int) : Prop where
  len : rows.length = h
  row : ∀ y, y < h → (rowAt rows y).length = wd
  bd : ∀ y x, y < h → x < wd → lo ≤ g2 rows y x ∧ g2 rows y x ≤ hi
theorem gridOk_grid {rows : List (List Int)} {m wd lo hi : Int} (h : gridOk rows m wd lo hi = true) :
    Grid rows rows.length (rowAt rows 0).length lo hi ∧ (1 ≤ rows.length ∧ (rows.length : Int) ≤ m) ∧ (1 ≤ (rowAt rows 0).length ∧ ((rowAt rows 0).length : Int) ≤ wd) := by
  simp only [gridOk, Bool.and_eq_true, List.all_eq_true, List.mem_range, rowOk, inR_iff, decide_eq_true_eq] at h
  obtain ⟨⟨h1, h2⟩, h3⟩ := h
  refine ⟨⟨rfl, fun y hy => (h3 y hy).1, fun y x hy hx => ?_⟩, by omega, by omega⟩
  exact allW_iff.1 (h3 y hy).2 x (by rw [(h3 y hy).1]; exact hx)

/-- A slice value that reads as a grid of h rows of wd numbers. -/
def RdG (w : World) (v : Value) (h wd : Nat) (f : Nat → Nat → Int) : Prop :=
  ∃ (b off c : Nat) (rb ro rc : Nat → Nat), v = .slice (some ⟨b, off, none⟩) h c ∧ (∀ y, y < h → w.cell? ⟨b, off + y, none⟩ = some (.slice (some ⟨rb y, ro y, none⟩) wd (rc y))) ∧
    ∀ y x, y < h → x < wd → w.cell? ⟨rb y, ro y + x, none⟩ = some (.int .i64 (f y x))
theorem RdM.grid {w : World} {v : Value} {rows : List (List Int)} {h wd : Nat} {lo hi : Int} (hr : RdM w v rows) (hg : Grid rows h wd lo hi) (h0 : 0 < h) (w0 : 0 < wd) : RdG w v h wd (g2 rows) := by
  obtain ⟨A, c, rfl, hx⟩ := hr
  have hl := hg.len
  obtain ⟨b, off, rfl, _, hc⟩ := hx (by omega)
  have hch : ∀ y, y < h → ∃ q : Nat × Nat × Nat, w.cell? ⟨b, off + y, none⟩ = some (.slice (some ⟨q.1, q.2.1, none⟩) wd q.2.2) ∧ ∀ x, x < wd → w.cell? ⟨q.1, q.2.1 + x, none⟩ = some (.int .i64 (g2 rows y x)) := by
    intro y hy
    obtain ⟨A1, c1, e1, A2, c2, e2, hi⟩ := hc y (by omega)
    rw [hg.row y hy] at e1 e2 hi
    obtain ⟨b1, off1, rfl, _, hcell⟩ := hi w0
    injection e2 with e3 e4 e5
    subst e3
    exact ⟨(b1, off1, c1), e1, fun x hx => hcell x hx⟩
  obtain ⟨q, hq⟩ := Go.Deep.choose_lt hch
  exact ⟨b, off, c, fun y => (q y).1, fun y => (q y).2.1, fun y => (q y).2.2, by rw [hl], fun y hy => (hq y hy).1, fun y x hy hx => (hq y hy).2 x hx⟩

set_option maxHeartbeats 1000000 in
theorem areRows_any (v : Value) (rows : List (List Int)) (m wd lo hi : Int) (w : World) (h : RdM w v rows) (hl : OkM rows) :
    Calls Try.prog 36 #[v, .int .i64 m, .int .i64 wd, .int .i64 lo, .int .i64 hi] w fun e w' => e = .returned (.bool (gridOk rows m wd lo hi)) ∧ w = w' := by
  obtain ⟨A, c, rfl, hx⟩ := h
  have hn := hl.1
  have hrow := hide (fun i hi => hl.row (i := i) hi)
  clear hl
  cases h1 : inR (rows.length : Int) 1 m with
  | false =>
    have hf := hide (show gridOk rows m wd lo hi = false from by simp [gridOk, h1])
    clear hx
    go_enter Try.func36, Try.ntmps36
    go_wp2_with (go_at_call 37; refine (within_any _ _ _ _).mono ?_; rintro e w' ⟨rfl, rfl⟩)
    go_ret
    exact ⟨ret_bool hf.out.symm, rfl⟩
  | true =>
    have b1 := inR_iff.1 h1
    have hn1 : 0 < rows.length := by omega
    clear b1
    obtain ⟨b0, off, rfl, hb0, hc⟩ := hx hn1
    obtain ⟨A1, c1, hc0, hr0⟩ := hc 0 hn1
    rw [Nat.add_zero] at hc0
    have Hc := hide hc
    clear hc hx hr0
    have hw0 := hrow.out 0 hn1
    cases h2 : inR ((rowAt rows 0).length : Int) 1 wd with
    | false =>
      have hf := hide (show gridOk rows m wd lo hi = false from by simp [gridOk, h2])
      go_enter Try.func36, Try.ntmps36
      go_wp2_with (go_at_call 37; refine (within_any _ _ _ _).mono ?_; rintro e w' ⟨rfl, rfl⟩)
      go_ret
      exact ⟨ret_bool hf.out.symm, rfl⟩
    | true =>
      go_enter Try.func36, Try.ntmps36
      go_wp2_with (go_at_call 37; refine (within_any _ _ _ _).mono ?_; rintro e w' ⟨rfl, rfl⟩)
      have H1 := hide h1
      have H2 := hide h2
      clear h1 h2
      go_loop [29] (fun i => ∃ k : Nat, k ≤ rows.length ∧ i = .int .i64 k ∧ Hid (∀ j, j < k → rowOk rows lo hi j = true)) (fun i => rows.length - (intOf i).toNat)
      case atStart => exact ⟨0, Nat.zero_le _, rfl, fun j hj => absurd hj (by omega)⟩
      case round =>
        obtain ⟨k, hk, rfl, hall⟩ := hrel
        by_cases hlt : k < rows.length
        · obtain ⟨A2, c2, hck, hrr⟩ := Hc.out k hlt
          have hwk := hrow.out k hlt
          have hstep : ∀ (_ : rowOk rows lo hi k = true), Hid (∀ j, j < k + 1 → rowOk rows lo hi j = true) := fun hok j hj => by
            rcases Nat.lt_or_ge j k with h | h
            · exact hall.out j h
            · obtain rfl : j = k := by omega
              exact hok
          have Hstep := hide hstep
          clear hstep
          have Hrr := hide hrr
          clear hrr
          by_cases hle : (rowAt rows k).length = (rowAt rows 0).length
          · cases hw : allW lo hi (rowAt rows k) with
            | true =>
              have R := hide (Hstep.out (by simp [rowOk, hle, hw]))
              rw [hle] at hck
              have hrr := Hrr.out
              rw [hle] at hrr
              have Hrr := hide hrr
              clear hrr hle hwk
              go_wp2_with (go_at_call 43; refine (allWithin_any _ _ _ _ _ Hrr.out (hrow.out k hlt)).mono ?_; rintro e w' ⟨rfl, rfl⟩)
              go_round
              case rel => exact ⟨k + 1, by omega, by go_num, R.out⟩
              case measure => simp [intOf]; omega
            | false =>
              have hf := hide (gridOk_bad (m := m) (wd := wd) (lo := lo) (hi := hi) hlt (by simp [rowOk, hw]))
              rw [hle] at hck
              have hrr := Hrr.out
              rw [hle] at hrr
              have Hrr := hide hrr
              clear hrr hle hwk
              go_wp2_with (go_at_call 43; refine (allWithin_any _ _ _ _ _ Hrr.out (hrow.out k hlt)).mono ?_; rintro e w' ⟨rfl, rfl⟩)
              go_ret
              exact ⟨ret_bool hf.out.symm, rfl⟩
          · have hf := hide (gridOk_bad (m := m) (wd := wd) (lo := lo) (hi := hi) hlt (rowOk_len hle))
            have d1 : (((rowAt rows k).length : Int) != ((rowAt rows 0).length : Int)) = true := by simp; omega
            have d2 : ((rowAt rows k).length != (rowAt rows 0).length) = true := by simp; omega
            have d3 : (((rowAt rows k).length : Int) == ((rowAt rows 0).length : Int)) = false := by simp; omega
            have d4 : ((rowAt rows k).length == (rowAt rows 0).length) = false := by simp; omega
            go_wp2_with fail
            go_ret
            exact ⟨ret_bool hf.out.symm, rfl⟩
        · obtain rfl : k = rows.length := by omega
          have hf := hide (gridOk_rows H1.out H2.out hall.out)
          go_wp2_with fail
          go_ret
          exact ⟨ret_bool hf.out.symm, rfl⟩

set_option maxHeartbeats 400000 in
theorem implQ_HallOk (v : Value) (rows : List (List Int)) (w : World) (h : RdM w v rows) (hl : OkM rows) :
    Calls Try.prog 13 #[v] w fun e w' => e = .returned (.bool (gridOk rows 8 10 (-1) 200)) ∧ ∃ m, w' = w.drewN m := by
  go_enter Try.func13, Try.ntmps13
  go_wp2_with (go_at_call 36; refine (areRows_any _ _ _ _ _ _ _ h hl).mono ?_; rintro e w' ⟨rfl, rfl⟩)
  go_ret
  exact ⟨rfl, 0, rfl⟩

set_option maxHeartbeats 2000000 in
theorem specQ_HallOk (v : Value) (rows : List (List Int)) (w : World) (h : RdM w v rows) (hl : OkM rows) :
    Calls Try.prog 11 #[v] w fun e w' => e = .returned (.bool (gridOk rows 8 10 (-1) 200)) ∧ ∃ m, w' = w.drewN m := by
  obtain ⟨A, c, rfl, hx⟩ := h
  have hn := hl.1
  have hrow := hide (fun i hi => hl.row (i := i) hi)
  clear hl
  cases h1 : inR (rows.length : Int) 1 8 with
  | false =>
    have hf := hide (show gridOk rows 8 10 (-1) 200 = false from by simp [gridOk, h1])
    clear hx
    go_enter Try.func11, Try.ntmps11
    go_wp2_with (go_at_call 35; refine (l01In_any _ _ _ _).mono ?_; rintro e w' ⟨rfl, rfl⟩)
    go_ret
    exact ⟨ret_bool hf.out.symm, 0, rfl⟩
  | true =>
    have b1 := inR_iff.1 h1
    have hn1 : 0 < rows.length := by omega
    clear b1
    obtain ⟨b0, off, rfl, hb0, hc⟩ := hx hn1
    obtain ⟨A1, c1, hc0, hr0⟩ := hc 0 hn1
    rw [Nat.add_zero] at hc0
    have Hc := hide hc
    clear hc hx hr0
    have hw0 := hrow.out 0 hn1
    cases h2 : inR ((rowAt rows 0).length : Int) 1 10 with
    | false =>
      have hf := hide (show gridOk rows 8 10 (-1) 200 = false from by simp [gridOk, h2])
      go_enter Try.func11, Try.ntmps11
      go_wp2_with (go_at_call 35; refine (l01In_any _ _ _ _).mono ?_; rintro e w' ⟨rfl, rfl⟩)
      go_ret
      exact ⟨ret_bool hf.out.symm, 0, rfl⟩
    | true =>
      go_enter Try.func11, Try.ntmps11
      go_wp2_with (go_at_call 35; refine (l01In_any _ _ _ _).mono ?_; rintro e w' ⟨rfl, rfl⟩)
      have H1 := hide h1
      have H2 := hide h2
      clear h1 h2
      go_loopw [3] (fun i wr => ∃ k m : Nat, k ≤ rows.length ∧ i = .int .i64 k ∧ wr = w.drewN m ∧ Hid (∀ j, j < k → rowOk rows (-1) 200 j = true)) (fun i _ => rows.length - (intOf i).toNat)
      case atStart => exact ⟨0, 0, Nat.zero_le _, rfl, rfl, fun j hj => absurd hj (by omega)⟩
      case round =>
        obtain ⟨k, m, hk, rfl, rfl, hall⟩ := hrel
        by_cases hlt : k < rows.length
        · obtain ⟨A2, c2, hck, A3, c3, e3, hrr⟩ := Hc.out k hlt
          injection e3 with e4 e5 e6
          subst e4
          clear e5 e6
          have hwk := hrow.out k hlt
          have Hstep : Hid (∀ (_ : rowOk rows (-1) 200 k = true), (∀ j, j < k + 1 → rowOk rows (-1) 200 j = true)) := fun hok j hj => by
            rcases Nat.lt_or_ge j k with h | h
            · exact hall.out j h
            · obtain rfl : j = k := by omega
              exact hok
          go_wp2_with fail
          go_loop [4] (fun i => ∃ x : Nat, x ≤ (rowAt rows k).length ∧ i = .int .i64 x ∧ Hid (∀ j, j < x → inR (gt (rowAt rows k) j) (-1) 200 = true)) (fun i => (rowAt rows k).length - (intOf i).toNat)
          case atStart => exact ⟨0, Nat.zero_le _, rfl, fun j hj => absurd hj (by omega)⟩
          case round =>
            obtain ⟨x, hx, rfl, hin⟩ := hrel
            by_cases hxl : x < (rowAt rows k).length
            · obtain ⟨b1, off1, rfl, hb1, hcx⟩ := hrr (by omega)
              have hcxx := hcx x hxl
              clear hcx hrr
              cases hi : inR (gt (rowAt rows k) x) (-1) 200 with
              | true =>
                go_wp2_with (go_at_call 35; refine (l01In_any _ _ _ _).mono ?_; rintro e w' ⟨rfl, rfl⟩)
                go_round
                case rel => exact ⟨x + 1, by omega, by go_num, fun j hj => by
                  rcases Nat.lt_or_ge j x with h | h
                  · exact hin.out j h
                  · obtain rfl : j = x := by omega
                    exact hi⟩
                case measure => simp [intOf]; omega
              | false =>
                have hf := hide (gridOk_bad (m := 8) (wd := 10) (lo := (-1)) (hi := 200) hlt (by simp [rowOk, allW_false hxl hi]))
                go_wp2_with (go_at_call 35; refine (l01In_any _ _ _ _).mono ?_; rintro e w' ⟨rfl, rfl⟩)
                go_ret
                exact ⟨ret_bool hf.out.symm, _, rfl⟩
            · obtain rfl : x = (rowAt rows k).length := by omega
              have hw := allW_of hin.out
              clear hrr
              by_cases hle : (rowAt rows k).length = (rowAt rows 0).length
              · have R := hide (Hstep.out (by simp [rowOk, hle, hw]))
                clear hw
                rw [hle] at hck ⊢
                have hkb : (k : Int) < (rows.length : Int) := by omega
                have h0b : (0 : Int) < (rows.length : Int) := by omega
                clear hle hwk
                go_wp2_with fail
                go_quiet (fail)
                go_wp2
                go_roundw
                case rel => exact ⟨k + 1, _, by omega, by go_num, rfl, R.out⟩
                case measure => simp [intOf]; omega
              · have hf := hide (gridOk_bad (m := 8) (wd := 10) (lo := (-1)) (hi := 200) hlt (rowOk_len hle))
                have d1 : (((rowAt rows k).length : Int) != ((rowAt rows 0).length : Int)) = true := by simp; omega
                have d2 : ((rowAt rows k).length != (rowAt rows 0).length) = true := by simp; omega
                have d3 : (((rowAt rows k).length : Int) == ((rowAt rows 0).length : Int)) = false := by simp; omega
                have d4 : ((rowAt rows k).length == (rowAt rows 0).length) = false := by simp; omega
                have hkb : (k : Int) < (rows.length : Int) := by omega
                have h0b : (0 : Int) < (rows.length : Int) := by omega
                clear hw
                go_wp2_with fail
                go_quiet (fail)
                go_wp2
                go_ret
                exact ⟨ret_bool hf.out.symm, _, World.drewN_drewN _ _ _⟩
        · obtain rfl : k = rows.length := by omega
          have hf := hide (gridOk_rows H1.out H2.out hall.out)
          go_wp2_with fail
          go_ret
          exact ⟨ret_bool hf.out.symm, _, rfl⟩

theorem impl_HallOk (v : Value) (rows : List (List Int)) (w : World) (h : RdM w v rows) (hl : OkM rows) :
    Calls Try.prog 13 #[v] w fun e w' => e = .returned (.bool (gridOk rows 8 10 (-1) 200)) ∧ Nx w w' := calls_nx (implQ_HallOk v rows w h hl)
theorem spec_HallOk (v : Value) (rows : List (List Int)) (w : World) (h : RdM w v rows) (hl : OkM rows) :
    Calls Try.prog 11 #[v] w fun e w' => e = .returned (.bool (gridOk rows 8 10 (-1) 200)) ∧ Nx w w' := calls_nx (specQ_HallOk v rows w h hl)

end Go.Proofs.Ytkjclpbemdilbaa
