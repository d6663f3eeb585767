/- Contracts of people, CountSeeing and LeastRise. -/
import Derived.Test.YtkjclpbemdilbaaSeesS
import Derived.WalkKit
import Derived.ProofKit
import Derived.Handy
import Derived.OpenShut
import Derived.ShutString
import Derived.ChangeOld
import Derived.Below
import Derived.BigQuiet
import Derived.Deep.QuietTactic
import Derived.Deep.Draws
import Derived.Deep.DeepCutAuto
import Derived.Deep.DeepFit
import Derived.Deep.LoopGhost
import Derived.Outline
import Derived.WalkSpells
import Derived.WalkLawsBesides
import Derived.WalkSmall
import Derived.Laws.OwnMore
import Derived.OneCell
import Derived.Laws.Rows
import Derived.Maps.AppendAt
import Derived.StillTailTactics
import Derived.Lib.SmallJoins
import Derived.Deep.RegionWith
import Derived.Deep.RegionHeld3
import Derived.RegionTactic
import Derived.Deep.Matrix
import Derived.Deep.Fields
import Derived.ChangeSame
namespace Go.Proofs.Ytkjclpbemdilbaa
open Go.RowKit

def oneB (b : Bool) : Int := if b then 1 else 0
theorem oneB_bd (b : Bool) : 0 ≤ oneB b ∧ oneB b ≤ 1 := by unfold oneB; split <;> omega
/-- a sum of the first k. -/
def s1 (g : Nat → Int) : Nat → Int
  | 0 => 0
  | k + 1 => s1 g k + g k
/-- a sum over whole rows. -/
def tot (f : Nat → Nat → Int) (wd : Nat) (y : Nat) : Int := s1 (fun y' => s1 (f y') wd) y
theorem tot_succ (f : Nat → Nat → Int) (wd y : Nat) : tot f wd (y + 1) = tot f wd y + s1 (f y) wd := rfl
theorem s1_bd {g : Nat → Int} {m : Int} (k : Nat) (h : ∀ j, j < k → 0 ≤ g j ∧ g j ≤ m) : 0 ≤ s1 g k ∧ s1 g k ≤ m * k := by
  induction k with
  | zero => simp [s1]
  | succ k ih =>
    have h1 := ih fun j hj => h j (by omega)
    have h2 := h k (by omega)
    simp only [s1]
    have e : m * ((k + 1 : Nat) : Int) = m * (k : Int) + m := by rw [Int.natCast_add, Int.mul_add]; simp
    rw [e]
    omega
theorem s1_le10 {g : Nat → Int} {m : Int} {k : Nat} (hk : k ≤ 10) (hm : 0 ≤ m) (h : ∀ j, j < k → 0 ≤ g j ∧ g j ≤ m) : 0 ≤ s1 g k ∧ s1 g k ≤ 10 * m := by
  have h1 := s1_bd k h
  refine ⟨h1.1, Int.le_trans h1.2 ?_⟩
  rw [Int.mul_comm 10 m]
  exact Int.mul_le_mul_of_nonneg_left (by omega) hm
theorem tot_bd {f : Nat → Nat → Int} {h wd y : Nat} (hy : y ≤ h) (hh : h ≤ 10) (hw : wd ≤ 10) (hf : ∀ y x, 0 ≤ f y x ∧ f y x ≤ 1) : 0 ≤ tot f wd y ∧ tot f wd y ≤ 100 :=
  s1_le10 (m := 10) (by omega) (by omega) fun j _ => s1_le10 (m := 1) hw (by omega) fun x _ => hf j x
/-- who sees, who is there. -/
def seesN (rows : List (List Int)) (rise : Int) (y x : Nat) : Int := oneB (seesB rows (y : Int) (x : Int) rise)
def manN (rows : List (List Int)) (y x : Nat) : Int := oneB (decide (0 ≤ g2 rows y x))
def seeing (rows : List (List Int)) (rise : Int) : Int := tot (seesN rows rise) (rowAt rows 0).length rows.length
def manned (rows : List (List Int)) : Int := tot (manN rows) (rowAt rows 0).length rows.length
def countS (rows : List (List Int)) (rise : Int) : Int := if gridOk rows 8 10 (-1) 200 && inR rise 0 50 then seeing rows rise else -1
/-- the least of the first n for which c holds, -1 if none. -/
def firstR (c : Nat → Bool) (n : Nat) : Int := match (List.range n).find? c with
  | some i => (i : Int)
  | none => -1
theorem firstR_yes {c : Nat → Bool} {n i : Nat} (hi : i < n) (hc : c i = true) (h : ∀ j, j < i → c j = false) : firstR c n = (i : Int) := by
  unfold firstR
  have : (List.range n).find? c = some i := by
    rw [List.find?_range_eq_some]
    exact ⟨hc, by simpa using hi, fun j hj => by simp [h j hj]⟩
  rw [this]
theorem firstR_no {c : Nat → Bool} {n : Nat} (h : ∀ j, j < n → c j = false) : firstR c n = -1 := by
  unfold firstR
  have : (List.range n).find? c = none := by
    rw [List.find?_eq_none]
    intro x hx
    simp [h x (List.mem_range.1 hx)]
  rw [this]
def leastR (rows : List (List Int)) : Int := if gridOk rows 8 10 (-1) 200 then firstR (fun r => manned rows == seeing rows (r : Int)) 51 else -1

set_option maxHeartbeats 2000000 in
theorem peopleQ (v : Value) (rows : List (List Int)) (rise : Int) (w : World) (h : RdM w v rows) (hl : OkM rows) (hg : gridOk rows 8 10 (-1) 200 = true) :
    Calls Try.prog 39 #[v, .int .i64 rise] w fun e w' => e = .returned (.tuple #[.int .i64 (manned rows), .int .i64 (seeing rows rise)]) ∧ ∃ m, w' = w.drewN m := by
  have K := hide (fun (n y x : Nat) => implQ_Sees v rows (y : Int) (x : Int) rise (w.drewN n) (h.below (Nx.drewN (Below.refl _ _) n)) hl)
  obtain ⟨hG, hh, hw⟩ := gridOk_grid hg
  have hB := hide hG.bd
  have hr := h.grid hG (by omega) (by omega)
  have p1 : rows.length ≤ 8 := by omega
  have p2 : (rowAt rows 0).length ≤ 10 := by omega
  have hM : Hid (manned rows = tot (manN rows) (rowAt rows 0).length rows.length) := rfl
  have hS : Hid (seeing rows rise = tot (seesN rows rise) (rowAt rows 0).length rows.length) := rfl
  have hm1 : Hid (∀ y x, manN rows y x = oneB (decide (0 ≤ g2 rows y x))) := fun _ _ => rfl
  have hs1 : Hid (∀ y x, seesN rows rise y x = oneB (seesB rows (y : Int) (x : Int) rise)) := fun _ _ => rfl
  have zm := hide (fun y x => oneB_bd (decide (0 ≤ g2 rows y x)))
  have zs := hide (fun (y x : Nat) => oneB_bd (seesB rows (y : Int) (x : Int) rise))
  obtain ⟨b, off, c, rb, ro, rc, rfl, hrow, hcell⟩ := hr
  have Hrow := hide hrow
  have Hcell := hide hcell
  clear hrow hcell hG hh hw hg h hl
  generalize rows.length = hh at *
  generalize (rowAt rows 0).length = ww at *
  generalize hmf : manN rows = mf at *
  generalize hsf : seesN rows rise = sf at *
  clear hmf hsf
  go_enter Try.func39, Try.ntmps39
  go_wp2_with fail
  go_loopw [6, 7, 14] (fun a s i wr => ∃ y m : Nat, y ≤ hh ∧ i = .int .i64 y ∧ a = .int .i64 (tot mf ww y) ∧ s = .int .i64 (tot sf ww y) ∧ wr = w.drewN m) (fun _ _ i _ => hh - (intOf i).toNat)
  case atStart => exact ⟨0, 0, by omega, rfl, rfl, rfl, rfl⟩
  case round =>
    obtain ⟨y, m, hy, rfl, rfl, rfl, rfl⟩ := hrel
    have t1 := tot_bd (f := mf) hy (by omega) p2 (fun y x => by rw [hm1.out]; exact zm.out y x)
    have t2 := tot_bd (f := sf) hy (by omega) p2 (fun y x => by rw [hs1.out]; exact zs.out y x)
    by_cases hlt : y < hh
    · have k1 := Hrow.out y hlt
      go_wp2_with fail
      go_loopw [6, 7, 21] (fun a s i wr => ∃ x m : Nat, x ≤ ww ∧ i = .int .i64 x ∧ a = .int .i64 (tot mf ww y + s1 (mf y) x) ∧ s = .int .i64 (tot sf ww y + s1 (sf y) x) ∧ wr = w.drewN m) (fun _ _ i _ => ww - (intOf i).toNat)
      case atStart => exact ⟨0, _, by omega, rfl, by simp [s1], by simp [s1], rfl⟩
      case round =>
        obtain ⟨x, m, hx, rfl, rfl, rfl, rfl⟩ := hrel
        have t3 := s1_le10 (g := mf y) (m := 1) (k := x) (by omega) (by omega) (fun j _ => by rw [hm1.out]; exact zm.out y j)
        have t4 := s1_le10 (g := sf y) (m := 1) (k := x) (by omega) (by omega) (fun j _ => by rw [hs1.out]; exact zs.out y j)
        by_cases hxl : x < ww
        · have k3 := Hcell.out y x hlt hxl
          have Km := hide (K.out m y x)
          have e3 : Hid (s1 (mf y) (x + 1) = s1 (mf y) x + mf y x) := rfl
          have e4 : Hid (s1 (sf y) (x + 1) = s1 (sf y) x + sf y x) := rfl
          by_cases hp : 0 ≤ g2 rows y x
          · have e1 := hide (show mf y x = 1 from by rw [hm1.out]; simp [oneB, hp])
            cases hs : seesB rows (y : Int) (x : Int) rise with
            | true =>
              have e2 := hide (show sf y x = 1 from by rw [hs1.out]; simp [oneB, hs])
              rw [hs] at Km
              clear hs
              go_wp2_with (go_at_call 16; refine (unhide Km).mono ?_; rintro e w' ⟨rfl, m', rfl⟩)
              go_roundw
              case rel => exact ⟨x + 1, _, by omega, by go_num, by rw [e3.out, e1.out]; go_num, by rw [e4.out, e2.out]; go_num, rfl⟩
              case measure => simp [intOf]; omega
            | false =>
              have e2 := hide (show sf y x = 0 from by rw [hs1.out]; simp [oneB, hs])
              rw [hs] at Km
              clear hs
              go_wp2_with (go_at_call 16; refine (unhide Km).mono ?_; rintro e w' ⟨rfl, m', rfl⟩)
              go_roundw
              case rel => exact ⟨x + 1, _, by omega, by go_num, by rw [e3.out, e1.out]; go_num, by rw [e4.out, e2.out]; go_num, rfl⟩
              case measure => simp [intOf]; omega
          · have e1 := hide (show mf y x = 0 from by rw [hm1.out]; simp [oneB, hp])
            cases hs : seesB rows (y : Int) (x : Int) rise with
            | true =>
              have e2 := hide (show sf y x = 1 from by rw [hs1.out]; simp [oneB, hs])
              rw [hs] at Km
              clear hs
              go_wp2_with (go_at_call 16; refine (unhide Km).mono ?_; rintro e w' ⟨rfl, m', rfl⟩)
              go_roundw
              case rel => exact ⟨x + 1, _, by omega, by go_num, by rw [e3.out, e1.out]; go_num, by rw [e4.out, e2.out]; go_num, rfl⟩
              case measure => simp [intOf]; omega
            | false =>
              have e2 := hide (show sf y x = 0 from by rw [hs1.out]; simp [oneB, hs])
              rw [hs] at Km
              clear hs
              go_wp2_with (go_at_call 16; refine (unhide Km).mono ?_; rintro e w' ⟨rfl, m', rfl⟩)
              go_roundw
              case rel => exact ⟨x + 1, _, by omega, by go_num, by rw [e3.out, e1.out]; go_num, by rw [e4.out, e2.out]; go_num, rfl⟩
              case measure => simp [intOf]; omega
        · obtain rfl : x = ww := by omega
          go_wp2_with fail
          go_roundw
          case rel => exact ⟨y + 1, _, by omega, by go_num, by rw [tot_succ], by rw [tot_succ], rfl⟩
          case measure => simp [intOf]; omega
    · obtain rfl : y = hh := by omega
      go_wp2_with fail
      go_ret2
      exact ⟨by rw [hM.out, hS.out]; rfl, _, rfl⟩

set_option maxHeartbeats 1000000 in
theorem implQ_CountSeeing (v : Value) (rows : List (List Int)) (rise : Int) (w : World) (h : RdM w v rows) (hl : OkM rows) :
    Calls Try.prog 20 #[v, .int .i64 rise] w fun e w' => e = .returned (.int .i64 (countS rows rise)) ∧ ∃ m, w' = w.drewN m := by
  have K := hide (implQ_HallOk v rows w h hl)
  cases hg : gridOk rows 8 10 (-1) 200 with
  | false =>
    have hf := hide (show countS rows rise = -1 from by simp [countS, hg])
    rw [hg] at K
    go_enter Try.func20, Try.ntmps20
    go_wp2_with (go_at_call 13; fail)
    refine (unhide K).mono ?_
    rintro e w1 ⟨rfl, m, rfl⟩
    go_wp2_with fail
    go_ret
    exact ⟨ret_int hf.out.symm, _, rfl⟩
  | true =>
    rw [hg] at K
    cases h1 : inR rise 0 50 with
    | false =>
      have hf := hide (show countS rows rise = -1 from by simp [countS, h1])
      clear hg
      go_enter Try.func20, Try.ntmps20
      go_wp2_with (go_at_call 13; fail)
      refine (unhide K).mono ?_
      rintro e w1 ⟨rfl, m, rfl⟩
      go_wp2_with (go_at_call 37; refine (within_any _ _ _ _).mono ?_; rintro e w' ⟨rfl, rfl⟩)
      go_ret
      exact ⟨ret_int hf.out.symm, _, rfl⟩
    | true =>
      have hf := hide (show countS rows rise = seeing rows rise from by simp [countS, hg, h1])
      have K2 := hide (fun n => peopleQ v rows rise (w.drewN n) (h.below (Nx.drewN (Below.refl _ _) n)) hl hg)
      clear hg
      go_enter Try.func20, Try.ntmps20
      go_wp2_with (go_at_call 13; fail)
      refine (unhide K).mono ?_
      rintro e w1 ⟨rfl, m, rfl⟩
      go_wp2_with (first | (go_at_call 37; refine (within_any _ _ _ _).mono ?_; rintro e w' ⟨rfl, rfl⟩) | (go_at_call 39; refine (K2.out m).mono ?_; rintro e w' ⟨rfl, m', rfl⟩))
      go_ret
      exact ⟨ret_int hf.out.symm, _, rfl⟩

set_option maxHeartbeats 1000000 in
theorem implQ_LeastRise (v : Value) (rows : List (List Int)) (w : World) (h : RdM w v rows) (hl : OkM rows) :
    Calls Try.prog 24 #[v] w fun e w' => e = .returned (.int .i64 (leastR rows)) ∧ ∃ m, w' = w.drewN m := by
  have K := hide (implQ_HallOk v rows w h hl)
  cases hg : gridOk rows 8 10 (-1) 200 with
  | false =>
    have hf := hide (show leastR rows = -1 from by simp [leastR, hg])
    rw [hg] at K
    go_enter Try.func24, Try.ntmps24
    go_wp2_with (go_at_call 13; fail)
    refine (unhide K).mono ?_
    rintro e w1 ⟨rfl, m, rfl⟩
    go_wp2_with fail
    go_ret
    exact ⟨ret_int hf.out.symm, _, rfl⟩
  | true =>
    rw [hg] at K
    have hf := hide (show leastR rows = firstR (fun r => manned rows == seeing rows (r : Int)) 51 from by simp [leastR, hg])
    have K2 := hide (fun (n : Nat) (r : Nat) => peopleQ v rows (r : Int) (w.drewN n) (h.below (Nx.drewN (Below.refl _ _) n)) hl hg)
    clear hg
    go_enter Try.func24, Try.ntmps24
    go_wp2_with (go_at_call 13; fail)
    refine (unhide K).mono ?_
    rintro e w1 ⟨rfl, m, rfl⟩
    clear K
    go_wp2_with fail
    go_loopw [9] (fun i wr => ∃ r m : Nat, r ≤ 51 ∧ i = .int .i64 r ∧ wr = w.drewN m ∧ Hid (∀ j : Nat, j < r → (manned rows == seeing rows (j : Int)) = false)) (fun i _ => 51 - (intOf i).toNat)
    case atStart => exact ⟨0, _, by omega, rfl, rfl, fun j hj => absurd hj (by omega)⟩
    case round =>
      obtain ⟨r, m, hr, rfl, rfl, hall⟩ := hrel
      by_cases hlt : r < 51
      · have Km := hide (K2.out m r)
        cases he : (manned rows == seeing rows (r : Int)) with
        | true =>
          have hfin := hide (firstR_yes (c := fun r => manned rows == seeing rows (r : Int)) hlt he hall.out)
          go_wp2_with (go_at_call 39; refine (unhide Km).mono ?_; rintro e w' ⟨rfl, m', rfl⟩)
          go_ret
          exact ⟨ret_int (by rw [hf.out, hfin.out]), _, rfl⟩
        | false =>
          have hall' : Hid (∀ j : Nat, j < r + 1 → (manned rows == seeing rows (j : Int)) = false) := fun j hj => by
            rcases Nat.lt_or_ge j r with h | h
            · exact hall.out j h
            · obtain rfl : j = r := by omega
              exact he
          go_wp2_with (go_at_call 39; refine (unhide Km).mono ?_; rintro e w' ⟨rfl, m', rfl⟩)
          go_roundw
          case rel => exact ⟨r + 1, _, by omega, by go_num, rfl, hall'⟩
          case measure => simp [intOf]; omega
      · obtain rfl : r = 51 := by omega
        have hfin := hide (firstR_no (c := fun r => manned rows == seeing rows (r : Int)) hall.out)
        go_wp2_with fail
        go_ret
        exact ⟨ret_int (by rw [hf.out, hfin.out]), _, rfl⟩

end Go.Proofs.Ytkjclpbemdilbaa
