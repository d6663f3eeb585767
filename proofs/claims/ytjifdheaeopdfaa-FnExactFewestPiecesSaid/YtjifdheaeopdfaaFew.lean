/- Contracts of FewestPieces. -/
import Derived.Test.YtjifdheaeopdfaaSplit
import Derived.WalkKit
import Derived.ProofKit
import Derived.Handy
import Derived.OpenShut
import Derived.ShutString
import Derived.ChangeOld
import Derived.Below
import Derived.BigQuiet
import Derived.Deep.QuietTactic
import Derived.Deep.Draws
import Derived.Deep.DeepCutAuto
import Derived.Deep.DeepFit
import Derived.Deep.LoopGhost
import Derived.Outline
import Derived.WalkSpells
import Derived.WalkLawsBesides
import Derived.WalkSmall
import Derived.Laws.OwnMore
import Derived.OneCell
import Derived.Laws.Rows
import Derived.Maps.AppendAt
import Derived.StillTailTactics
namespace Go.Proofs.Ytjifdheaeopdfaa
open Go.RowKit

/-- the sum of the first k. -/
def sumK (zs : List Int) : Nat → Int
  | 0 => 0
  | k + 1 => sumK zs k + gt zs k
/-- how many pieces the greedy way takes. -/
def few (s : Int) : Int := sumK (splitTo s 6) 6
theorem gt_splitTo {s : Int} {j k : Nat} (h : j < k) : gt (splitTo s k) j = remTo s j / gt pcs j := by
  induction k with
  | zero => omega
  | succ k ih =>
    simp only [splitTo]
    rcases Nat.lt_or_ge j k with h1 | h1
    · rw [gt_append_left (by rw [splitTo_length]; exact h1)]
      exact ih h1
    · obtain rfl : j = k := by omega
      have := gt_snoc (splitTo s j) (remTo s j / gt pcs j)
      rwa [splitTo_length] at this
theorem quot_bd {s : Int} (h0 : 0 ≤ s) (h1 : s ≤ 10000) {j : Nat} (hj : j < 6) : 0 ≤ gt (splitTo s 6) j ∧ gt (splitTo s 6) j ≤ 10000 := by
  rw [gt_splitTo hj]
  have := remTo_bd h0 h1 (k := j) (by omega)
  have hb := pcs_bd hj
  constructor
  · exact Int.ediv_nonneg this.1 (by omega)
  · have := Int.ediv_le_self (gt pcs j) this.1
    omega
theorem sumK_bd {s : Int} (h0 : 0 ≤ s) (h1 : s ≤ 10000) {k : Nat} (hk : k ≤ 6) : 0 ≤ sumK (splitTo s 6) k ∧ sumK (splitTo s 6) k ≤ 10000 * k := by
  induction k with
  | zero => simp [sumK]
  | succ k ih =>
    have := ih (by omega)
    have := quot_bd h0 h1 (j := k) (by omega)
    simp only [sumK]
    omega
/-- the reference's least at s after k kinds. -/
def dpTo (s : Int) : Nat → Int
  | 0 => s
  | k + 1 => if gt pcs k ≤ s then min (dpTo s k) (few (s - gt pcs k) + 1) else dpTo s k
def fN (r : Nat) : Nat := r / 20 + r % 20 / 10 + r % 20 % 10 / 5 + r % 20 % 10 % 5 / 2 + r % 20 % 10 % 5 % 2
theorem few_nat (s : Nat) : few (s : Int) = ((s / 50 + fN (s % 50) : Nat) : Int) := by
  have h : few (s : Int) = (s : Int) / 50 + ((s : Int) % 50) / 20 + ((s : Int) % 50) % 20 / 10 + ((s : Int) % 50) % 20 % 10 / 5 + ((s : Int) % 50) % 20 % 10 % 5 / 2 + ((s : Int) % 50) % 20 % 10 % 5 % 2 / 1 := by
    simp [few, sumK, gt, splitTo, remTo, pcs]
  rw [h]
  simp only [fN, Int.natCast_add, Int.natCast_ediv, Int.natCast_emod, Int.ediv_one, Int.cast_ofNat_Int]
  omega
theorem chk : ((List.range 50).all fun r => [50, 20, 10, 5, 2, 1].all fun c => if c ≤ r then decide (fN r ≤ fN (r - c) + 1) else decide (fN r ≤ fN (r + 50 - c))) = true := by decide +kernel
theorem chk2 : ((List.range 50).all fun r => r == 0 || ([20, 10, 5, 2, 1].any fun c => decide (c ≤ r) && fN r == fN (r - c) + 1)) = true := by decide +kernel
theorem few_le {s c : Nat} (hc : c ∈ [50, 20, 10, 5, 2, 1]) (h : c ≤ s) : few (s : Int) ≤ few ((s : Int) - (c : Int)) + 1 := by
  have hc50 : c ≤ 50 := by simp at hc; omega
  have h1 := List.all_eq_true.1 (List.all_eq_true.1 chk (s % 50) (List.mem_range.2 (by omega))) c hc
  rw [show (s : Int) - (c : Int) = ((s - c : Nat) : Int) from by omega, few_nat, few_nat]
  split at h1
  · rename_i hle
    have h2 := of_decide_eq_true h1
    have e1 : (s - c) / 50 = s / 50 := by omega
    have e2 : (s - c) % 50 = s % 50 - c := by omega
    rw [e1, e2]
    omega
  · have h2 := of_decide_eq_true h1
    have hq : 1 ≤ s / 50 := by omega
    by_cases hm : c = 50
    · subst hm
      have e1 : (s - 50) / 50 = s / 50 - 1 := by omega
      have e2 : (s - 50) % 50 = s % 50 := by omega
      rw [e1, e2]
      omega
    · have e1 : (s - c) / 50 = s / 50 - 1 := by omega
      have e2 : (s - c) % 50 = s % 50 + 50 - c := by omega
      rw [e1, e2]
      omega
theorem few_eq {s : Nat} (h : 1 ≤ s) : ∃ c, c ∈ [50, 20, 10, 5, 2, 1] ∧ c ≤ s ∧ few (s : Int) = few ((s : Int) - (c : Int)) + 1 := by
  by_cases h0 : s % 50 = 0
  · refine ⟨50, by simp, by omega, ?_⟩
    rw [show (s : Int) - ((50 : Nat) : Int) = ((s - 50 : Nat) : Int) from by omega, few_nat, few_nat]
    have e1 : (s - 50) / 50 = s / 50 - 1 := by omega
    have e2 : (s - 50) % 50 = s % 50 := by omega
    rw [e1, e2]
    omega
  · have h1 := List.all_eq_true.1 chk2 (s % 50) (List.mem_range.2 (by omega))
    simp only [Bool.or_eq_true, beq_iff_eq] at h1
    rcases h1 with h1 | h1
    · omega
    · obtain ⟨c, hc, h2⟩ := List.any_eq_true.1 h1
      simp only [Bool.and_eq_true, decide_eq_true_eq, beq_iff_eq] at h2
      refine ⟨c, List.mem_cons_of_mem _ hc, by omega, ?_⟩
      have hc50 : c ≤ 20 := by simp at hc; omega
      rw [show (s : Int) - (c : Int) = ((s - c : Nat) : Int) from by omega, few_nat, few_nat]
      have e1 : (s - c) / 50 = s / 50 := by omega
      have e2 : (s - c) % 50 = s % 50 - c := by omega
      rw [e1, e2]
      omega
theorem few_self (s : Nat) : few (s : Int) ≤ (s : Int) := by
  rw [few_nat]; unfold fN; omega
theorem pcs_nat {j : Nat} (h : j < 6) : ∃ c : Nat, gt pcs j = (c : Int) ∧ c ∈ [50, 20, 10, 5, 2, 1] := by
  match j, h with
  | 0, _ => exact ⟨50, rfl, by simp⟩
  | 1, _ => exact ⟨20, rfl, by simp⟩
  | 2, _ => exact ⟨10, rfl, by simp⟩
  | 3, _ => exact ⟨5, rfl, by simp⟩
  | 4, _ => exact ⟨2, rfl, by simp⟩
  | 5, _ => exact ⟨1, rfl, by simp⟩
theorem nat_pcs {c : Nat} (h : c ∈ [50, 20, 10, 5, 2, 1]) : ∃ j, j < 6 ∧ gt pcs j = (c : Int) := by
  simp only [List.mem_cons, List.mem_nil_iff, or_false] at h
  rcases h with rfl | rfl | rfl | rfl | rfl | rfl
  · exact ⟨0, by omega, rfl⟩
  · exact ⟨1, by omega, rfl⟩
  · exact ⟨2, by omega, rfl⟩
  · exact ⟨3, by omega, rfl⟩
  · exact ⟨4, by omega, rfl⟩
  · exact ⟨5, by omega, rfl⟩
theorem dp_ge {s x : Int} (h0 : x ≤ s) : ∀ k, (∀ j, j < k → gt pcs j ≤ s → x ≤ few (s - gt pcs j) + 1) → x ≤ dpTo s k := by
  intro k
  induction k with
  | zero => intro _; exact h0
  | succ k ih =>
    intro h
    have h1 := ih fun j hj => h j (by omega)
    simp only [dpTo]
    split
    · have := h k (by omega) ‹_›
      omega
    · exact h1
theorem dp_le {s : Int} {j : Nat} (hs : gt pcs j ≤ s) : ∀ k, j < k → dpTo s k ≤ few (s - gt pcs j) + 1 := by
  intro k
  induction k with
  | zero => intro h; omega
  | succ k ih =>
    intro h
    simp only [dpTo]
    by_cases hj : j = k
    · subst hj; rw [if_pos hs]; omega
    · have := ih (by omega)
      split <;> omega
theorem dp_few {s : Nat} (h0 : 1 ≤ s) : dpTo (s : Int) 6 = few (s : Int) := by
  have hge : few (s : Int) ≤ dpTo (s : Int) 6 := dp_ge (few_self s) 6 fun j hj hs => by
    obtain ⟨c, hc, hm⟩ := pcs_nat hj
    rw [hc] at hs ⊢
    exact few_le hm (by omega)
  obtain ⟨c, hc, hcs, he⟩ := few_eq h0
  obtain ⟨j, hj, hjc⟩ := nat_pcs hc
  have hle := dp_le (s := (s : Int)) (j := j) (by omega) 6 hj
  rw [hjc] at hle
  omega
theorem dpTo_bd {s : Nat} (h1 : s ≤ 2000) {k : Nat} (hk : k ≤ 6) : -1 ≤ dpTo (s : Int) k ∧ dpTo (s : Int) k ≤ 70000 := by
  induction k with
  | zero => simp only [dpTo]; omega
  | succ k ih =>
    have := ih (by omega)
    simp only [dpTo]
    split
    · rename_i hle
      have hb := pcs_bd (k := k) (by omega)
      have := sumK_bd (s := (s : Int) - gt pcs k) (by omega) (by omega) (k := 6) (by omega)
      unfold few
      omega
    · omega
/-- the table: right below s, y at s, 0 behind. -/
def tblL (s : Nat) : List Int := (List.range s).map fun (i : Nat) => few (i : Int)
theorem tblL_length (s : Nat) : (tblL s).length = s := by simp [tblL]
theorem gt_tblL {s j : Nat} (h : j < s) (rest : List Int) : gt (tblL s ++ rest) j = few (j : Int) := by
  rw [gt_append_left (by rw [tblL_length]; exact h)]
  unfold gt tblL
  simp [h]
theorem gt_tblL_at (s : Nat) (y : Int) (rest : List Int) : gt (tblL s ++ y :: rest) s = y := by
  unfold gt
  rw [List.getD, List.getElem?_append_right (by rw [tblL_length]; exact Nat.le_refl _), tblL_length]
  simp
theorem tblL_set (s : Nat) (x y : Int) (rest : List Int) : (tblL s ++ y :: rest).set s x = tblL s ++ x :: rest := by
  have := set_step (done := tblL s) (rest := rest) (x := x) (y := y)
  rw [tblL_length] at this
  rw [this]; simp
theorem tblL_succ (s : Nat) : tblL (s + 1) = tblL s ++ [few (s : Int)] := by simp [tblL, List.range_succ]
/-- what FewestPieces answers. -/
def fewest (s : Int) : Int := if inR s 0 2000 then few s else -1

set_option maxHeartbeats 1000000 in
theorem impl_FewestPieces (s : Int) (w : World) : Calls Try.prog 32 #[.int .i64 s] w fun e w' => e = .returned (.int .i64 (fewest s)) ∧ Nx w w' := by
  cases h1 : inR s 0 2000 with
  | false =>
    have hf := hide (show fewest s = -1 from by simp [fewest, h1])
    go_enter Try.func32, Try.ntmps32
    go_wp2_with (go_at_call 42; refine (within_any _ _ _ _).mono ?_; rintro e w' ⟨rfl, rfl⟩)
    go_ret
    exact ⟨ret_int hf.out.symm, Below.refl _ _⟩
  | true =>
    have hf := hide (show fewest s = sumK (splitTo s 6) 6 from by simp [fewest, few, h1])
    have b1 := inR_iff.1 h1
    go_enter Try.func32, Try.ntmps32
    go_wp2_with (first | (go_at_call 42; refine (within_any _ _ _ _).mono ?_; rintro e w' ⟨rfl, rfl⟩) | (go_at_call 51; fail))
    refine (split_any _ _ (by omega) (by omega)).mono ?_
    rintro e w1 ⟨u, rfl, hown, hb⟩
    have hownN : OwN w1 w.heap.size u 6 (splitTo s 6) := by have := hown.toN; rw [splitTo_length] at this; exact this
    obtain ⟨g, cg, hu⟩ := hownN.open_ (by omega)
    subst hu
    have hcell : Hid (∀ j, j < 6 → w1.cell? ⟨g, j, none⟩ = some (.int .i64 (gt (splitTo s 6) j))) := fun j hj => hownN.cellAt hj
    have Hb := hide hb
    clear hown hownN hb h1
    go_wp2_with fail
    go_loop [3, 12] (fun o i => ∃ k : Nat, k ≤ 6 ∧ i = .int .i64 k ∧ o = .int .i64 (sumK (splitTo s 6) k)) (fun _ i => 6 - (intOf i).toNat)
    case atStart => exact ⟨0, by omega, rfl, rfl⟩
    case round =>
      obtain ⟨k, hk, rfl, rfl⟩ := hrel
      have b2 := sumK_bd (s := s) (by omega) (by omega) hk
      by_cases hlt : k < 6
      · have hck := hcell.out k hlt
        have b3 := quot_bd (s := s) (by omega) (by omega) hlt
        go_wp2_with fail
        go_round
        case rel => exact ⟨k + 1, by omega, by go_num, rfl⟩
        case measure => simp [intOf]; omega
      · obtain rfl : k = 6 := by omega
        go_wp2_with fail
        go_ret
        exact ⟨ret_int hf.out.symm, unhide Hb⟩

set_option maxHeartbeats 1000000 in
theorem spec_FewestPieces (s : Int) (w : World) : Calls Try.prog 31 #[.int .i64 s] w fun e w' => e = .returned (.int .i64 (fewest s)) ∧ Nx w w' := by
  cases h1 : inR s 0 2000 with
  | false =>
    have hf := hide (show fewest s = -1 from by simp [fewest, h1])
    go_enter Try.func31, Try.ntmps31
    go_wp2_with (go_at_call 41; refine (l01In_any _ _ _ _).mono ?_; rintro e w' ⟨rfl, rfl⟩)
    go_ret
    exact ⟨ret_int hf.out.symm, Below.refl _ _⟩
  | true =>
    have hf := hide (show fewest s = few s from by simp [fewest, h1])
    have b1 := inR_iff.1 h1
    obtain ⟨S, rfl⟩ := Int.eq_ofNat_of_zero_le b1.1
    have hS : S ≤ 2000 := by omega
    clear b1
    obtain ⟨i0, hi, hz0, hz1, hz2⟩ := info_parts intInfo
    go_enter Try.func31, Try.ntmps31
    go_wp2_with (first | (go_at_call 41; refine (l01In_any _ _ _ _).mono ?_; rintro e w' ⟨rfl, rfl⟩) | (at_make; refine wpList_make_full _ rfl _ _ 26 rfl w.heap.size 3 i0 (.int .i64 0) 1 Try.underlying26 hi hz0 hz1 .i64 .i64 _ _ (S + 1) rfl rfl ?c4 ?c5 ?c1 ?c2 ?c3 ?_))
    case c1 => rw [hz2]; omega
    case c2 => unfold maxLen; omega
    case c3 => exact Nat.le_refl _
    case c4 => omega
    case c5 => omega
    intro w1 hown hg
    have hb0 : Nx w w1 := (Below.refl _ _).grown hg (Nat.le_refl _) (by intro k hk; cases hk)
    have hown0 : OwN w1 w.heap.size (.slice (some ⟨w.heap.size, 0, none⟩) (S + 1) (S + 1)) (S + 1) (tblL 1 ++ List.replicate (S + 1 - 1) 0) := by
      unfold OwN
      have e : (madeCells #[Value.int IntKind.i64 0] (S + 1)).toList = (tblL 1 ++ List.replicate (S + 1 - 1) 0).map (Value.int .i64) := by
        rw [toList_madeCells_one, List.replicate_succ]
        simp [tblL, show few 0 = 0 from by decide +kernel]
      rw [← e]; exact hown
    clear hown hg hi hz0 hz1 hz2
    go_wp2_with fail
    go_loopw [4] (fun i wr => ∃ k : Nat, 1 ≤ k ∧ k ≤ S + 1 ∧ i = .int .i64 k ∧ OwN wr w.heap.size (.slice (some ⟨w.heap.size, 0, none⟩) (S + 1) (S + 1)) (S + 1) (tblL k ++ List.replicate (S + 1 - k) 0) ∧ Nx w wr) (fun i _ => S + 1 - (intOf i).toNat)
    case atStart => exact ⟨1, by omega, by omega, rfl, hown0, hb0⟩
    case round =>
      clear hown0 hb0
      obtain ⟨k, hk1, hk, rfl, hown, hb⟩ := hrel
      by_cases hlt : k < S + 1
      · have hle : k ≤ S := by omega
        have hst := hown.cellAt hlt
        have hfr := hown.frozenAt k
        have R : OwN (wr.setCell ⟨w.heap.size, k, none⟩ (.int .i64 k)) w.heap.size (.slice (some ⟨w.heap.size, 0, none⟩) (S + 1) (S + 1)) (S + 1) (tblL k ++ (k : Int) :: List.replicate (S + 1 - (k + 1)) 0) := by
          have := (hown.stored k (k : Int)).1
          rw [show S + 1 - k = (S + 1 - (k + 1)) + 1 from by omega, List.replicate_succ, tblL_set] at this
          exact this
        have Rb : Nx w (wr.setCell ⟨w.heap.size, k, none⟩ (.int .i64 k)) := hb.setCell (Nat.le_refl _) _
        obtain ⟨wo, hwo⟩ : ∃ wo : World, wo = wr.setCell ⟨w.heap.size, k, none⟩ (.int .i64 k) := ⟨_, rfl⟩
        rw [← hwo] at R Rb
        clear hown hb
        have Hwo := hide hwo
        clear hwo
        go_wp2_with fail
        rw [← Hwo.out]
        clear Hwo hst hfr
        go_loopw [5] (fun c wi => ∃ m : Nat, m ≤ 6 ∧ c = .int .i64 m ∧ OwN wi w.heap.size (.slice (some ⟨w.heap.size, 0, none⟩) (S + 1) (S + 1)) (S + 1) (tblL k ++ dpTo (k : Int) m :: List.replicate (S + 1 - (k + 1)) 0) ∧ Nx w wi) (fun c _ => 6 - (intOf c).toNat)
        case atStart => exact ⟨0, by omega, rfl, R, Rb⟩
        case round =>
          clear R Rb
          obtain ⟨m, hm, rfl, hown, hb⟩ := hrel
          by_cases hlm : m < 6
          · have hp := pcs_bd hlm
            by_cases hps : gt pcs m ≤ (k : Int)
            · have e1 : Hid (dpTo (k : Int) (m + 1) = if few ((k : Int) - gt pcs m) + 1 < dpTo (k : Int) m then few ((k : Int) - gt pcs m) + 1 else dpTo (k : Int) m) := by
                show dpTo (k : Int) (m + 1) = _
                simp only [dpTo]
                rw [if_pos hps, Int.min_def]
                split <;> split <;> omega
              have b2 := dpTo_bd (s := k) (by omega) hm
              have b3 := sumK_bd (s := (k : Int) - gt pcs m) (by omega) (by omega) (k := 6) (by omega)
              have hst := hown.cellAt hlt
              rw [gt_tblL_at] at hst
              have hfr := hown.frozenAt k
              have hcp := hown.cellAt (j := ((k : Int) - gt pcs m).toNat) (by omega)
              rw [gt_tblL (by omega), Int.toNat_of_nonneg (by omega)] at hcp
              change 0 ≤ few ((k : Int) - gt pcs m) ∧ few ((k : Int) - gt pcs m) ≤ _ at b3
              go_wp2_with (go_at_call 50; refine (l25Piece_any m hlm _).mono ?_; rintro e w' ⟨rfl, rfl⟩)
              have R := (hown.stored k (dpTo (k : Int) (m + 1))).1
              rw [tblL_set] at R
              have R' := hide R
              have Rb := hide (Below.drew (hb.setCell (p := ⟨w.heap.size, k, none⟩) (Nat.le_refl _) (.int .i64 (dpTo (k : Int) (m + 1)))))
              clear R hown hb
              have hA : (k : Int) < (S : Int) + 1 := by omega
              have hC : (0 : Int) ≤ (k : Int) - gt pcs m := by omega
              have hD : (k : Int) - gt pcs m < (S : Int) + 1 := by omega
              have hB : IntKind.i64.wrap ((k : Int) - gt pcs m) = (k : Int) - gt pcs m := IntWalk.i64_in _ (by omega)
              have hE : IntKind.i64.wrap (few ((k : Int) - gt pcs m) + 1) = few ((k : Int) - gt pcs m) + 1 := IntWalk.i64_in _ (by omega)
              go_still_tail 16, (by kernel_rfl)
              still_call ((l25Piece_any m hlm _).mono fun _ _ ⟨he, hw⟩ => ⟨he, hw.symm⟩)
              repeat still_step
              refine wpStill_nil ?_
              clear hB hE
              go_wp2
              go_roundw
              case rel => exact ⟨m + 1, by omega, by go_num, by have := R'.out; rw [e1.out] at this ⊢; exact this, by have := Rb.out; rw [e1.out] at this; exact this⟩
              case measure => simp [intOf] <;> omega
            · have e1 : Hid (dpTo (k : Int) (m + 1) = dpTo (k : Int) m) := by show dpTo (k : Int) (m + 1) = _; simp only [dpTo]; rw [if_neg hps]
              go_wp2_with (go_at_call 50; refine (l25Piece_any m hlm _).mono ?_; rintro e w' ⟨rfl, rfl⟩)
              go_roundw
              case rel => exact ⟨m + 1, by omega, by go_num, by rw [e1.out]; exact hown, hb⟩
              case measure => simp [intOf]; omega
          · obtain rfl : m = 6 := by omega
            have hfin : OwN wr w.heap.size (.slice (some ⟨w.heap.size, 0, none⟩) (S + 1) (S + 1)) (S + 1) (tblL (k + 1) ++ List.replicate (S + 1 - (k + 1)) 0) := by
              have := hown
              rw [dp_few hk1] at this
              rw [tblL_succ, List.append_assoc]
              exact this
            have R := hide hfin
            clear hown hfin
            go_wp2_with fail
            go_roundw
            case rel => exact ⟨k + 1, by omega, by omega, by go_num, R.out, hb⟩
            case measure => simp [intOf]; omega
      · obtain rfl : k = S + 1 := by omega
        have hck := hown.cellAt (j := S) (by omega)
        rw [gt_tblL (by omega)] at hck
        clear hown
        go_wp2_with fail
        go_ret
        exact ⟨ret_int hf.out.symm, hb⟩

end Go.Proofs.Ytjifdheaeopdfaa
