/- FewestBoxes: impl. -/
import Derived.Test.YthjiggihljiikaaFbS
import Derived.WalkKit
import Derived.ProofKit
import Derived.Handy
import Derived.OpenShut
import Derived.ShutString
import Derived.ChangeOld
import Derived.Below
import Derived.BigQuiet
import Derived.Deep.QuietTactic
import Derived.Deep.Draws
import Derived.Deep.DeepCutAuto
import Derived.Deep.DeepFit
import Derived.Deep.LoopGhost
import Derived.Outline
import Derived.WalkSpells
import Derived.WalkLawsBesides
import Derived.WalkSmall
import Derived.Laws.OwnMore
import Derived.OneCell
import Derived.Laws.Rows
import Derived.Maps.AppendAt
import Derived.StillTailTactics
import Derived.Lib.SmallJoins
import Derived.Deep.RegionWith
import Derived.Deep.RegionHeld3
import Derived.RegionTactic
import Derived.Deep.Matrix
import Derived.Deep.Fields
import Derived.ChangeSame
namespace Go.Proofs.Ythjiggihljiikaa
open Go.RowKit

/-- the program counts the last box too. -/
def fI : Option (Int × Int) → Int
  | none => 100
  | some q => q.1 + 1
def bAt (room : Int) (zs : List Int) (s k : Nat) : Nat → Int := fun j => if j < s then (if j = 0 then 0 else (tbl (tabB room zs (s - 1)) j).1 + 1) else if j = s then fI (bstTo room zs (tabB room zs (s - 1)) s k) else 0
def bSet (room : Int) (zs : List Int) (s : Nat) : Nat → Int := fun j => if j < s then (if j = 0 then 0 else (tbl (tabB room zs (s - 1)) j).1 + 1) else 0
theorem bSet_one (room : Int) (zs : List Int) (j : Nat) : (0 : Int) = bSet room zs 1 j := by
  unfold bSet
  split
  · obtain rfl : j = 0 := by omega
    rfl
  · rfl
theorem bAt_zero (room : Int) (zs : List Int) {s : Nat} (hs : 1 ≤ s) (j : Nat) : (if j = s then (100 : Int) else bSet room zs s j) = bAt room zs s 0 j := by
  unfold bSet bAt
  by_cases e : j = s
  · subst e; rw [if_pos rfl, if_neg (by omega), if_pos rfl]; rfl
  · rw [if_neg e, if_neg e]
theorem b_next {room : Int} {zs : List Int} {s : Nat} (hs : 1 ≤ s) {i : Nat} (hb : s.testBit i = true) (hi : i < zs.length) (j : Nat) : bAt room zs s zs.length j = bSet room zs (s + 1) j := by
  unfold bAt bSet
  rcases Nat.lt_or_ge j s with h | h
  · have h2 : j < s + 1 := by omega
    simp [h, h2, tbl_old' (room := room) (zs := zs) hs h]
  · have n1 : ¬ j < s := by omega
    by_cases e : j = s
    · subst e
      obtain ⟨q, hq⟩ := bstTo_some (room := room) (zs := zs) (T := tabB room zs (j - 1)) hb hi
      have e1 := tbl_new' (room := room) (zs := zs) hs
      rw [hq] at e1
      have n0 : ¬ j = 0 := by omega
      simp [e1, hq, fI, n0]
    · have n2 : ¬ j < s + 1 := by omega
      simp [n1, n2, e]
theorem b_same {room : Int} {zs : List Int} {s k : Nat} (h : bstTo room zs (tabB room zs (s - 1)) s (k + 1) = bstTo room zs (tabB room zs (s - 1)) s k) (j : Nat) : bAt room zs s k j = bAt room zs s (k + 1) j := by
  unfold bAt
  rw [h]
theorem b_set {room : Int} {zs : List Int} {s k : Nat} {c : Int × Int} (h : bstTo room zs (tabB room zs (s - 1)) s (k + 1) = some c) (j : Nat) : (if j = s then c.1 + 1 else bAt room zs s k j) = bAt room zs s (k + 1) j := by
  unfold bAt
  rw [h]
  by_cases e : j = s
  · subst e
    simp [fI]
  · simp [e]
theorem bAt_low {room : Int} {zs : List Int} {s k j : Nat} (h : j < s) : bAt room zs s k j = if j = 0 then 0 else (tbl (tabB room zs (s - 1)) j).1 + 1 := by unfold bAt; rw [if_pos h]
theorem bAt_at {room : Int} {zs : List Int} {s k : Nat} : bAt room zs s k s = fI (bstTo room zs (tabB room zs (s - 1)) s k) := by unfold bAt; rw [if_neg (by omega), if_pos rfl]
theorem fI_step {room : Int} {zs : List Int} {T : List (Int × Int)} {set i : Nat} (h : set.testBit i = true) (hb : (candB room (gt zs i) (tbl T (set - 2 ^ i))).1 ≤ 12) :
    ((candB room (gt zs i) (tbl T (set - 2 ^ i))).1 + 1 < fI (bstTo room zs T set i) ∨ (candB room (gt zs i) (tbl T (set - 2 ^ i))).1 + 1 = fI (bstTo room zs T set i) ∧ (candB room (gt zs i) (tbl T (set - 2 ^ i))).2 < lO (bstTo room zs T set i) →
      bstTo room zs T set (i + 1) = some (candB room (gt zs i) (tbl T (set - 2 ^ i)))) ∧
    (¬ ((candB room (gt zs i) (tbl T (set - 2 ^ i))).1 + 1 < fI (bstTo room zs T set i) ∨ (candB room (gt zs i) (tbl T (set - 2 ^ i))).1 + 1 = fI (bstTo room zs T set i) ∧ (candB room (gt zs i) (tbl T (set - 2 ^ i))).2 < lO (bstTo room zs T set i)) →
      bstTo room zs T set (i + 1) = bstTo room zs T set i) := by
  cases hq : bstTo room zs T set i with
  | none =>
    refine ⟨fun _ => bstTo_first h hq, fun hn => ?_⟩
    exact absurd (.inl (by simp only [fI]; omega)) hn
  | some q =>
    refine ⟨fun hc => bstTo_take h hq (less_iff.2 (by simp only [fI, lO] at hc; omega)), fun hn => ?_⟩
    refine bstTo_leave h hq ?_
    rw [Bool.eq_false_iff]
    exact fun ht => hn (by have := less_iff.1 ht; simp only [fI, lO]; omega)
/-- the table of no puppets. -/
theorem tbl_zero (room : Int) (zs : List Int) (k : Nat) : tbl (tabB room zs k) 0 = (0, 0) := by
  induction k with
  | zero => rfl
  | succ k ih => rw [tbl_old (by omega), ih]
set_option maxRecDepth 100000 in
set_option maxHeartbeats 8000000 in
theorem impl_FewestBoxes (v : Value) (zs : List Int) (room : Int) (w : World) (h : RdI w v zs) (hl : zs.length ≤ 1048576) (hi64 : I64 room) :
    Calls Try.prog 23 #[v, .int .i64 room] w fun e w' => e = .returned (.int .i64 (fewestBoxes zs room)) ∧ Nx w w' := by
  have hv := h
  obtain ⟨A, c, rfl, hx⟩ := h
  have Hx := hide hx
  clear hx
  cases h1 : boxesOk zs room with
  | false =>
    have hf := hide (show fewestBoxes zs room = -1 from by simp [fewestBoxes, h1])
    go_enter Try.func23, Try.ntmps23
    go_wp2_with fail
    refine (impl_BoxesOk _ _ _ _ hv hl hi64).mono ?_
    rintro e w1 ⟨rfl, b⟩
    go_wp2_with fail
    go_ret
    exact ⟨ret_int hf.out.symm, b⟩
  | true =>
    have hf := hide (show fewestBoxes zs room = if zs.length = 0 then 0 else (tbl (tabB room zs (2 ^ zs.length - 1)) (2 ^ zs.length - 1)).1 + 1 from by simp [fewestBoxes, h1])
    obtain ⟨hn12, hroom, hz⟩ := boxesOk_iff.1 h1
    have Hz := hide hz
    obtain ⟨N, hN⟩ : ∃ N : Nat, N = 2 ^ zs.length := ⟨_, rfl⟩
    have hN1 : 1 ≤ N := by rw [hN]; exact Nat.one_le_two_pow
    have hN2 : N ≤ 4096 := by rw [hN]; exact (Nat.pow_le_pow_right (by omega) hn12 : 2 ^ zs.length ≤ 2 ^ 12)
    have hpow : (2 : Int) ^ zs.length = (N : Int) := by rw [hN]; simp
    have HN := hide hN
    have Htab := hide (fun k (hk : k < 2 ^ zs.length) => tab_in (room := room) (zs := zs) (by omega) hz hk)
    obtain ⟨i0, hi, hz0, hz1, hz2⟩ := info_parts intInfo
    have hmk : ∀ W : World, (Instr.makeSlice 22 (.int .i64 (N : Int)) (.int .i64 (N : Int))).run Try.prog W = .ok (.slice (some ⟨W.heap.size, 0, none⟩) N N) (W.alloc (.cells (madeCells #[.int .i64 0] N) 3)) := fun W => by
      have := run_make_rowN (P := Try.prog) 22 3 i0 (.int .i64 0) Try.underlying22 hi hz0 .i64 .i64 N N (Nat.le_refl _) (by rw [hz2]; omega) (by omega) W
      rw [hz1, Nat.mul_one] at this
      exact this
    clear hz hN hi hz0 hz1 hz2
    go_enter Try.func23, Try.ntmps23
    go_wp2_with fail
    refine (impl_BoxesOk _ _ _ _ hv hl hi64).mono ?_
    rintro e w1 ⟨rfl, b⟩
    have hw1 := b.size
    have Hb := hide b
    clear b hv
    go_wp2_with fail
    go_cut [6, 7] (fun bx ls wr => ∃ g g' : Nat, bx = .slice (some ⟨g, 0, none⟩) N N ∧ ls = .slice (some ⟨g', 0, none⟩) N N ∧ Two w wr g g' N (fun _ => 0) (fun _ => 0))
    case first =>
      go_region
      all_goals go_wp2_with fail
      all_goals go_meet
      · exact ⟨_, _, rfl, rfl, by first | exact Two.made Hb.out N hN2 | exact (Two.made Hb.out N hN2).drew | exact (Two.made Hb.out N hN2).drewN _⟩
      · exact ⟨_, _, rfl, rfl, by first | exact (Two.made Hb.out N hN2).swap | exact (Two.made Hb.out N hN2).swap.drew | exact (Two.made Hb.out N hN2).swap.drewN _⟩
    case rest =>
      obtain ⟨g, g', rfl, rfl, hT0⟩ := hcut
      have M := hide (hT0.congr (fun j _ => bSet_one room zs j) (fun j _ => lSet_one room zs j))
      clear hT0 Hb
      go_wp2_with fail
      clear h1 hmk
      go_loopw [8] (fun i wr => ∃ s : Nat, 1 ≤ s ∧ s ≤ N ∧ i = .int .i64 s ∧ Two w wr g g' N (bSet room zs s) (lSet room zs s)) (fun i _ => N - (intOf i).toNat)
      case atStart => exact ⟨1, Nat.le_refl _, hN1, rfl, M.out⟩
      case round =>
        clear M
        obtain ⟨s, hs1, hsN, rfl, hT⟩ := hrel
        by_cases hlt : s < N
        · have hcs := hT.cellF hlt
          have hfs := hT.frF s
          have R := hide ((hT.setF s 100).congr (fun j _ => bAt_zero room zs hs1 j) (fun j _ => lAt_zero room zs s j))
          have hsi : (s : Int) < (N : Int) := by omega
          have hs12 : s < 4096 := by omega
          clear hT
          go_wp2_with fail
          clear hcs hfs
          go_loopw [35] (fun q wq => ∃ k : Nat, k ≤ zs.length ∧ q = .int .i64 k ∧ Two w wq g g' N (bAt room zs s k) (lAt room zs s k)) (fun q _ => zs.length - (intOf q).toNat)
          case atStart => exact ⟨0, Nat.zero_le _, rfl, R.out⟩
          case round =>
            clear R
            obtain ⟨k, hk, rfl, hT⟩ := hrel
            by_cases hkn : k < zs.length
            · obtain ⟨b0, off, rfl, hb0, hc⟩ := Hx.out (by omega)
              have hck : wr.cell? ⟨b0, off + k, none⟩ = some (.int .i64 (gt zs k)) := (hT.2.2.2.cell (p := ⟨b0, off + k, none⟩) hb0).trans (hc k hkn)
              have hki : (k : Int) < (zs.length : Int) := by omega
              have hzk := Hz.out k hkn
              clear hc Hx
              obtain ⟨P, hP⟩ : ∃ P : Nat, P = 2 ^ k := ⟨_, rfl⟩
              have hpk : (2 : Int) ^ k = (P : Int) := by rw [hP]; simp
              have hP0 : 1 ≤ P ∧ P ≤ 4096 := by rw [hP]; exact ⟨Nat.one_le_two_pow, (Nat.pow_le_pow_right (by omega) (by omega) : 2 ^ k ≤ 2 ^ 12)⟩
              have hbit := bit_and hs12 (k := k) (by omega)
              rw [← hP] at hbit
              cases hb : s.testBit k with
              | false =>
                rw [hb, if_neg (by simp)] at hbit
                have R := hide (hT.congr (fun j _ => b_same (bstTo_skip hb) j) (fun j _ => (at_same (bstTo_skip hb) j).2))
                clear hT hP hb
                go_wp2_with fail
                go_roundw
                case rel => exact ⟨k + 1, by omega, by go_num, R.out⟩
                case measure => simp [intOf]; omega
              | true =>
                rw [hb, if_pos rfl] at hbit
                have hnot := bit_not hs12 (k := k) (by omega) hb
                rw [← hP] at hnot
                have hPs : P ≤ s := by rw [hP]; exact Nat.ge_two_pow_of_testBit hb
                obtain ⟨r, hr⟩ : ∃ r, r = s - P := ⟨_, rfl⟩
                rw [← hr] at hnot
                have hrs : r < s := by omega
                have hri : (r : Int) < (N : Int) := by omega
                have cF := hT.cellF (j := r) (by omega)
                rw [bAt_low (by omega)] at cF
                have cL := hT.cellL (j := r) (by omega)
                rw [lAt_low (by omega)] at cL
                have cFs := hT.cellF (j := s) hlt
                rw [bAt_at] at cFs
                have cLs := hT.cellL (j := s) hlt
                rw [lAt_at] at cLs
                have frF := hT.frF s
                have hne := hT.1
                have hne' := hT.1.symm
                have frL := hT.frL s
                have hin := Htab.out (s - 1) (by rw [← HN.out]; omega) r (by omega)
                have hcnt : cnt zs.length r + 1 = cnt zs.length s := by rw [hr, hP]; exact cnt_sub hb hkn
                have hcle := cnt_le zs.length s
                have hci := candB_in hin (s := gt zs k) (by omega)
                rw [hcnt] at hci
                unfold inB at hin hci
                have hobd : 0 ≤ fI (bstTo room zs (tabB room zs (s - 1)) s k) ∧ fI (bstTo room zs (tabB room zs (s - 1)) s k) ≤ 100 ∧ 0 ≤ lO (bstTo room zs (tabB room zs (s - 1)) s k) ∧ lO (bstTo room zs (tabB room zs (s - 1)) s k) ≤ room := by
                  cases hq : bstTo room zs (tabB room zs (s - 1)) s k with
                  | none => simp only [fI, lO]; omega
                  | some q =>
                    have := bstTo_in (room := room) (T := tabB room zs (s - 1)) Hz.out (fun j hj => Htab.out (s - 1) (by rw [← HN.out]; omega) j (by omega)) (by omega) hq
                    unfold inB at this
                    simp only [fI, lO]
                    omega
                have hstep := fI_step (room := room) (zs := zs) (T := tabB room zs (s - 1)) hb (by rw [← hP, ← hr]; omega)
                rw [← hP, ← hr] at hstep
                have Hsame := hide (fun h (n : Nat) => (hT.drewN n).congr (fun j _ => b_same (room := room) (zs := zs) (s := s) (k := k) h j) (fun j _ => (at_same (room := room) (zs := zs) (s := s) (k := k) h j).2))
                have Hset := hide (fun (c : Int × Int) h (n : Nat) => (((hT.drewN n).setF s (c.1 + 1)).setL s c.2).congr (fun j _ => b_set (room := room) (zs := zs) (s := s) (k := k) (c := c) h j) (fun j _ => (at_set (room := room) (zs := zs) (s := s) (k := k) (c := c) h j).2))
                have Hstep := hide hstep
                have Hci := hide hci
                have Htz := hide (tbl_zero room zs (s - 1))
                have Hr := hide hr
                clear hstep hT hcnt hb hci hP hr
                have Hfull := hide (fun h => candB_full (room := room) (s := gt zs k) (p := tbl (tabB room zs (s - 1)) r) h)
                have Hpart := hide (fun h => candB_part (room := room) (s := gt zs k) (p := tbl (tabB room zs (s - 1)) r) h)
                by_cases hr0 : r = 0
                · subst hr0
                  rw [if_pos rfl] at cF
                  rw [Htz.out] at cL
                  have hcE := Hpart.out (by rw [Htz.out]; show ¬ room < 0 + gt zs k; omega)
                  have HCE := hide hcE
                  clear hcE hin
                  generalize hcc : candB room (gt zs k) (tbl (tabB room zs (s - 1)) 0) = cc at *
                  have HCC := hide hcc
                  clear hcc
                  have E1 := hide (show cc.1 + 1 = 1 from by rw [HCE.out, Htz.out]; rfl)
                  have E2 := hide (show cc.2 = gt zs k from by rw [HCE.out, Htz.out]; simp)
                  have hri0 : (0 : Int) < (N : Int) := by omega
                  generalize fI (bstTo room zs (tabB room zs (s - 1)) s k) = f0 at *
                  generalize lO (bstTo room zs (tabB room zs (s - 1)) s k) = l0 at *
                  have hc1 := Hci.out
                  have Hs1 := Hstep.out
                  rw [E1.out, E2.out] at Hs1
                  have HS1 := hide Hs1
                  clear Hs1 hc1
                  by_cases q1 : 1 < f0
                  · have hq := hide (HS1.out.1 (.inl q1))
                    have R := hide (fun n => show Two w (((wr.drewN n).setCell ⟨g, s, none⟩ (.int .i64 (1))).setCell ⟨g', s, none⟩ (.int .i64 (gt zs k))) g g' N (bAt room zs s (k + 1)) (lAt room zs s (k + 1)) from by
                      have := Hset.out cc hq.out n
                      rw [E1.out, E2.out] at this
                      exact this)
                    have q2 : (1 == f0) = false := by simp; omega
                    go_wp2_with fail
                    have hw3 : IntKind.i64.wrap (gt zs k) = gt zs k := IntWalk.i64_in _ (by omega)
                    have hw4 : IntKind.i64.wrap (0 + gt zs k) = gt zs k := by rw [Int.zero_add]; exact hw3
                    go_quiet (fail)
                    clear hw3 hw4 hpk hpow hbit hnot
                    go_wp2_with fail
                    go_roundw
                    case rel => exact ⟨k + 1, by omega, by go_num, R.out _⟩
                    case measure => simp [intOf]; omega
                  · by_cases q2 : 1 = f0
                    · subst q2
                      by_cases q4 : gt zs k < l0
                      · have hq := hide (HS1.out.1 (.inr ⟨rfl, q4⟩))
                        have R := hide (fun n => show Two w (((wr.drewN n).setCell ⟨g, s, none⟩ (.int .i64 (1))).setCell ⟨g', s, none⟩ (.int .i64 (gt zs k))) g g' N (bAt room zs s (k + 1)) (lAt room zs s (k + 1)) from by
                          have := Hset.out cc hq.out n
                          rw [E1.out, E2.out] at this
                          exact this)
                        go_wp2_with fail
                        have hw3 : IntKind.i64.wrap (gt zs k) = gt zs k := IntWalk.i64_in _ (by omega)
                        have hw4 : IntKind.i64.wrap (0 + gt zs k) = gt zs k := by rw [Int.zero_add]; exact hw3
                        go_quiet (fail)
                        clear hw3 hw4 hpk hpow hbit hnot
                        go_wp2_with fail
                        go_roundw
                        case rel => exact ⟨k + 1, by omega, by go_num, R.out _⟩
                        case measure => simp [intOf]; omega
                      · have hq := hide (HS1.out.2 (fun h => h.elim q1 (fun h => q4 h.2)))
                        go_wp2_with fail
                        have hw3 : IntKind.i64.wrap (gt zs k) = gt zs k := IntWalk.i64_in _ (by omega)
                        have hw4 : IntKind.i64.wrap (0 + gt zs k) = gt zs k := by rw [Int.zero_add]; exact hw3
                        go_quiet (fail)
                        clear hw3 hw4 hpk hpow hbit hnot
                        go_wp2_with fail
                        go_roundw
                        case rel => exact ⟨k + 1, by omega, by go_num, Hsame.out hq.out _⟩
                        case measure => simp [intOf]; omega
                    · have q3 : (1 == f0) = false := by simpa using q2
                      have hq := hide (HS1.out.2 (fun h => h.elim q1 (fun h => q2 h.1)))
                      go_wp2_with fail
                      have hw3 : IntKind.i64.wrap (gt zs k) = gt zs k := IntWalk.i64_in _ (by omega)
                      have hw4 : IntKind.i64.wrap (0 + gt zs k) = gt zs k := by rw [Int.zero_add]; exact hw3
                      go_quiet (fail)
                      clear hw3 hw4 hpk hpow hbit hnot
                      go_wp2_with fail
                      go_roundw
                      case rel => exact ⟨k + 1, by omega, by go_num, Hsame.out hq.out _⟩
                      case measure => simp [intOf]; omega
                · rw [if_neg hr0] at cF
                  have hrb : ((r : Int) == 0) = false := beq_eq_false_iff_ne.2 (by omega)
                  generalize hcc : candB room (gt zs k) (tbl (tabB room zs (s - 1)) r) = cc at *
                  have HCC := hide hcc
                  clear hcc
                  have hpfb : (tbl (tabB room zs (s - 1)) r).1 ≤ 12 := by have := cnt_le zs.length r; omega
                  generalize (tbl (tabB room zs (s - 1)) r).1 = pf at *
                  generalize (tbl (tabB room zs (s - 1)) r).2 = pl at *
                  generalize fI (bstTo room zs (tabB room zs (s - 1)) s k) = f0 at *
                  generalize lO (bstTo room zs (tabB room zs (s - 1)) s k) = l0 at *
                  by_cases hfull : room < pl + gt zs k
                  · have hcE := hide (Hfull.out hfull)
                    have E1 := hide (show cc.1 + 1 = pf + 1 + 1 from by rw [hcE.out])
                    have E2 := hide (show cc.2 = gt zs k from by rw [hcE.out])
                    have hc1 := Hci.out
                    have Hs1 := Hstep.out
                    rw [E1.out, E2.out] at Hs1
                    have HS1 := hide Hs1
                    clear Hs1 hc1
                    by_cases q1 : pf + 1 + 1 < f0
                    · have hq := hide (HS1.out.1 (.inl q1))
                      have R := hide (fun n => show Two w (((wr.drewN n).setCell ⟨g, s, none⟩ (.int .i64 (pf + 1 + 1))).setCell ⟨g', s, none⟩ (.int .i64 (gt zs k))) g g' N (bAt room zs s (k + 1)) (lAt room zs s (k + 1)) from by
                        have := Hset.out cc hq.out n
                        rw [E1.out, E2.out] at this
                        exact this)
                      have q2 : (pf + 1 + 1 == f0) = false := by simp; omega
                      go_wp2_with fail
                      have hw3 : IntKind.i64.wrap (pl + gt zs k) = pl + gt zs k := IntWalk.i64_in _ (by omega)
                      go_quiet (fail)
                      clear hw3 hpk hpow hbit hnot
                      go_wp2_with fail
                      go_roundw
                      case rel => exact ⟨k + 1, by omega, by go_num, R.out _⟩
                      case measure => simp [intOf]; omega
                    · by_cases q2 : pf + 1 + 1 = f0
                      · subst q2
                        by_cases q4 : gt zs k < l0
                        · have hq := hide (HS1.out.1 (.inr ⟨rfl, q4⟩))
                          have R := hide (fun n => show Two w (((wr.drewN n).setCell ⟨g, s, none⟩ (.int .i64 (pf + 1 + 1))).setCell ⟨g', s, none⟩ (.int .i64 (gt zs k))) g g' N (bAt room zs s (k + 1)) (lAt room zs s (k + 1)) from by
                            have := Hset.out cc hq.out n
                            rw [E1.out, E2.out] at this
                            exact this)
                          go_wp2_with fail
                          have hw3 : IntKind.i64.wrap (pl + gt zs k) = pl + gt zs k := IntWalk.i64_in _ (by omega)
                          go_quiet (fail)
                          clear hw3 hpk hpow hbit hnot
                          go_wp2_with fail
                          go_roundw
                          case rel => exact ⟨k + 1, by omega, by go_num, R.out _⟩
                          case measure => simp [intOf]; omega
                        · have hq := hide (HS1.out.2 (fun h => h.elim q1 (fun h => q4 h.2)))
                          go_wp2_with fail
                          have hw3 : IntKind.i64.wrap (pl + gt zs k) = pl + gt zs k := IntWalk.i64_in _ (by omega)
                          go_quiet (fail)
                          clear hw3 hpk hpow hbit hnot
                          go_wp2_with fail
                          go_roundw
                          case rel => exact ⟨k + 1, by omega, by go_num, Hsame.out hq.out _⟩
                          case measure => simp [intOf]; omega
                      · have q3 : (pf + 1 + 1 == f0) = false := by simpa using q2
                        have hq := hide (HS1.out.2 (fun h => h.elim q1 (fun h => q2 h.1)))
                        go_wp2_with fail
                        have hw3 : IntKind.i64.wrap (pl + gt zs k) = pl + gt zs k := IntWalk.i64_in _ (by omega)
                        go_quiet (fail)
                        clear hw3 hpk hpow hbit hnot
                        go_wp2_with fail
                        go_roundw
                        case rel => exact ⟨k + 1, by omega, by go_num, Hsame.out hq.out _⟩
                        case measure => simp [intOf]; omega
                  · have hcE := hide (Hpart.out hfull)
                    have E1 := hide (show cc.1 + 1 = pf + 1 from by rw [hcE.out])
                    have E2 := hide (show cc.2 = pl + gt zs k from by rw [hcE.out])
                    have hc1 := Hci.out
                    have Hs1 := Hstep.out
                    rw [E1.out, E2.out] at Hs1
                    have HS1 := hide Hs1
                    clear Hs1 hc1
                    by_cases q1 : pf + 1 < f0
                    · have hq := hide (HS1.out.1 (.inl q1))
                      have R := hide (fun n => show Two w (((wr.drewN n).setCell ⟨g, s, none⟩ (.int .i64 (pf + 1))).setCell ⟨g', s, none⟩ (.int .i64 (pl + gt zs k))) g g' N (bAt room zs s (k + 1)) (lAt room zs s (k + 1)) from by
                        have := Hset.out cc hq.out n
                        rw [E1.out, E2.out] at this
                        exact this)
                      have q2 : (pf + 1 == f0) = false := by simp; omega
                      go_wp2_with fail
                      have hw3 : IntKind.i64.wrap (pl + gt zs k) = pl + gt zs k := IntWalk.i64_in _ (by omega)
                      go_quiet (fail)
                      clear hw3 hpk hpow hbit hnot
                      go_wp2_with fail
                      go_roundw
                      case rel => exact ⟨k + 1, by omega, by go_num, R.out _⟩
                      case measure => simp [intOf]; omega
                    · by_cases q2 : pf + 1 = f0
                      · subst q2
                        by_cases q4 : pl + gt zs k < l0
                        · have hq := hide (HS1.out.1 (.inr ⟨rfl, q4⟩))
                          have R := hide (fun n => show Two w (((wr.drewN n).setCell ⟨g, s, none⟩ (.int .i64 (pf + 1))).setCell ⟨g', s, none⟩ (.int .i64 (pl + gt zs k))) g g' N (bAt room zs s (k + 1)) (lAt room zs s (k + 1)) from by
                            have := Hset.out cc hq.out n
                            rw [E1.out, E2.out] at this
                            exact this)
                          go_wp2_with fail
                          have hw3 : IntKind.i64.wrap (pl + gt zs k) = pl + gt zs k := IntWalk.i64_in _ (by omega)
                          go_quiet (fail)
                          clear hw3 hpk hpow hbit hnot
                          go_wp2_with fail
                          go_roundw
                          case rel => exact ⟨k + 1, by omega, by go_num, R.out _⟩
                          case measure => simp [intOf]; omega
                        · have hq := hide (HS1.out.2 (fun h => h.elim q1 (fun h => q4 h.2)))
                          go_wp2_with fail
                          have hw3 : IntKind.i64.wrap (pl + gt zs k) = pl + gt zs k := IntWalk.i64_in _ (by omega)
                          go_quiet (fail)
                          clear hw3 hpk hpow hbit hnot
                          go_wp2_with fail
                          go_roundw
                          case rel => exact ⟨k + 1, by omega, by go_num, Hsame.out hq.out _⟩
                          case measure => simp [intOf]; omega
                      · have q3 : (pf + 1 == f0) = false := by simpa using q2
                        have hq := hide (HS1.out.2 (fun h => h.elim q1 (fun h => q2 h.1)))
                        go_wp2_with fail
                        have hw3 : IntKind.i64.wrap (pl + gt zs k) = pl + gt zs k := IntWalk.i64_in _ (by omega)
                        go_quiet (fail)
                        clear hw3 hpk hpow hbit hnot
                        go_wp2_with fail
                        go_roundw
                        case rel => exact ⟨k + 1, by omega, by go_num, Hsame.out hq.out _⟩
                        case measure => simp [intOf]; omega
            · obtain rfl : k = zs.length := by omega
              obtain ⟨i, hi, hbi⟩ := some_bit (n := zs.length) (j := s) (by omega) (by rw [← HN.out]; exact hlt)
              have R := hide (hT.congr (fun j _ => b_next hs1 hbi hi j) (fun j _ => (at_next hs1 hbi hi j).2))
              clear hT
              go_wp2_with fail
              go_roundw
              case rel => exact ⟨s + 1, by omega, by omega, by go_num, R.out⟩
              case measure => simp [intOf]; omega
        · obtain rfl : s = N := by omega
          have hfin : bSet room zs s (s - 1) = fewestBoxes zs room := by
            rw [hf.out]
            unfold bSet
            rw [if_pos (by omega)]
            by_cases h0 : zs.length = 0
            · have e1 : s = 1 := by rw [HN.out, h0]
              rw [if_pos h0, if_pos (by omega)]
            · have e1 : 2 ≤ s := by rw [HN.out]; exact (Nat.pow_le_pow_right (by omega) (by omega) : 2 ^ 1 ≤ 2 ^ zs.length)
              rw [if_neg h0, if_neg (by omega), ← HN.out]
          have cl := hT.cellF (j := s - 1) (by omega)
          rw [hfin] at cl
          have i1 : (0 : Int) ≤ (s : Int) - 1 := by omega
          have i2 : (s : Int) - 1 < (s : Int) := by omega
          have hj : ((s : Int) - 1).toNat = s - 1 := by omega
          have Hb := hide hT.2.2.2
          clear hfin hT
          go_wp2_with fail
          go_ret
          exact ⟨rfl, Hb.out⟩

end Go.Proofs.Ythjiggihljiikaa
