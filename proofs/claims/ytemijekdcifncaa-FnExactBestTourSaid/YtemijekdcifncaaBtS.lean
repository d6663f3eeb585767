/- BestTour: the search of the reference. -/
import Derived.Test.YtemijekdcifncaaBtT
import Derived.WalkKit
import Derived.ProofKit
import Derived.Handy
import Derived.OpenShut
import Derived.ShutString
import Derived.ChangeOld
import Derived.Below
import Derived.BigQuiet
import Derived.Deep.QuietTactic
import Derived.Deep.Draws
import Derived.Deep.DeepCutAuto
import Derived.Deep.DeepFit
import Derived.Deep.LoopGhost
import Derived.Outline
import Derived.WalkSpells
import Derived.WalkLawsBesides
import Derived.WalkSmall
import Derived.Laws.OwnMore
import Derived.OneCell
import Derived.Laws.Rows
import Derived.Maps.AppendAt
import Derived.StillTailTactics
import Derived.Lib.SmallJoins
import Derived.Deep.RegionWith
import Derived.Deep.RegionHeld3
import Derived.RegionTactic
import Derived.Deep.Matrix
import Derived.Deep.Fields
import Derived.ChangeSame
namespace Go.Proofs.Ytemijekdcifncaa
open Go.RowKit

/-- the town is among the first j. -/
def takenTo (head : List Int) (x : Int) : Nat → Bool
  | 0 => false
  | j + 1 => takenTo head x j || decide (gt head j = x)
theorem takenTo_iff {head : List Int} {x : Int} {j : Nat} : takenTo head x j = true ↔ ∃ i, i < j ∧ gt head i = x := by
  induction j with
  | zero => simp [takenTo]
  | succ j ih =>
    simp only [takenTo, Bool.or_eq_true, decide_eq_true_eq, ih]
    constructor
    · rintro (⟨i, hi, e⟩ | e)
      · exact ⟨i, by omega, e⟩
      · exact ⟨j, by omega, e⟩
    · rintro ⟨i, hi, e⟩
      rcases Nat.lt_or_ge i j with h | h
      · exact .inl ⟨i, h, e⟩
      · obtain rfl : i = j := by omega
        exact .inr e
theorem takenTo_mem {head : List Int} {x : Int} : takenTo head x head.length = true ↔ x ∈ head := by
  rw [takenTo_iff, mem_gt]
theorem atTo_snoc (zs : List Int) (k : Nat) : atTo (zs ++ [((k : Nat) : Int)]) (zs ++ [((k : Nat) : Int)]).length = k := by
  rw [List.length_append, List.length_singleton, atTo, gt_snoc]; simp
theorem atTo_left {zs ys : List Int} {j : Nat} (h : j ≤ zs.length) : atTo (zs ++ ys) j = atTo zs j := by
  cases j with
  | zero => rfl
  | succ j => simp only [atTo]; rw [gt_append_left (by omega)]
theorem wayTo_left (rows : List (List Int)) {zs ys : List Int} {j : Nat} (h : j ≤ zs.length) : wayTo rows (zs ++ ys) j = wayTo rows zs j := by
  induction j with
  | zero => rfl
  | succ j ih =>
    rw [wayTo, wayTo, ih (by omega), gt_append_left (show j < zs.length from h), atTo_left (by omega)]
theorem wayTo_snoc (rows : List (List Int)) (zs : List Int) (k : Nat) : wayTo rows (zs ++ [((k : Nat) : Int)]) (zs ++ [((k : Nat) : Int)]).length = wayTo rows zs zs.length + g2 rows (atTo zs zs.length) k := by
  rw [List.length_append, List.length_singleton, wayTo, gt_snoc, wayTo_left rows (Nat.le_refl _), atTo_left (Nat.le_refl _)]; simp
theorem srch_bd {rows : List (List Int)} (h : MapP rows) {f : Nat} {head : List Int} (hh : HeadT rows.length head) (hl : head.length + f = rows.length - 1) : 0 ≤ (srch rows f head).2 := by
  have := srch_ok f head hh hl
  rw [this.2.1]
  exact (lenT_bd h this.1.2).1
/-- what the search of the reference keeps: nothing yet, or a length. -/
theorem fold_keeps {rows : List (List Int)} (h : MapP rows) {f : Nat} {head : List Int} (hh : HeadT rows.length head) (hl : head.length + (f + 1) = rows.length - 1) {S : Nat → List Int × Int} (hS : (fun k : Nat => srch rows f (head ++ [(k : Int)])) = S) {t : Nat} (ht : t + 1 < rows.length) (hm : ¬ ((t + 1 : Nat) : Int) ∈ head) :
    (((foldB S head none t).getD ([], -1)).2 < 0 ∨ (S (t + 1)).2 < ((foldB S head none t).getD ([], -1)).2 → (foldB S head none (t + 1)).getD ([], -1) = S (t + 1)) ∧
    (¬ (((foldB S head none t).getD ([], -1)).2 < 0 ∨ (S (t + 1)).2 < ((foldB S head none t).getD ([], -1)).2) → (foldB S head none (t + 1)).getD ([], -1) = (foldB S head none t).getD ([], -1)) := by
  rw [foldB_take hm]
  rcases foldB_is (S := S) (head := head) (t := t) with ⟨e, _⟩ | ⟨r, e, ⟨k, h1, h2, h3, h4⟩, _⟩
  · rw [e]
    exact ⟨fun _ => rfl, fun h => absurd (Or.inl (show (-1 : Int) < 0 by omega)) h⟩
  · rw [e]
    have hr : 0 ≤ r.2 := by
      rw [h4, ← hS]
      exact srch_bd h (hh.snoc h1 (by omega) h3) (by simp; omega)
    show (r.2 < 0 ∨ (S (t + 1)).2 < r.2 → (combB (some r) (S (t + 1))).getD ([], -1) = S (t + 1)) ∧ (¬ (r.2 < 0 ∨ (S (t + 1)).2 < r.2) → (combB (some r) (S (t + 1))).getD ([], -1) = r)
    unfold combB
    by_cases hlt : (S (t + 1)).2 < r.2
    · simp [hlt]
    · simp [hlt]
      omega
set_option maxRecDepth 100000 in
set_option maxHeartbeats 4000000 in
theorem search_any {w0 : World} {rows : List (List Int)} {A : Option Addr} {c : Nat} (hd : RdM w0 (.slice A rows.length c) rows) (hm : mapOk rows = true) :
    ∀ (f : Nat) (head : List Int) (u : Value) (w : World), HeadT rows.length head → head.length + f = rows.length - 1 → RdI w u head → Nx w0 w →
      Calls Try.prog 45 #[.slice A rows.length c, u, .int .i64 (atTo head head.length : Int), .int .i64 (wayTo rows head head.length)] w fun e w' =>
        ∃ r, e = .returned (.tuple #[r, .int .i64 (srch rows f head).2]) ∧ OwI w' w.heap.size r (srch rows f head).1 ∧ Nx w w' := by
  have hP := mapOk_iff.1 hm
  have hn := mapP_len hP
  intro f
  induction f with
  | zero =>
    intro head u w hh hlen hu hb
    have hsrch := hide (show srch rows 0 head = (head, wayTo rows head head.length + g2 rows (atTo head head.length) 0) from rfl)
    have e0 : ((head.length : Int) == (rows.length : Int) - 1) = true := by simp; omega
    have hol : head.length ≤ 1048576 := by omega
    have hway := wayTo_bd (rows := rows) (zs := head) (by omega) (mapP_bd hP) (fun k hk => hh.1 _ (gt_mem hk)) (Nat.le_refl _)
    have hat := atTo_lt (n := rows.length) (by omega) (zs := head) (fun k hk => hh.1 _ (gt_mem hk)) (Nat.le_refl _)
    have hgb := mapP_bd hP (atTo head head.length) 0 hat (by omega)
    have hu0 := hu
    obtain ⟨Au, cu, rfl, _⟩ := hu
    obtain ⟨b, off, n1, rb, ro, rc, e1, hrow, hcell⟩ : ∃ (b off : Nat) (n1 : Nat) (rb ro rc : Nat → Nat), A = some ⟨b, off, none⟩ ∧ (∀ y, y < rows.length → w.cell? ⟨b, off + y, none⟩ = some (.slice (some ⟨rb y, ro y, none⟩) rows.length (rc y))) ∧ (∀ y x, y < rows.length → x < rows.length → w.cell? ⟨rb y, ro y + x, none⟩ = some (.int .i64 (g2 rows y x))) := by
      have hq := (hd.below hb).sq rfl (fun y hy => hP.2.1 y hy) (by omega)
      obtain ⟨b, off, c', rb, ro, rc, e, h1, h2⟩ := hq
      injection e with e1 e2 e3
      exact ⟨b, off, c', rb, ro, rc, e1, h1, h2⟩
    subst e1
    have k1 := hrow _ hat
    have k2 := hcell _ 0 hat (by omega)
    rw [Nat.add_zero] at k2
    have hlb : b < w.heap.size := block_lt_of_cell k1
    have hlr : rb (atTo head head.length) < w.heap.size := block_lt_of_cell k2
    have hati : (atTo head head.length : Int) < (rows.length : Int) := by omega
    have hr0 : 0 < rows.length := by omega
    have HU := hide hu0
    clear hu0 hrow hcell hd hb hat
    generalize atTo head head.length = t at *
    generalize wayTo rows head head.length = wy at *
    generalize g2 rows t 0 = gg at *
    generalize rb t = b1 at *
    generalize ro t = o1 at *
    generalize rc t = c1 at *
    go_enter Try.func45, Try.ntmps45
    go_wp2_with fail
    have w1' : IntKind.i64.wrap (wy + gg) = wy + gg := IntWalk.i64_in _ (by omega)
    go_region_held3 (fun w' => w'.cell? ⟨b, off + t, none⟩ = some (.slice (some ⟨b1, o1, none⟩) rows.length c1) ∧ w'.cell? ⟨b1, o1, none⟩ = some (.int .i64 gg))
      (first
        | go_keep
        | (go_split_ands
           refine ⟨?_, ?_⟩
           · (rw [hgrow.cell_far _ (by simp; omega) (by simp [Value.ownBlock]; omega)]; assumption)
           · (rw [hgrow.cell_far _ (by simp; omega) (by simp [Value.ownBlock]; omega)]; assumption)))
      ((refine step_joinI (by rfl) _ _ (by rfl) _ w.heap.size _ [] _ head (by rfl) (by rfl) (OwI.made0 w) (HU.out.below (Nx.drew (Nx.made w _))) (by simp; omega) (by simp) ?_; intro v1 w1 hown1 hgrow hat1))
    clear w1'
    have hNX : Nx w w1 := Nx.grownG (Nx.drew (Nx.made w _)) hgrow (Nat.le_refl _)
    have HO := hide hown1
    clear hgrow hown1 hat1
    go_wp2
    go_ret2
    exact ⟨v1, by rw [hsrch.out]; rfl, by rw [hsrch.out]; exact HO.out, hNX⟩
  | succ f ih =>
    intro head u w hh hlen hu hb
    have e0 : ((head.length : Int) == (rows.length : Int) - 1) = false := by simp; omega
    have hol : head.length ≤ 1048576 := by omega
    have hway := wayTo_bd (rows := rows) (zs := head) (by omega) (mapP_bd hP) (fun k hk => hh.1 _ (gt_mem hk)) (Nat.le_refl _)
    have hat := atTo_lt (n := rows.length) (by omega) (zs := head) (fun k hk => hh.1 _ (gt_mem hk)) (Nat.le_refl _)
    have hu0 := hu
    obtain ⟨Au, cu, rfl, _⟩ := hu
    obtain ⟨b, off, rb, ro, rc, e1, hb0, hrow, hcell⟩ : ∃ (b off : Nat) (rb ro rc : Nat → Nat), A = some ⟨b, off, none⟩ ∧ b < w.heap.size ∧ (∀ y, y < rows.length → w.cell? ⟨b, off + y, none⟩ = some (.slice (some ⟨rb y, ro y, none⟩) rows.length (rc y))) ∧ (∀ y x, y < rows.length → x < rows.length → w.cell? ⟨rb y, ro y + x, none⟩ = some (.int .i64 (g2 rows y x))) := by
      have hq := (hd.below hb).sq rfl (fun y hy => hP.2.1 y hy) (by omega)
      obtain ⟨b, off, c', rb, ro, rc, e, h1, h2⟩ := hq
      injection e with e1 e2 e3
      exact ⟨b, off, rb, ro, rc, e1, block_lt_of_cell (h1 0 (by omega)), h1, h2⟩
    subst e1
    have hati : (atTo head head.length : Int) < (rows.length : Int) := by omega
    have hr0 : 0 < rows.length := by omega
    have Hcell := hide (fun x (hx : x < rows.length) => hcell (atTo head head.length) x hat hx)
    have Hrow := hide (hrow (atTo head head.length) hat)
    have hlr : rb (atTo head head.length) < w.heap.size := block_lt_of_cell (hcell (atTo head head.length) 0 hat (by omega))
    have Hstep := hide (fun (t : Nat) => And.intro (foldB_skip (S := fun k => srch rows f (head ++ [(k : Int)])) (head := head) (st := none) (t := t)) (foldB_take (S := fun k => srch rows f (head ++ [(k : Int)])) (head := head) (st := none) (t := t)))
    have hres := hide (show srch rows (f + 1) head = (foldB (fun k => srch rows f (head ++ [(k : Int)])) head none (rows.length - 1)).getD ([], -1) from rfl)
    have hst0 := hide (show foldB (fun k => srch rows f (head ++ [(k : Int)])) head none 0 = none from rfl)
    have HU := hide hu0
    have HB := hide hb
    have HD := hide hd
    have HW := hide (fun (k : Nat) => wayTo_snoc rows head k)
    clear hu0 hrow hcell hd hb
    generalize atTo head head.length = t at *
    generalize wayTo rows head head.length = wy at *
    generalize rb t = b1 at *
    generalize ro t = o1 at *
    generalize rc t = c1 at *
    go_enter Try.func45, Try.ntmps45
    go_wp2_with fail
    generalize hS : (fun k : Nat => srch rows f (head ++ [(k : Int)])) = S at *
    have HS := hide hS
    clear hS
    go_loopw [10, 11, 12] (fun vq lq i wr => ∃ k : Nat, k + 1 ≤ rows.length ∧ i = .int .i64 ((k : Int) + 1) ∧ lq = .int .i64 ((foldB S head none k).getD ([], -1)).2 ∧ OwI wr w.heap.size vq ((foldB S head none k).getD ([], -1)).1 ∧ Nx w wr) (fun _ _ i _ => rows.length - (intOf i).toNat)
    case atStart => exact ⟨0, by omega, rfl, by rw [hst0.out]; rfl, by rw [hst0.out]; exact OwI.made0 w, Nx.made w _⟩
    case round =>
      clear hst0
      obtain ⟨k, hk, rfl, rfl, hown, hbr⟩ := hrel
      have HO := hide hown
      have HR := hide hbr
      clear hown hbr
      by_cases hlt : k + 1 < rows.length
      · have hki : (k : Int) + 1 < (rows.length : Int) := by omega
        have HUr := hide (HU.out.below HR.out)
        have hm0 := hide (show takenTo head ((k : Int) + 1) 0 = false from rfl)
        go_wp2_with fail
        go_loopw [13, 14] (fun b i wq => ∃ j : Nat, j ≤ head.length ∧ i = .int .i64 (j : Int) ∧ b = .bool (takenTo head ((k : Int) + 1) j) ∧ wq = wr) (fun _ i _ => head.length - (intOf i).toNat)
        case atStart => exact ⟨0, Nat.zero_le _, rfl, by rw [hm0.out], (by first | trivial | rfl)⟩
        case round =>
          obtain ⟨j, hj, rfl, rfl, rfl⟩ := hrel
          by_cases hjl : j < head.length
          · obtain ⟨bu, ou, rfl, hbu, hcu⟩ := HUr.out.cells (by omega)
            have q1 := hcu j hjl
            have hji : (j : Int) < (head.length : Int) := by omega
            have hnx := hide (show takenTo head ((k : Int) + 1) (j + 1) = (takenTo head ((k : Int) + 1) j || decide (gt head j = (k : Int) + 1)) from rfl)
            clear hcu
            cases ht : takenTo head ((k : Int) + 1) j with
            | true =>
              have hs := hide (show takenTo head ((k : Int) + 1) (j + 1) = true from by rw [hnx.out, ht]; rfl)
              clear ht
              go_wp2_with fail
              go_roundw
              case rel => exact ⟨j + 1, by omega, by go_num, by rw [hs.out], (by first | trivial | rfl)⟩
              case measure => simp [intOf]; omega
            | false =>
              by_cases he : gt head j = (k : Int) + 1
              · have he' : (gt head j == (k : Int) + 1) = true := by simpa using he
                have hs := hide (show takenTo head ((k : Int) + 1) (j + 1) = true from by rw [hnx.out, ht, decide_eq_true he]; rfl)
                clear ht he
                go_wp2_with fail
                go_roundw
                case rel => exact ⟨j + 1, by omega, by go_num, by rw [hs.out], (by first | trivial | rfl)⟩
                case measure => simp [intOf]; omega
              · have he' : (gt head j == (k : Int) + 1) = false := by simpa using he
                have hs := hide (show takenTo head ((k : Int) + 1) (j + 1) = false from by rw [hnx.out, ht, decide_eq_false he]; rfl)
                clear ht he
                go_wp2_with fail
                go_roundw
                case rel => exact ⟨j + 1, by omega, by go_num, by rw [hs.out], (by first | trivial | rfl)⟩
                case measure => simp [intOf]; omega
          · obtain rfl : j = head.length := by omega
            by_cases hmem : ((k + 1 : Nat) : Int) ∈ head
            · have ht : takenTo head ((k : Int) + 1) head.length = true := takenTo_mem.2 hmem
              have hst := hide ((Hstep.out k).1 hmem)
              rw [ht]
              clear hmem ht
              go_wp2_with fail
              go_roundw
              case rel => exact ⟨k + 1, by omega, by go_num, by rw [hst.out], by rw [hst.out]; exact HO.out, HR.out⟩
              case measure => simp [intOf]; omega
            · have ht : takenTo head ((k : Int) + 1) head.length = false := by
                rw [Bool.eq_false_iff]; exact fun h => hmem (takenTo_mem.1 h)
              have hst := hide ((Hstep.out k).2 hmem)
              have hhd := hide (HeadT.snoc hh (k := k + 1) (by omega) (by omega) hmem)
              have hll := hide (show (head ++ [((k + 1 : Nat) : Int)]).length + f = rows.length - 1 from by simp; omega)
              rw [ht]
              have hkp := fold_keeps hP hh hlen HS.out hlt hmem
              have hgb := mapP_bd hP t (k + 1) hat hlt
              have IH : Hid (∀ (u' : Value) (w' : World), RdI w' u' (head ++ [(k : Int) + 1]) → Nx w0 w' → Calls Try.prog 45 #[.slice (some ⟨b, off, none⟩) rows.length c, u', .int .i64 ((k : Int) + 1), .int .i64 (wy + g2 rows t (k + 1))] w' fun e w'' => ∃ r, e = .returned (.tuple #[r, .int .i64 (S (k + 1)).2]) ∧ OwI w'' w'.heap.size r (S (k + 1)).1 ∧ Nx w' w'') := by
                intro u' w' hu' hb'
                have h1 := ih _ u' w' hhd.out hll.out hu' hb'
                rw [atTo_snoc, HW.out] at h1
                have e : srch rows f (head ++ [((k + 1 : Nat) : Int)]) = S (k + 1) := by rw [← HS.out]
                rw [e] at h1
                exact h1
              have q1 := (HR.out.cells b (off + t) hb0).trans Hrow.out
              have q2 := (HR.out.cells b1 (o1 + (k + 1)) hlr).trans (Hcell.out (k + 1) hlt)
              have hb0r : b < wr.heap.size := Nat.lt_of_lt_of_le hb0 HR.out.size
              have hlrr : b1 < wr.heap.size := Nat.lt_of_lt_of_le hlr HR.out.size
              have HK := hide hkp
              clear hmem ht hkp hst hhd hll ih hm0 Hstep Hrow Hcell hlr hb0 hh hlen
              generalize g2 rows t (k + 1) = gg at *
              generalize (S (k + 1)) = Sk at *
              generalize (foldB S head none k).getD ([], -1) = p at *
              obtain ⟨p1, p2⟩ := p
              obtain ⟨s1, s2⟩ := Sk
              simp only [] at *
              go_wp2_with fail
              have w1' : IntKind.i64.wrap (wy + gg) = wy + gg := IntWalk.i64_in _ (by omega)
              have HS0 := hide (fun (w' : World) (bq : Nx wr w') => (⟨bq, (bq.cells b (off + t) hb0r).trans q1, (bq.cells b1 (o1 + (k + 1)) hlrr).trans q2⟩ : Nx wr w' ∧ w'.cell? ⟨b, off + t, none⟩ = some (.slice (some ⟨b1, o1, none⟩) rows.length c1) ∧ w'.cell? ⟨b1, o1 + (k + 1), none⟩ = some (.int .i64 gg)))
              have bq := Nx.drew (Below.refl wr.heap.size wr)
              have Bq := hide bq
              have Hz := hide HR.out.size
              have h0i : 0 ≤ (k : Int) + 1 := by omega
              have hti : ((k : Int) + 1).toNat = k + 1 := by omega
              have eA : (wr.alloc (.cells #[] 3)).heap.size = wr.heap.size + 1 := by simp
              have eB : (wr.alloc (.cells #[.int .i64 ((k : Int) + 1)] 3)).heap.size = wr.heap.size + 1 := by simp
              have NA := hide (Nx.drew (Nx.made wr (.cells #[] 3)))
              have NB := hide (Nx.drew (Nx.made wr (.cells #[.int .i64 ((k : Int) + 1)] 3)))
              have NAB := hide (Nx.drew ((Nx.made wr (.cells #[] 3)).trans (Nx.made (wr.alloc (.cells #[] 3)) (.cells #[.int .i64 ((k : Int) + 1)] 3))))
              have NBA := hide (Nx.drew ((Nx.made wr (.cells #[.int .i64 ((k : Int) + 1)] 3)).trans (Nx.made (wr.alloc (.cells #[.int .i64 ((k : Int) + 1)] 3)) (.cells #[] 3))))
              have FA := hide (show OwI (wr.alloc (.cells #[] 3)).drew wr.heap.size (.slice (some ⟨wr.heap.size, 0, none⟩) 0 0) [] from OwI.made0 wr)
              have FB1 := hide (show OwI ((wr.alloc (.cells #[] 3)).alloc (.cells #[.int .i64 ((k : Int) + 1)] 3)).drew wr.heap.size (.slice (some ⟨wr.heap.size, 0, none⟩) 0 0) [] from own_alloc (OwI.made0 wr) _)
              have FB2 := hide (show RdI ((wr.alloc (.cells #[] 3)).alloc (.cells #[.int .i64 ((k : Int) + 1)] 3)).drew (.slice (some ⟨wr.heap.size + 1, 0, none⟩) 1 1) [(k : Int) + 1] from by have := rd_one (wr.alloc (.cells #[] 3)) 3 ((k : Int) + 1); rw [eA] at this; exact this)
              have FC1 := hide (show OwI ((wr.alloc (.cells #[.int .i64 ((k : Int) + 1)] 3)).alloc (.cells #[] 3)).drew wr.heap.size (.slice (some ⟨wr.heap.size + 1, 0, none⟩) 0 0) [] from by have := (OwI.made0 (wr.alloc (.cells #[.int .i64 ((k : Int) + 1)] 3))).mono (B' := wr.heap.size) (by omega); rw [eB] at this; exact this)
              have FC2 := hide (show RdI ((wr.alloc (.cells #[.int .i64 ((k : Int) + 1)] 3)).alloc (.cells #[] 3)).drew (.slice (some ⟨wr.heap.size, 0, none⟩) 1 1) [(k : Int) + 1] from (rd_one wr 3 ((k : Int) + 1)).below (Nx.drew (Nx.made _ _)))
              clear eA eB q1 q2
              go_region_held3 (fun w' => Nx wr w' ∧ w'.cell? ⟨b, off + t, none⟩ = some (.slice (some ⟨b1, o1, none⟩) rows.length c1) ∧ w'.cell? ⟨b1, o1 + (k + 1), none⟩ = some (.int .i64 gg))
                (first | exact HS0.out _ bq | exact HS0.out _ Bq.out | exact HS0.out _ NA.out | exact HS0.out _ NB.out | exact HS0.out _ NAB.out | exact HS0.out _ NBA.out | exact HS0.out _ (Nx.trans (‹Nx wr _ ∧ _›.1) (Nx.made _ _)))
                (first
                  | (refine step_joinI (by rfl) _ _ (by rfl) _ wr.heap.size _ [] _ head (by rfl) (by rfl) FA.out (HU.out.below (HR.out.trans NA.out)) (by simp; omega) NA.out.size ?_; intro v1 w1 hown1 hgrow hat; have bq := NA.out.only FA.out hgrow (Nat.le_refl _))
                  | (refine step_joinI (by rfl) _ _ (by rfl) _ wr.heap.size _ [] _ head (by rfl) (by rfl) FB1.out (HU.out.below (HR.out.trans NAB.out)) (by simp; omega) NAB.out.size ?_; intro v1 w1 hown1 hgrow hat; have bq := NAB.out.only FB1.out hgrow (Nat.le_refl _); have hu1 := FB2.out.grown hgrow (by simp [Value.ownBlock]) (by simp <;> omega))
                  | (refine step_joinI (by rfl) _ _ (by rfl) _ wr.heap.size _ [] _ head (by rfl) (by rfl) FC1.out (HU.out.below (HR.out.trans NBA.out)) (by simp; omega) NBA.out.size ?_; intro v1 w1 hown1 hgrow hat; have bq := NBA.out.only FC1.out hgrow (Nat.le_refl _); have hu1 := FC2.out.grown hgrow (by simp [Value.ownBlock]) (by simp <;> omega))
                  | (refine step_joinI (by rfl) _ _ (by rfl) _ wr.heap.size _ head _ [(k : Int) + 1] (by rfl) (by rfl) hown1 hu1 (by simp; omega) (‹Nx wr _ ∧ _›.1).size ?_; intro v2 w2 hown2 hgrow2 hat2; have bq := (‹Nx wr _ ∧ _›.1).only hown1 hgrow2 (Nat.le_refl _))
                  | (refine step_joinI (by rfl) _ _ (by rfl) _ wr.heap.size _ head _ [(k : Int) + 1] (by rfl) (by rfl) (own_alloc hown1 (.cells #[.int .i64 ((k : Int) + 1)] 3)) (rd_one w1 3 ((k : Int) + 1)) (by simp; omega) (‹Nx wr _ ∧ _›.1).size ?_; intro v2 w2 hown2 hgrow2 hat2; have bq := (‹Nx wr _ ∧ _›.1).only (own_alloc hown1 (.cells #[.int .i64 ((k : Int) + 1)] 3)) hgrow2 (Nat.le_refl _))
                  | (go_at_call 45; refine (IH.out _ _ hown2.reads (HB.out.trans (HR.out.trans (‹Nx wr _ ∧ _›.1)))).mono ?_; rintro e w5 ⟨r, rfl, hor0, bn⟩; have bq := (‹Nx wr _ ∧ _›.1).trans bn; have hor := hor0.mono (Nat.le_trans Hz.out (‹Nx wr _ ∧ _›.1).size)))
              all_goals
                have hN := (‹Nx wr w5 ∧ _›).1
                have HR5 := hide (HR.out.trans hN)
                have Hor := hide hor
                have HO5 := hide (HO.out.below hN)
                clear hN hor hor0 bq bn hown1 hown2 hgrow hgrow2 hat hat2 w1' h0i hti
                by_cases h1 : p2 < 0
                · have hnx := hide (HK.out.1 (.inl h1))
                  go_wp2_with fail
                  go_roundw
                  case rel => exact ⟨k + 1, by omega, by go_num, by rw [hnx.out], by rw [hnx.out]; exact Hor.out, HR5.out⟩
                  case measure => simp [intOf]; omega
                · by_cases h2 : s2 < p2
                  · have hnx := hide (HK.out.1 (.inr h2))
                    go_wp2_with fail
                    go_roundw
                    case rel => exact ⟨k + 1, by omega, by go_num, by rw [hnx.out], by rw [hnx.out]; exact Hor.out, HR5.out⟩
                    case measure => simp [intOf]; omega
                  · have hnx := hide (HK.out.2 (fun h => h.elim h1 h2))
                    go_wp2_with fail
                    go_roundw
                    case rel => exact ⟨k + 1, by omega, by go_num, by rw [hnx.out], by rw [hnx.out]; exact HO5.out, HR5.out⟩
                    case measure => simp [intOf]; omega
      · have hke : k = rows.length - 1 := Nat.le_antisymm (by exact Nat.le_sub_one_of_lt hk) (by exact Nat.sub_le_of_le_add (Nat.le_of_not_lt hlt))
        subst hke
        have hki : ¬ ((rows.length - 1 : Nat) : Int) + 1 < (rows.length : Int) := by omega
        go_wp2_with fail
        go_ret2
        exact ⟨_, by rw [hres.out]; rfl, by rw [hres.out]; exact HO.out, HR.out⟩

set_option maxHeartbeats 2000000 in
theorem spec_BestTour (v : Value) (rows : List (List Int)) (w : World) (h : RdM w v rows) (hl : OkM rows) :
    Calls Try.prog 32 #[v] w fun e w' => ∃ u, e = .returned u ∧ OwI w' w.heap.size u (bestTour rows) ∧ Nx w w' := by
  have hv := h
  obtain ⟨A, c, rfl, hx⟩ := h
  clear hx
  cases hm : mapOk rows with
  | false =>
    have hf := hide (show bestTour rows = [] from by simp [bestTour, hm])
    go_enter Try.func32, Try.ntmps32
    go_wp2_with (go_at_call 17; fail)
    refine (spec_MapOk _ rows _ hv hl).mono ?_
    rintro e w1 ⟨rfl, b1⟩
    rw [hm]
    have HB := hide (b1.trans (Nx.made w1 (.cells #[] 3)))
    have HO := hide ((OwI.made0 w1).mono b1.size)
    clear b1
    go_wp2_with fail
    go_ret
    exact ⟨_, rfl, by rw [hf.out]; exact HO.out, HB.out⟩
  | true =>
    have hn := mapP_len (mapOk_iff.1 hm)
    have hbt := hide (show bestTour rows = (srch rows (rows.length - 1) []).1 from by unfold bestTour; rw [if_pos hm])
    go_enter Try.func32, Try.ntmps32
    go_wp2_with (go_at_call 17; fail)
    refine (spec_MapOk _ rows _ hv hl).mono ?_
    rintro e w1 ⟨rfl, b1⟩
    rw [hm]
    have HM := hide hm
    have HB := hide (b1.trans (Nx.made w1 (.cells #[] 3)))
    have HO := hide (OwI.made0 w1)
    have hz := b1.size
    clear b1 hm
    go_wp2_with (go_at_call 45; fail)
    refine (search_any hv HM.out (rows.length - 1) [] _ _ (headT_nil _) (by simp) HO.out.reads HB.out).mono ?_
    rintro e w2 ⟨r, rfl, ho, b2⟩
    have HB2 := hide (HB.out.trans b2)
    have HO2 := hide (ho.mono (B' := w.heap.size) (by simp; omega))
    clear ho b2
    go_wp2_with fail
    go_ret
    exact ⟨r, rfl, by rw [hbt.out]; exact HO2.out, HB2.out⟩
theorem BestTour_len (rows : List (List Int)) (_ : OkM rows) : (bestTour rows).length ≤ 1048576 := by
  cases hm : mapOk rows with
  | false => simp [bestTour, hm]
  | true =>
    have h := (best_ok hm).1.1
    have hn := mapP_len (mapOk_iff.1 hm)
    omega

end Go.Proofs.Ytemijekdcifncaa
