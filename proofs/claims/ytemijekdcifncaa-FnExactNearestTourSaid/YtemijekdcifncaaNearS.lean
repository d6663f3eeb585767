/- NearestTour: spec. -/
import Derived.Test.YtemijekdcifncaaNearI
import Derived.WalkKit
import Derived.ProofKit
import Derived.Handy
import Derived.OpenShut
import Derived.ShutString
import Derived.ChangeOld
import Derived.Below
import Derived.BigQuiet
import Derived.Deep.QuietTactic
import Derived.Deep.Draws
import Derived.Deep.DeepCutAuto
import Derived.Deep.DeepFit
import Derived.Deep.LoopGhost
import Derived.Outline
import Derived.WalkSpells
import Derived.WalkLawsBesides
import Derived.WalkSmall
import Derived.Laws.OwnMore
import Derived.OneCell
import Derived.Laws.Rows
import Derived.Maps.AppendAt
import Derived.StillTailTactics
import Derived.Lib.SmallJoins
import Derived.Deep.RegionWith
import Derived.Deep.RegionHeld3
import Derived.RegionTactic
import Derived.Deep.Matrix
import Derived.Deep.Fields
import Derived.ChangeSame
namespace Go.Proofs.Ytemijekdcifncaa
open Go.RowKit

set_option maxRecDepth 100000 in
theorem chk7 : ((List.range 128).all fun s => (List.range 7).all fun k => decide (bits .and .i64 ((s : Int) / ((2 ^ k : Nat) : Int)) 1 = if s.testBit k then 1 else 0) && decide (bits .or .i64 (s : Int) ((2 ^ k : Nat) : Int) = ((s ||| 2 ^ k : Nat) : Int)) && decide (s ||| 2 ^ k < 128)) = true := by decide +kernel
theorem bit7 {s k : Nat} (hs : s < 128) (hk : k < 7) : bits .and .i64 ((s : Int) / ((2 ^ k : Nat) : Int)) 1 = (if s.testBit k then 1 else 0) ∧ bits .or .i64 (s : Int) ((2 ^ k : Nat) : Int) = ((s ||| 2 ^ k : Nat) : Int) ∧ s ||| 2 ^ k < 128 := by
  have := List.all_eq_true.1 (List.all_eq_true.1 chk7 s (List.mem_range.2 hs)) k (List.mem_range.2 hk)
  simp only [Bool.and_eq_true, decide_eq_true_eq] at this
  exact ⟨this.1.1, this.1.2, this.2⟩
/-- the bits of a set are 0 and the towns of a list. -/
def seenIs (S : Nat) (O : List Int) : Prop := ∀ k : Nat, S.testBit k = true ↔ (k = 0 ∨ (k : Int) ∈ O)
theorem seenIs_nil : seenIs 1 [] := fun k => by
  rw [show (1 : Nat) = 2 ^ 0 from rfl, Nat.testBit_two_pow]
  simp
  omega
theorem seenIs_add {S b : Nat} {O : List Int} (h : seenIs S O) : seenIs (S ||| 2 ^ b) (O ++ [(b : Int)]) := fun k => by
  rw [Nat.testBit_or, Bool.or_eq_true, Nat.testBit_two_pow, h k, List.mem_append, List.mem_singleton]
  constructor
  · rintro ((h | h) | h)
    · exact .inl h
    · exact .inr (.inl h)
    · right; right; have : b = k := by simpa using h
      omega
  · rintro (h | h | h)
    · exact .inl (.inl h)
    · exact .inl (.inr h)
    · right; have : b = k := by omega
      simpa using this
set_option maxRecDepth 100000 in
set_option maxHeartbeats 4000000 in
theorem spec_NearestTour (v : Value) (rows : List (List Int)) (w : World) (h : RdM w v rows) (hl : OkM rows) :
    Calls Try.prog 23 #[v] w fun e w' => ∃ u, e = .returned u ∧ OwI w' w.heap.size u (nearest rows) ∧ Nx w w' := by
  cases hg : mapOk rows with
  | false =>
    have hf := hide (show nearest rows = [] from by simp [nearest, hg])
    have ho0 := OwI.made0 w
    have hb0 : Nx w (w.alloc (.cells #[] 3)) := Nx.made w _
    have hbk := hide (spec_MapOk _ _ _ (h.below hb0) hl)
    go_enter Try.func23, Try.ntmps23
    go_wp2_with fail
    refine (hbk.out).mono ?_
    rintro e w1 ⟨rfl, b⟩
    have G := hide (And.intro (ho0.below b) (hb0.trans b))
    clear ho0 hb0 b
    go_wp2_with fail
    go_ret
    exact ⟨_, rfl, by rw [hf.out]; exact G.out.1, G.out.2⟩
  | true =>
    have hf := hide (show nearest rows = (nearTo (g2 rows) rows.length (rows.length - 1)).1 from by simp [nearest, hg])
    have hM := mapOk_iff.1 hg
    have hlen := mapP_len hM
    have hbd := hide (mapP_bd hM)
    have hr := h.sq rfl hM.2.1 (by omega)
    have ho0 := OwI.made0 w
    have hb0 : Nx w (w.alloc (.cells #[] 3)) := Nx.made w _
    have Hmap := hide (spec_MapOk _ _ _ (h.below hb0) hl)
    obtain ⟨b, off, c, rb, ro, rc, rfl, hrow, hcell⟩ := hr
    have Hrow := hide hrow
    have Hcell := hide hcell
    have Hok := hide (fun j (hj : j ≤ rows.length - 1) => nearTo_ok (g2 rows) (by omega : 2 ≤ rows.length) hj)
    have Hst := hide (fun j (hj : j < rows.length - 1) => nearTo_step (g2 rows) (by omega : 2 ≤ rows.length) hj)
    clear hrow hcell h hM
    go_enter Try.func23, Try.ntmps23
    go_wp2_with fail
    refine (Hmap.out).mono ?_
    rintro e w1 ⟨rfl, b1⟩
    have G := hide (And.intro (ho0.below b1) (hb0.trans b1))
    clear b1 ho0 hb0
    go_wp2_with fail
    clear hg
    go_loopw [3, 4, 5] (fun u sn q wr => ∃ j S : Nat, j ≤ rows.length - 1 ∧ sn = .int .i64 (S : Int) ∧ S < 128 ∧ Hid (seenIs S (nearTo (g2 rows) rows.length j).1) ∧ OwI wr w.heap.size u (nearTo (g2 rows) rows.length j).1 ∧ q = .int .i64 ((nearTo (g2 rows) rows.length j).2 : Int) ∧ Nx w wr) (fun u _ _ _ => rows.length - (match u with | .slice _ n _ => n | _ => 0))
    case atStart => exact ⟨0, 1, Nat.zero_le _, rfl, by omega, seenIs_nil, G.out.1, rfl, G.out.2⟩
    case round =>
      clear G
      obtain ⟨j, S, hj, rfl, hS, hseen, hown, rfl, hb⟩ := hrel
      have hok := Hok.out j hj
      have hlO : (nearTo (g2 rows) rows.length j).1.length ≤ 1048576 := by omega
      obtain ⟨wo, rfl⟩ : ∃ wo : World, wo = wr := ⟨_, rfl⟩
      have c1 := fun (y : Nat) (hy : y < rows.length) => (hb.cells b (off + y) (block_lt_of_cell (Hrow.out y hy))).trans (Hrow.out y hy)
      have c2 := fun (y x : Nat) (hy : y < rows.length) (hx : x < rows.length) => (hb.cells (rb y) (ro y + x) (block_lt_of_cell (Hcell.out y x hy hx))).trans (Hcell.out y x hy hx)
      have C1 := hide c1
      have C2 := hide c2
      clear c1 c2
      by_cases hlt : j < rows.length - 1
      · obtain ⟨bb, hnb, hb1, hb2, hstep⟩ := Hst.out j hlt
        have hlj : (nearTo (g2 rows) rows.length j).1.length = j := hok.1
        have hnow := hok.2.2
        have Hstep := hide hstep
        have Hnb := hide hnb
        have Hown := hide hown
        have Hb := hide hb
        have hrdo := hide (fun n => (OwI.reads hown : RdI (wo.drewN n) u3 _))
        obtain ⟨A3, c3, rfl, _, _⟩ := hown.open_
        rw [hlj] at hrdo Hown ⊢
        have hji : (j : Int) < (rows.length : Int) - 1 := by omega
        have Hlj := hide hlj
        clear hok hstep hnb hown hb hlj
        generalize (nearTo (g2 rows) rows.length j).2 = now at *
        generalize hO : (nearTo (g2 rows) rows.length j).1 = O at *
        have HO := hide hO
        clear hO
        go_wp2_with fail
        go_loopw [6, 7] (fun q t wr => ∃ k m : Nat, k ≤ rows.length ∧ t = .int .i64 k ∧ q = .int .i64 (bInt (nbTo (g2 rows) O now (k - 1))) ∧ wr = wo.drewN m) (fun _ t _ => rows.length - (intOf t).toNat)
        case atStart => exact ⟨0, 0, by omega, rfl, rfl, rfl⟩
        case round =>
          obtain ⟨k, m, hk, rfl, rfl, rfl⟩ := hrel
          by_cases hkn : k < rows.length
          · have hki : (k : Int) < (rows.length : Int) := by omega
            have hni : (now : Int) < (rows.length : Int) := by omega
            obtain ⟨P, hP⟩ : ∃ P : Nat, P = 2 ^ k := ⟨_, rfl⟩
            have hpk : (2 : Int) ^ k = (P : Int) := by rw [hP]; simp
            have hbit := (bit7 hS (k := k) (by omega)).1
            rw [← hP] at hbit
            clear hP
            have r1 := C1.out now hnow
            have r2 := C2.out now k hnow hkn
            by_cases hmem : k = 0 ∨ (k : Int) ∈ O
            · rw [(hseen.out k).2 hmem, if_pos rfl] at hbit
              have hs := hide (show nbTo (g2 rows) O now (k + 1 - 1) = nbTo (g2 rows) O now (k - 1) from by
                rcases hmem with rfl | hm
                · rfl
                · by_cases h0 : k = 0
                  · subst h0; rfl
                  · obtain ⟨k', rfl⟩ : ∃ k', k = k' + 1 := ⟨k - 1, by omega⟩
                    exact nbTo_skip hm)
              clear hmem
              go_wp2_with fail
              go_quiet (fail)
              go_wp2_with fail
              go_roundw
              case rel => exact ⟨k + 1, _, by omega, by go_num, by rw [hs.out], rfl⟩
              case measure => simp [intOf]; omega
            · have hbf : S.testBit k = false := by
                rw [Bool.eq_false_iff]
                exact fun ht => hmem ((hseen.out k).1 ht)
              rw [hbf, if_neg (by simp)] at hbit
              have hk0 : k ≠ 0 := fun e => hmem (.inl e)
              have hk1' : k - 1 + 1 = k := by omega
              have Hk1 := hide hk1'
              have Hmem := hide (fun h => hmem (.inr h))
              clear hmem hk1' hbf
              cases hq : nbTo (g2 rows) O now (k - 1) with
              | none =>
                have hs := hide (show nbTo (g2 rows) O now (k + 1 - 1) = some k from by
                  have := nbTo_first (d := g2 rows) (out := O) (now := now) (t := k - 1) (by rw [Hk1.out]; exact Hmem.out) hq
                  rw [Hk1.out] at this
                  exact this)
                rw [show bInt (none : Option Nat) = -1 from rfl]
                clear hq
                go_wp2_with fail
                go_quiet (fail)
                go_wp2_with fail
                go_roundw
                case rel => exact ⟨k + 1, _, by omega, by go_num, by rw [hs.out]; rfl, rfl⟩
                case measure => simp [intOf]; omega
              | some b' =>
                have hb' := nbTo_lt hq
                have hb'n : b' < rows.length := by omega
                have hb'i : (b' : Int) < (rows.length : Int) := by omega
                have r3 := C2.out now b' hnow hb'n
                have hd2 : decide ((b' : Int) < 0) = false := by simp
                rw [show bInt (some b') = (b' : Int) from rfl]
                by_cases hcmp : g2 rows now k < g2 rows now b'
                · have hs := hide (show nbTo (g2 rows) O now (k + 1 - 1) = some k from by
                    have := nbTo_take (d := g2 rows) (out := O) (now := now) (t := k - 1) (by rw [Hk1.out]; exact Hmem.out) hq (by rw [Hk1.out]; exact hcmp)
                    rw [Hk1.out] at this
                    exact this)
                  clear hq hb'
                  go_wp2_with fail
                  go_quiet (fail)
                  go_wp2_with fail
                  go_roundw
                  case rel => exact ⟨k + 1, _, by omega, by go_num, by rw [hs.out]; rfl, rfl⟩
                  case measure => simp [intOf]; omega
                · have hs := hide (show nbTo (g2 rows) O now (k + 1 - 1) = some b' from by
                    have := nbTo_leave (d := g2 rows) (out := O) (now := now) (t := k - 1) (by rw [Hk1.out]; exact Hmem.out) hq (by rw [Hk1.out]; exact hcmp)
                    rw [Hk1.out] at this
                    exact this)
                  clear hq hb'
                  go_wp2_with fail
                  go_quiet (fail)
                  go_wp2_with fail
                  go_roundw
                  case rel => exact ⟨k + 1, _, by omega, by go_num, by rw [hs.out]; rfl, rfl⟩
                  case measure => simp [intOf]; omega
          · obtain rfl : k = rows.length := by omega
            have hbest : bInt (nbTo (g2 rows) O now (rows.length - 1)) = (bb : Int) := by rw [Hnb.out]; rfl
            rw [hbest]
            have ho' : OwI (wo.drewN m) w.heap.size (.slice A3 j c3) O := Hown.out
            have hlO' : O.length ≤ 16777216 := by omega
            have hzz : w.heap.size ≤ (wo.drewN m).heap.size := Hb.out.size
            have HlO := hide (show O.length = j from Hlj.out)
            obtain ⟨P, hP⟩ : ∃ P : Nat, P = 2 ^ bb := ⟨_, rfl⟩
            have hpb : (2 : Int) ^ bb = (P : Int) := by rw [hP]; simp
            have hor := (bit7 hS (k := bb) (by omega)).2
            rw [← hP] at hor
            have hor1 := hor.1
            have Hor := hide hor.2
            have hP0 : 0 ≤ (P : Int) ∧ P ≤ 128 := ⟨by omega, by rw [hP]; exact (Nat.pow_le_pow_right (by omega) (by omega) : 2 ^ bb ≤ 2 ^ 7)⟩
            have Hsn := hide (seenIs_add (b := bb) hseen.out)
            rw [← hP] at Hsn
            clear hor hP
            clear hbest
            go_wp2_with (at_builtin; refine wpList_pushH rfl (.tmp 52) (.tmp 54) rfl (wo.drewN m) w.heap.size wo.heap.size rfl _ O (bb : Int) rfl rfl ho' hlO' hzz ?_; intro v2 w2 hown2 hg2 hat2)
            have hN2 : Nx w w2 := (Nx.drewN Hb.out m).only ho' hg2 (Nat.le_refl _)
            obtain ⟨A4, c4, e4, _, _⟩ := hown2.open_
            have e5 : v2 = .slice A4 (j + 1) c4 := by rw [e4, List.length_append, HlO.out]; rfl
            subst e5
            have G2 := hide (And.intro hown2 hN2)
            clear hown2 hN2 hg2 hat2 e4 ho'
            go_roundw
            case rel => exact ⟨j + 1, S ||| P, by omega, rfl, Hor.out, by rw [Hstep.out]; exact Hsn.out, by rw [Hstep.out]; exact G2.out.1, by rw [Hstep.out], G2.out.2⟩
            case measure => simp; omega
      · obtain rfl : j = rows.length - 1 := by omega
        have Hown := hide hown
        have Hb := hide hb
        obtain ⟨A3, c3, rfl, _, _⟩ := hown.open_
        rw [hok.1] at Hown ⊢
        have hji : ¬ ((rows.length - 1 : Nat) : Int) < (rows.length : Int) - 1 := by omega
        clear hok hown hb
        go_wp2_with fail
        go_ret
        exact ⟨_, rfl, by rw [hf.out]; exact Hown.out, Hb.out⟩

end Go.Proofs.Ytemijekdcifncaa
