/- NearestTour: impl. -/
import Derived.Test.YtemijekdcifncaaNearP
import Derived.Test.YtemijekdcifncaaMrk
import Derived.WalkKit
import Derived.ProofKit
import Derived.Handy
import Derived.OpenShut
import Derived.ShutString
import Derived.ChangeOld
import Derived.Below
import Derived.BigQuiet
import Derived.Deep.QuietTactic
import Derived.Deep.Draws
import Derived.Deep.DeepCutAuto
import Derived.Deep.DeepFit
import Derived.Deep.LoopGhost
import Derived.Outline
import Derived.WalkSpells
import Derived.WalkLawsBesides
import Derived.WalkSmall
import Derived.Laws.OwnMore
import Derived.OneCell
import Derived.Laws.Rows
import Derived.Maps.AppendAt
import Derived.StillTailTactics
import Derived.Lib.SmallJoins
import Derived.Deep.RegionWith
import Derived.Deep.RegionHeld3
import Derived.RegionTactic
import Derived.Deep.Matrix
import Derived.Deep.Fields
import Derived.ChangeSame
namespace Go.Proofs.Ytemijekdcifncaa
open Go.RowKit

/-- the first place of a number, -1 if there is none. -/
def idxL (zs : List Int) (n : Int) : Int := match (List.range zs.length).find? fun k => decide (gt zs k = n) with
  | some k => (k : Int)
  | none => -1
theorem idxL_at {zs : List Int} {n : Int} {k : Nat} (hk : k < zs.length) (h : gt zs k = n) (h2 : ∀ j, j < k → gt zs j ≠ n) : idxL zs n = k := by
  have : (List.range zs.length).find? (fun k => decide (gt zs k = n)) = some k := List.find?_range_eq_some.2 ⟨by simpa using h, by simpa using hk, fun j hj => by simpa using h2 j hj⟩
  unfold idxL
  rw [this]
theorem idxL_none {zs : List Int} {n : Int} (h2 : ∀ j, j < zs.length → gt zs j ≠ n) : idxL zs n = -1 := by
  have : (List.range zs.length).find? (fun k => decide (gt zs k = n)) = none := List.find?_range_eq_none.2 fun j hj => by simpa using h2 j hj
  unfold idxL
  rw [this]
theorem idxL_neg {zs : List Int} {n : Int} : idxL zs n < 0 ↔ ¬ n ∈ zs := by
  constructor
  · intro h hm
    obtain ⟨k, hk, e⟩ := mem_gt.1 hm
    unfold idxL at h
    cases hf : (List.range zs.length).find? (fun k => decide (gt zs k = n)) with
    | none =>
      have := List.find?_range_eq_none.1 hf k hk
      simp [e] at this
    | some j => rw [hf] at h; simp at h; omega
  · intro h
    rw [idxL_none fun j hj e => h (mem_gt.2 ⟨j, hj, e⟩)]
    omega
set_option maxHeartbeats 1000000 in
theorem indexOf_any (v : Value) (zs : List Int) (n : Int) (w : World) (h : RdI w v zs) (hl : zs.length ≤ 1048576) :
    Calls Try.prog 37 #[v, .int .i64 n] w fun e w' => e = .returned (.int .i64 (idxL zs n)) ∧ w = w' := by
  obtain ⟨A, c, rfl, hx⟩ := h
  go_enter Try.func37, Try.ntmps37
  go_wp2_with fail
  go_loop [9] (fun i => ∃ k : Nat, k ≤ zs.length ∧ i = .int .i64 k ∧ Hid (∀ j, j < k → gt zs j ≠ n)) (fun i => zs.length - (intOf i).toNat)
  case atStart => exact ⟨0, Nat.zero_le _, rfl, fun j hj => absurd hj (by omega)⟩
  case round =>
    obtain ⟨k, hk, rfl, hall⟩ := hrel
    by_cases hlt : k < zs.length
    · obtain ⟨b0, off, rfl, hb0, hc⟩ := hx (by omega)
      have hck := hc k hlt
      clear hc hx
      by_cases e : gt zs k = n
      · have hf := hide (idxL_at hlt e hall.out)
        have e1 : (gt zs k == n) = true := by simpa using e
        clear e
        go_wp2_with fail
        go_ret
        exact ⟨ret_int hf.out.symm, rfl⟩
      · have e1 : (gt zs k == n) = false := by simpa using e
        go_wp2_with fail
        go_round
        case rel => exact ⟨k + 1, by omega, by go_num, fun j hj => by
          rcases Nat.lt_or_ge j k with h | h
          · exact hall.out j h
          · obtain rfl : j = k := by omega
            exact e⟩
        case measure => simp [intOf]; omega
    · obtain rfl : k = zs.length := by omega
      have hf := hide (idxL_none hall.out)
      clear hx
      go_wp2_with fail
      go_ret
      exact ⟨ret_int hf.out.symm, rfl⟩
def bInt : Option Nat → Int
  | none => -1
  | some b => (b : Int)
set_option maxRecDepth 100000 in
set_option maxHeartbeats 4000000 in
theorem impl_NearestTour (v : Value) (rows : List (List Int)) (w : World) (h : RdM w v rows) (hl : OkM rows) :
    Calls Try.prog 24 #[v] w fun e w' => ∃ u, e = .returned u ∧ OwI w' w.heap.size u (nearest rows) ∧ Nx w w' := by
  cases hg : mapOk rows with
  | false =>
    have hf := hide (show nearest rows = [] from by simp [nearest, hg])
    go_enter Try.func24, Try.ntmps24
    go_wp2_with fail
    refine (impl_MapOk _ _ _ h hl).mono ?_
    rintro e w1 ⟨rfl, b⟩
    go_wp2_with fail
    go_ret
    exact ⟨_, rfl, by rw [hf.out]; exact OwI.nil _ _, b⟩
  | true =>
    have hf := hide (show nearest rows = (nearTo (g2 rows) rows.length (rows.length - 1)).1 from by simp [nearest, hg])
    have hM := mapOk_iff.1 hg
    have hlen := mapP_len hM
    have hbd := hide (mapP_bd hM)
    have hr := h.sq rfl hM.2.1 (by omega)
    have Hmap := hide (impl_MapOk _ _ _ h hl)
    obtain ⟨b, off, c, rb, ro, rc, rfl, hrow, hcell⟩ := hr
    have Hrow := hide hrow
    have Hcell := hide hcell
    have Hok := hide (fun j (hj : j ≤ rows.length - 1) => nearTo_ok (g2 rows) (by omega : 2 ≤ rows.length) hj)
    have Hst := hide (fun j (hj : j < rows.length - 1) => nearTo_step (g2 rows) (by omega : 2 ≤ rows.length) hj)
    clear hrow hcell h hM
    go_enter Try.func24, Try.ntmps24
    go_wp2_with fail
    refine (Hmap.out).mono ?_
    rintro e w1 ⟨rfl, b1⟩
    have Hb1 := hide b1
    have G := hide (And.intro ((OwI.made0 w1).mono b1.size) (b1.trans (Nx.made w1 (.cells #[] 3))))
    clear b1
    go_wp2_with fail
    clear hg
    go_loopw [3, 4] (fun u q wr => ∃ j : Nat, j ≤ rows.length - 1 ∧ OwI wr w.heap.size u (nearTo (g2 rows) rows.length j).1 ∧ q = .int .i64 ((nearTo (g2 rows) rows.length j).2 : Int) ∧ Nx w wr) (fun u _ _ => rows.length - (match u with | .slice _ n _ => n | _ => 0))
    case atStart => exact ⟨0, Nat.zero_le _, G.out.1, rfl, G.out.2⟩
    case round =>
      clear G
      obtain ⟨j, hj, hown, rfl, hb⟩ := hrel
      have hok := Hok.out j hj
      have hlO : (nearTo (g2 rows) rows.length j).1.length ≤ 1048576 := by omega
      obtain ⟨wo, rfl⟩ : ∃ wo : World, wo = wr := ⟨_, rfl⟩
      have c1 := fun (y : Nat) (hy : y < rows.length) => (hb.cells b (off + y) (block_lt_of_cell (Hrow.out y hy))).trans (Hrow.out y hy)
      have c2 := fun (y x : Nat) (hy : y < rows.length) (hx : x < rows.length) => (hb.cells (rb y) (ro y + x) (block_lt_of_cell (Hcell.out y x hy hx))).trans (Hcell.out y x hy hx)
      have C1 := hide c1
      have C2 := hide c2
      clear c1 c2
      by_cases hlt : j < rows.length - 1
      · obtain ⟨bb, hnb, hb1, hb2, hstep⟩ := Hst.out j hlt
        have hlj : (nearTo (g2 rows) rows.length j).1.length = j := hok.1
        have hnow := hok.2.2
        have Hstep := hide hstep
        have Hnb := hide hnb
        have Hown := hide hown
        have Hb := hide hb
        have hrdo := hide (fun n => (OwI.reads hown : RdI (wo.drewN n) u3 _))
        obtain ⟨A3, c3, rfl, _, _⟩ := hown.open_
        rw [hlj] at hrdo Hown ⊢
        have hji : (j : Int) < (rows.length : Int) - 1 := by omega
        have Hlj := hide hlj
        clear hok hstep hnb hown hb hlj
        generalize (nearTo (g2 rows) rows.length j).2 = now at *
        generalize hO : (nearTo (g2 rows) rows.length j).1 = O at *
        have HO := hide hO
        clear hO
        go_wp2_with fail
        go_loopw [5, 6] (fun q t wr => ∃ k m : Nat, 1 ≤ k ∧ k ≤ rows.length ∧ t = .int .i64 k ∧ q = .int .i64 (bInt (nbTo (g2 rows) O now (k - 1))) ∧ wr = wo.drewN m) (fun _ t _ => rows.length - (intOf t).toNat)
        case atStart => exact ⟨1, 0, Nat.le_refl _, by omega, rfl, rfl, rfl⟩
        case round =>
          obtain ⟨k, m, hk1, hk, rfl, rfl, rfl⟩ := hrel
          by_cases hkn : k < rows.length
          · have hki : (k : Int) < (rows.length : Int) := by omega
            have hni : (now : Int) < (rows.length : Int) := by omega
            have hk1' : k - 1 + 1 = k := by omega
            have Hk1 := hide hk1'
            have r1 := C1.out now hnow
            have r2 := C2.out now k hnow hkn
            clear hk1'
            by_cases hmem : (k : Int) ∈ O
            · have hx0 : ¬ idxL O (k : Int) < 0 := fun h => idxL_neg.1 h hmem
              have hd : decide (idxL O (k : Int) < 0) = false := by simpa using hx0
              have hs := hide (show nbTo (g2 rows) O now (k + 1 - 1) = nbTo (g2 rows) O now (k - 1) from by
                have := nbTo_skip (d := g2 rows) (out := O) (now := now) (t := k - 1) (by rw [Hk1.out]; exact hmem)
                rw [Hk1.out] at this
                exact this)
              clear hmem
              go_wp2_with fail
              go_quiet ((go_at_call 37; exact quiet_add_left (indexOf_any _ O _ _ (hrdo.out _) (by omega))))
              go_wp2_with fail
              go_roundw
              case rel => exact ⟨k + 1, _, by omega, by omega, by go_num, by rw [hs.out], rfl⟩
              case measure => simp [intOf]; omega
            · have hx0 : idxL O (k : Int) < 0 := idxL_neg.2 hmem
              have hd : decide (idxL O (k : Int) < 0) = true := by simpa using hx0
              have Hmem := hide hmem
              clear hmem
              cases hq : nbTo (g2 rows) O now (k - 1) with
              | none =>
                have hs := hide (show nbTo (g2 rows) O now (k + 1 - 1) = some k from by
                  have := nbTo_first (d := g2 rows) (out := O) (now := now) (t := k - 1) (by rw [Hk1.out]; exact Hmem.out) hq
                  rw [Hk1.out] at this
                  exact this)
                rw [show bInt (none : Option Nat) = -1 from rfl]
                clear hq
                go_wp2_with fail
                go_quiet ((go_at_call 37; exact quiet_add_left (indexOf_any _ O _ _ (hrdo.out _) (by omega))))
                go_wp2_with fail
                go_roundw
                case rel => exact ⟨k + 1, _, by omega, by omega, by go_num, by rw [hs.out]; rfl, rfl⟩
                case measure => simp [intOf]; omega
              | some b' =>
                have hb' := nbTo_lt hq
                have hb'n : b' < rows.length := by omega
                have hb'i : (b' : Int) < (rows.length : Int) := by omega
                have r3 := C2.out now b' hnow hb'n
                have hd2 : decide ((b' : Int) < 0) = false := by simp
                rw [show bInt (some b') = (b' : Int) from rfl]
                by_cases hcmp : g2 rows now k < g2 rows now b'
                · have hs := hide (show nbTo (g2 rows) O now (k + 1 - 1) = some k from by
                    have := nbTo_take (d := g2 rows) (out := O) (now := now) (t := k - 1) (by rw [Hk1.out]; exact Hmem.out) hq (by rw [Hk1.out]; exact hcmp)
                    rw [Hk1.out] at this
                    exact this)
                  clear hq hb'
                  go_wp2_with fail
                  go_quiet ((go_at_call 37; exact quiet_add_left (indexOf_any _ O _ _ (hrdo.out _) (by omega))))
                  go_wp2_with fail
                  go_roundw
                  case rel => exact ⟨k + 1, _, by omega, by omega, by go_num, by rw [hs.out]; rfl, rfl⟩
                  case measure => simp [intOf]; omega
                · have hs := hide (show nbTo (g2 rows) O now (k + 1 - 1) = some b' from by
                    have := nbTo_leave (d := g2 rows) (out := O) (now := now) (t := k - 1) (by rw [Hk1.out]; exact Hmem.out) hq (by rw [Hk1.out]; exact hcmp)
                    rw [Hk1.out] at this
                    exact this)
                  clear hq hb'
                  go_wp2_with fail
                  go_quiet ((go_at_call 37; exact quiet_add_left (indexOf_any _ O _ _ (hrdo.out _) (by omega))))
                  go_wp2_with fail
                  go_roundw
                  case rel => exact ⟨k + 1, _, by omega, by omega, by go_num, by rw [hs.out]; rfl, rfl⟩
                  case measure => simp [intOf]; omega
          · obtain rfl : k = rows.length := by omega
            have hbest : bInt (nbTo (g2 rows) O now (rows.length - 1)) = (bb : Int) := by rw [Hnb.out]; rfl
            rw [hbest]
            have ho' : OwI (wo.drewN m) w.heap.size (.slice A3 j c3) O := Hown.out
            have hlO' : O.length ≤ 16777216 := by omega
            have hzz : w.heap.size ≤ (wo.drewN m).heap.size := Hb.out.size
            have HlO := hide (show O.length = j from Hlj.out)
            clear hbest
            go_wp2_with (at_builtin; refine wpList_pushH rfl (.tmp 49) (.tmp 51) rfl (wo.drewN m) w.heap.size wo.heap.size rfl _ O (bb : Int) rfl rfl ho' hlO' hzz ?_; intro v2 w2 hown2 hg2 hat2)
            have hN2 : Nx w w2 := (Nx.drewN Hb.out m).only ho' hg2 (Nat.le_refl _)
            obtain ⟨A4, c4, e4, _, _⟩ := hown2.open_
            have e5 : v2 = .slice A4 (j + 1) c4 := by rw [e4, List.length_append, HlO.out]; rfl
            subst e5
            have G2 := hide (And.intro hown2 hN2)
            clear hown2 hN2 hg2 hat2 e4 ho'
            go_roundw
            case rel => exact ⟨j + 1, by omega, by rw [Hstep.out]; exact G2.out.1, by rw [Hstep.out], G2.out.2⟩
            case measure => simp; omega
      · obtain rfl : j = rows.length - 1 := by omega
        have Hown := hide hown
        have Hb := hide hb
        obtain ⟨A3, c3, rfl, _, _⟩ := hown.open_
        rw [hok.1] at Hown ⊢
        have hji : ¬ ((rows.length - 1 : Nat) : Int) < (rows.length : Int) - 1 := by omega
        clear hok hown hb
        go_wp2_with fail
        go_ret
        exact ⟨_, rfl, by rw [hf.out]; exact Hown.out, Hb.out⟩

end Go.Proofs.Ytemijekdcifncaa
