/- FirstCasting: the search of the reference. -/
import Derived.Test.YtfilpeamhcdgfaaCsW
import Derived.WalkKit
import Derived.ProofKit
import Derived.Handy
import Derived.OpenShut
import Derived.ShutString
import Derived.ChangeOld
import Derived.Below
import Derived.BigQuiet
import Derived.Deep.QuietTactic
import Derived.Deep.Draws
import Derived.Deep.DeepCutAuto
import Derived.Deep.DeepFit
import Derived.Deep.LoopGhost
import Derived.Outline
import Derived.WalkSpells
import Derived.WalkLawsBesides
import Derived.WalkSmall
import Derived.Laws.OwnMore
import Derived.OneCell
import Derived.Laws.Rows
import Derived.Maps.AppendAt
import Derived.StillTailTactics
import Derived.Lib.SmallJoins
import Derived.Deep.RegionWith
import Derived.Deep.RegionHeld3
import Derived.RegionTactic
import Derived.Deep.Matrix
import Derived.Deep.Fields
import Derived.ChangeSame
namespace Go.Proofs.Ytfilpeamhcdgfaa
open Go.RowKit

theorem OwN.below {w w' : World} {B n : Nat} {v : Value} {zs : List Int} (h : OwN w B v n zs) (hb : Nx w w') : OwN w' B v n zs := owns_below h hb
theorem grown_set (w : World) (g i : Nat) (u : Value) : w.grownBy (w.setCell ⟨g, i, none⟩ u) (some g) :=
  ⟨rfl, rfl, rfl, by simp, fun k _ hne => Below.heap_setCell w ⟨g, i, none⟩ u k (fun e => hne (by rw [e]))⟩
theorem grown_drewN (w : World) (n : Nat) (row : Option Nat) : w.grownBy (w.drewN n) row := ⟨rfl, rfl, rfl, Nat.le_refl _, fun _ _ _ => rfl⟩
theorem Nx.grownAt {a b c : World} {g : Nat} (h : Nx a b) (hg : b.grownBy c (some g)) (hB : a.heap.size ≤ g) : Nx a c := Below.grown h hg h.size (fun k hk => by injection hk with e; omega)
theorem Nx.toG {a b : World} (h : Nx a b) (row : Option Nat) : a.grownBy b row := ⟨h.os, h.tape, h.output, h.size, fun k hk _ => h.block k hk⟩
theorem gt_set_at {zs : List Int} {q p : Nat} (x : Int) (hq : q < zs.length) : gt (zs.set q x) p = if p = q then x else gt zs p := by
  by_cases e : p = q
  · subst e; rw [if_pos rfl, gt_set_same hq]
  · rw [if_neg e, gt_set_other e]
/-- free hands and loads. -/
def Hands (ps : List Plr) (fs ls : List Int) : Prop := fs.length = ps.length ∧ ls.length = ps.length ∧ ∀ p, p < ps.length → gt fs p = fr ps p - gt ls p ∧ 0 ≤ gt ls p ∧ gt ls p ≤ 2 ∧ 0 ≤ gt fs p ∧ gt fs p ≤ 2
theorem Hands.take {ps : List Plr} {fs ls : List Int} (h : Hands ps fs ls) (hok : playersOk ps = true) {q : Nat} (hq : q < ps.length) (h0 : 0 < gt fs q) : Hands ps (fs.set q (gt fs q - 1)) (ls.set q (gt ls q + 1)) := by
  obtain ⟨h1, h2, h3⟩ := h
  refine ⟨by rw [List.length_set, h1], by rw [List.length_set, h2], fun p hp => ?_⟩
  rw [gt_set_at _ (by omega), gt_set_at _ (by omega)]
  have h4 := h3 p hp
  have h5 := h3 q hq
  have h6 := (playersOk_iff.1 hok).1 q hq
  by_cases e : p = q
  · subst e
    rw [if_pos rfl, if_pos rfl]
    omega
  · rw [if_neg e, if_neg e]
    exact h4
set_option maxHeartbeats 4000000 in
theorem search_any {w0 : World} {ps : List Plr} {pu : List Int} {A Ap : Option Addr} {c cp : Nat} (hd : RdP w0 (.slice A ps.length c) ps) (hfit : FitP ps) (hok : playersOk ps = true) (hp : RdI w0 (.slice Ap pu.length cp) pu) (hpl : pu.length ≤ 1048576) {B gl cl : Nat} (hB : w0.heap.size ≤ B) :
    ∀ (f : Nat) (fs ls cs : List Int) (u : Value) (w : World), cs.length + f = pu.length → Hands ps fs ls → OwI w B u cs → u.ownBlock ≠ some gl → OwN w B (.slice (some ⟨gl, 0, none⟩) ps.length cl) ps.length ls → Nx w0 w →
      Calls Try.prog 38 #[.slice A ps.length c, .slice Ap pu.length cp, u, .slice (some ⟨gl, 0, none⟩) ps.length cl] w fun e w' => ∃ r, e = .returned (.tuple #[r, .bool (canF ps pu f fs)]) ∧ OwN w' B (.slice (some ⟨gl, 0, none⟩) ps.length cl) ps.length ls ∧ w.grownBy w' (some gl) := by
  intro f
  induction f with
  | zero =>
    intro fs ls cs u w hk hH hu hne hL hb
    have hcan := hide (show canF ps pu 0 fs = true from rfl)
    have hu0 := hu.reads
    obtain ⟨Au, cu, rfl, _⟩ := hu.reads
    have e0 : ((cs.length : Int) == (pu.length : Int)) = true := by simp; omega
    have hcl : cs.length ≤ 1048576 := by omega
    have ho := OwI.made0 w
    have hb1 := Nx.made w (.cells #[] 3)
    have hu1 := hu0.below hb1
    have HL := hide (hL)
    clear hk hH hu hL hu0 hd hp hne
    go_enter Try.func38, Try.ntmps38
    go_wp2_with (at_builtin; refine wpList_joinI rfl (.tmp 20) (.tmp 21) rfl _ w.heap.size _ [] _ cs rfl rfl ho hu1 (by simp; omega) (by simp) ?_; intro v1 w1 hown1 hg1 hat1; have HB1 := hide (hb1.only ho hg1 (Nat.le_refl _)); clear hown1 hg1 hat1)
    go_ret2
    exact ⟨_, by rw [hcan.out]; rfl, HL.out.below HB1.out, HB1.out.toG _⟩
  | succ f ih =>
    intro fs ls cs u w hk hH hu hne hL hb
    have hfrow := hide (fun i hi => hfit.row (k := i) hi)
    have Hcan := hide (canF_succ ps pu f fs)
    have Htake := hide (fun q (hq : q < ps.length) => canF_take (pu := pu) (f := f) (fs := fs) hq)
    have Hto := hide (fun q => show canTo ps pu f fs (q + 1) = (canTo ps pu f fs q || (decide (0 < gt fs q) && decide (gt pu (pu.length - (f + 1)) ∈ kn ps q) && canF ps pu f (fs.set q (gt fs q - 1)))) from rfl)
    have hpk : pu.length - (f + 1) = cs.length := by omega
    rw [hpk] at Hto
    have hto0 := hide (show canTo ps pu f fs 0 = false from rfl)
    have hu0 := hu.reads
    obtain ⟨Au, cu, rfl, _⟩ := hu.reads
    have e0 : ((cs.length : Int) == (pu.length : Int)) = false := by simp; omega
    obtain ⟨b1, off1, rfl, hb1, hcp⟩ := hp.cells (by omega)
    have hx := hide (hcp cs.length (by omega))
    have Hd := hide hd
    have HH := hide hH
    have Hk := hide hk
    have Hok := hide hok
    have hkp : (cs.length : Int) < (pu.length : Int) := by omega
    have hkc : cs.length ≤ 1048576 := by omega
    have hpsl := hfit.1
    have HU := hide hu
    have HL := hide hL
    have HB := hide hb
    have Hne := hide hne
    clear hu hcp hp hd hpk hk hH hL hb hu0 hne hok
    go_enter Try.func38, Try.ntmps38
    go_wp2_with fail
    clear e0
    go_loopw [11] (fun i wr => ∃ q : Nat, q ≤ ps.length ∧ i = .int .i64 (q : Int) ∧ Hid (canTo ps pu f fs q = false) ∧ OwN wr B (.slice (some ⟨gl, 0, none⟩) ps.length cl) ps.length ls ∧ w.grownBy wr (some gl)) (fun i _ => ps.length - (intOf i).toNat)
    case atStart => exact ⟨0, Nat.zero_le _, rfl, hto0.out, HL.out, World.grownBy.refl _ _⟩
    case round =>
      clear HL hto0
      obtain ⟨q, hq, rfl, hno, hL, hg⟩ := hrel
      have HL := hide hL
      have HG := hide hg
      have HBr := hide (HB.out.grownAt hg (Nat.le_trans hB hL.block.1))
      by_cases hlt : q < ps.length
      · obtain ⟨b0, off, rfl, hb0, hc⟩ := Hd.out.cells (by omega)
        obtain ⟨⟨A1, c1, hk0, hrk⟩, hf0⟩ := hc q hlt
        have q0 := (HBr.out.cells b0 (off + q * 2) hb0).trans hk0
        have q1 := (HBr.out.cells b0 (off + q * 2 + 1) hb0).trans hf0
        have q2 := hL.cellAt hlt
        have q3 := (HBr.out.cells b1 (off1 + cs.length) hb1).trans hx.out
        have hqi : (q : Int) < (ps.length : Int) := by omega
        have hHq := HH.out.2.2 q hlt
        have Hrk := hide (hrk.below HBr.out)
        have HUr := hide (OwI.kept HU.out hg (.inr Hne.out))
        have hfx := HH.out.1
        clear hL hg hc hk0 hrk hf0
        by_cases hle : fr ps q ≤ gt ls q
        · have R : Hid (canTo ps pu f fs (q + 1) = false) := by
            have := Hto.out q
            rw [hno.out, decide_eq_false (show ¬ (0 < gt fs q) by omega)] at this
            simpa [Hid] using this
          have hdec : decide (fr ps q ≤ gt ls q) = true := decide_eq_true hle
          clear hle hHq
          generalize fr ps q = F at *
          generalize gt ls q = L at *
          go_wp2_with fail
          go_quiet (fail)
          have HL2 := hide (HL.out.below (Nx.drewN (Below.refl _ _) nq))
          have HG2 := hide (grownBy_trans HG.out (grown_drewN _ nq _))
          clear q0 q1 q2 q3 hdec
          go_wp2
          go_roundw
          case rel => exact ⟨q + 1, by omega, by go_num, R, HL2.out, HG2.out⟩
          case measure => simp [intOf]; omega
        · have hdec : decide (fr ps q ≤ gt ls q) = false := decide_eq_false hle
          go_wp2_with fail
          go_still_tail 19, (by kernel_rfl)
          change wpList _ _ _ _ _ wr.drew
          have HL2 := hide (HL.out.below (Nx.drew (Below.refl _ _)))
          have HG2 := hide (grownBy_trans HG.out ((Nx.drew (Below.refl wr.heap.size wr)).toG (some gl)))
          have HB2 := hide (Nx.drew HBr.out)
          have HU2 := hide (HUr.out.below (Nx.drew (Below.refl _ _)))
          have Hrk2 := hide (Hrk.out.below (Nx.drew (Below.refl _ _)))
          clear q0 q1 q2 q3 hdec HL HG HBr HUr Hrk
          generalize wr.drew = w2 at HL2 HG2 HB2 HU2 Hrk2 ⊢
          have HX := hide hx.out
          go_wp2_with (go_at_call 53; fail)
          refine (l13Knows_any _ _ (kn ps q) (fr ps q) (gt pu cs.length) w2 Hrk2.out (hfrow.out q hlt)).mono ?_
          rintro e w3 ⟨rfl, b3⟩
          have HL3 := hide (HL2.out.below b3)
          have HG3 := hide (grownBy_trans HG2.out (b3.toG _))
          have HB3 := hide (HB2.out.trans b3)
          have HU3 := hide (HU2.out.below b3)
          clear b3 HL2 HG2 HB2 HU2 Hrk2
          by_cases hin : gt pu cs.length ∈ kn ps q
          · have hin' : decide (gt pu cs.length ∈ kn ps q) = true := decide_eq_true hin
            rw [hin']
            have R : Hid (canTo ps pu f fs (q + 1) = canF ps pu f (fs.set q (gt fs q - 1))) := by
              have := Hto.out q
              rw [hno.out, decide_eq_true (show 0 < gt fs q by omega), hin'] at this
              simpa [Hid] using this
            have hfr2 := ((playersOk_iff.1 Hok.out).1 q hlt).2
            have HT := hide (HH.out.take Hok.out hlt (by omega))
            have hls := hide HH.out.2.1
            have kL := HL3.out.cellAt hlt
            have kfr := HL3.out.frozenAt q
            have HL4 := hide (HL3.out.stored q (gt ls q + 1)).1
            have HG4 := hide (grownBy_trans HG3.out (grown_set w3 gl q (.int .i64 (gt ls q + 1))))
            have HB4 := hide (HB3.out.grownAt (grown_set w3 gl q (.int .i64 (gt ls q + 1))) (Nat.le_trans hB HL3.out.block.1))
            have HU4 := hide (HU3.out.setFar Hne.out q (.int .i64 (gt ls q + 1)))
            clear hin hin' HG3 HB3 HU3 HL3
            generalize hL : gt ls q = L at *
            have HeL := hide hL
            clear hL
            go_upto_region 9 with (fail)
            clear kL kfr
            generalize World.setCell _ _ _ = w4 at HL4 HG4 HB4 HU4 ⊢
            have hBg := HL4.out.block
            have ho := OwI.made0 w4
            have hb1 := Nx.made w4 (.cells #[] 3)
            have hu1 := HU4.out.reads.below hb1
            have hc16 : cs.length ≤ 16777216 := by omega
            go_wp2_with (first
              | (at_builtin; refine wpList_joinI rfl (.tmp 62) (.tmp 63) rfl _ w4.heap.size _ [] _ cs rfl rfl ho hu1 (by simp; omega) (by simp) ?_; intro v5 w5 hown5 hg5 hat5; have HB5 := hide (hb1.only ho hg5 (Nat.le_refl _)); have hz5 := HB5.out.size; obtain ⟨Ar, cr, rfl, _⟩ := hown5.open_; clear hg5 hat5)
              | (at_builtin; refine wpList_push rfl (.tmp 64) (.tmp 66) rfl w5 w4.heap.size _ cs (q : Int) rfl rfl hown5 hc16 hz5 ?_; intro v6 w6 hown6 hg6 hat6; have HB6 := hide (HB5.out.only hown5 hg6 (Nat.le_refl _)); have HO6 := hide hown6; clear hg6 hat6 hown5 hown6)
              | (go_at_call 38; fail))
            clear ho hb1 hu1
            have hne6 : v6.ownBlock ≠ some gl := fun he => by have h1 := (own_lt HO6.out he).1; omega
            refine (ih (fs.set q (gt fs q - 1)) (ls.set q (L + 1)) (cs ++ [(q : Int)]) v6 w6 (by have := Hk.out; rw [List.length_append, List.length_singleton]; omega) HT.out (HO6.out.mono (by omega)) hne6 (HL4.out.below HB6.out) (HB4.out.trans HB6.out)).mono ?_
            rintro e w7 ⟨r, rfl, hL7, hg7⟩
            have HG7 := hide (grownBy_trans HG4.out (grownBy_trans (HB6.out.toG _) hg7))
            have k7 := hL7.cellAt hlt
            rw [gt_set_same (by rw [hls.out]; exact hlt)] at k7
            have kf7 := hL7.frozenAt q
            have hL8 := (hL7.stored q L).1
            rw [List.set_set, ← HeL.out, set_gt (by rw [hls.out]; exact hlt), HeL.out] at hL8
            have HL8 := hide hL8
            have HG8 := hide (grownBy_trans HG7.out (grown_set w7 gl q (.int .i64 L)))
            clear hL7 hg7 HG7 hL8 HO6 hne6 HB6 HB5 HB4 HL4 HG4 HU4 HeL
            have hcanq := hide (show canF ps pu f (fs.set q (gt fs q - 1)) = true → canF ps pu (f + 1) fs = true from fun h => Htake.out q hlt (R.out.trans h))
            cases hcf : canF ps pu f (fs.set q (gt fs q - 1)) with
            | true =>
              have hf := hide (hcanq.out hcf)
              clear hcf
              go_wp2_with fail
              go_ret2
              exact ⟨_, by rw [hf.out]; rfl, HL8.out, HG8.out⟩
            | false =>
              rw [hcf] at R
              clear hcf
              go_wp2_with fail
              go_roundw
              case rel => exact ⟨q + 1, by omega, by go_num, R, HL8.out, HG8.out⟩
              case measure => simp [intOf]; omega
          · have hin' : decide (gt pu cs.length ∈ kn ps q) = false := decide_eq_false hin
            rw [hin']
            have R : Hid (canTo ps pu f fs (q + 1) = false) := by
              have := Hto.out q
              rw [hno.out, hin'] at this
              simpa [Hid] using this
            clear hin hin'
            go_wp2_with fail
            go_roundw
            case rel => exact ⟨q + 1, by omega, by go_num, R, HL3.out, HG3.out⟩
            case measure => simp [intOf]; omega
      · obtain rfl : q = ps.length := by omega
        have hf := hide (show canF ps pu (f + 1) fs = false from by rw [Hcan.out]; exact hno.out)
        have HM := hide (And.intro (Nx.made wr (.cells #[] 3)) trivial)
        clear hL hg
        go_wp2_with fail
        go_ret2
        exact ⟨_, by rw [hf.out]; rfl, HL.out.below HM.out.1, grownBy_trans HG.out (HM.out.1.toG _)⟩

end Go.Proofs.Ytfilpeamhcdgfaa
