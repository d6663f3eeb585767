/- Castings: the closure. -/
import Derived.Test.YtfilpeamhcdgfaaCsW
import Derived.WalkKit
import Derived.ProofKit
import Derived.Handy
import Derived.OpenShut
import Derived.ShutString
import Derived.ChangeOld
import Derived.Below
import Derived.BigQuiet
import Derived.Deep.QuietTactic
import Derived.Deep.Draws
import Derived.Deep.DeepCutAuto
import Derived.Deep.DeepFit
import Derived.Deep.LoopGhost
import Derived.Outline
import Derived.WalkSpells
import Derived.WalkLawsBesides
import Derived.WalkSmall
import Derived.Laws.OwnMore
import Derived.OneCell
import Derived.Laws.Rows
import Derived.Maps.AppendAt
import Derived.StillTailTactics
import Derived.Lib.SmallJoins
import Derived.Deep.RegionWith
import Derived.Deep.RegionHeld3
import Derived.RegionTactic
import Derived.Deep.Matrix
import Derived.Deep.Fields
import Derived.ChangeSame
namespace Go.Proofs.Ytfilpeamhcdgfaa
open Go.RowKit

set_option maxHeartbeats 400000 in
theorem callback_any (K : CB) (A : Option Addr) (n c : Nat) (fd : Bool) (vu : Value) (w : World) (hU : Blk w K.u 23 #[vu]) (hB : Blk w K.b 4 #[.bool fd]) :
    Calls Try.prog 57 #[.slice A n c, ptr K.u, ptr K.b] w fun e w' => e = .returned (.bool false) ∧ w' = (w.setCell ⟨K.u, 0, none⟩ (.slice A n c)).setCell ⟨K.b, 0, none⟩ (.bool true) := by
  have q1 : w.cell? ⟨K.u, 0, none⟩ = some vu := hU.cell 0
  have q2 : w.cell? ⟨K.b, 0, none⟩ = some (.bool fd) := hB.cell 0
  have f1 := hU.frozen 0
  have f2 := hB.frozen 0
  have ne := hB.ne_ hU (by decide)
  clear hU hB
  go_enter Try.func57, Try.ntmps57
  go_wp2_with fail
  go_ret
  exact ⟨rfl, rfl⟩
set_option maxHeartbeats 4000000 in
theorem rest_any {w0 : World} {ps : List Plr} {pu : List Int} {A Ap : Option Addr} {c cp : Nat} (hd : RdP w0 (.slice A ps.length c) ps) (hfit : FitP ps) (hp : RdI w0 (.slice Ap pu.length cp) pu) (hpl : pu.length ≤ 1048576) {K : CB} (D : K.Ok w0.heap.size) {B gf cf : Nat} (hB : w0.heap.size ≤ B) :
    ∀ (f : Nat) (fs : List Int) (k : Nat) (w : World) (vo vu : Value), k + f = pu.length → fs.length = ps.length → (∀ p, p < ps.length → 0 ≤ gt fs p ∧ gt fs p ≤ 2) → CI w0 w B K (.slice Ap pu.length cp) (.slice A ps.length c) gf cf ps.length fs k false vo vu → B ≤ w.heap.size →
      Calls Try.prog 60 #[ptr K.o, ptr K.p, ptr K.c, ptr K.l, ptr K.f, ptr K.r] w fun e w' => e = .returned (.bool (!canF ps pu f fs)) ∧ ∃ vo' vu', CI w0 w' B K (.slice Ap pu.length cp) (.slice A ps.length c) gf cf ps.length fs k (canF ps pu f fs) vo' vu' := by
  intro f
  induction f with
  | zero =>
    intro fs k w vo vu hk hfl hfb hV hBw
    have hcan := hide (show canF ps pu 0 fs = true from rfl)
    obtain ⟨cs, rfl, how⟩ := hV.ow
    obtain ⟨Ao, co, rfl, _⟩ := how.reads
    have e0 : ((cs.length : Int) == (pu.length : Int)) = true := by simp; omega
    have hcl : cs.length ≤ 1048576 := by omega
    have kO : w.cell? ⟨K.o, 0, none⟩ = some (.slice Ao cs.length co) := hV.bO.cell 0
    have kP : w.cell? ⟨K.p, 0, none⟩ = some (.slice Ap pu.length cp) := hV.bP.cell 0
    have kC : w.cell? ⟨K.c, 0, none⟩ = some (cbV K) := hV.bC.cell 0
    have HV := hide hV
    have HR := hide (how.reads.below (Nx.drew (Below.refl _ _)))
    clear hV how hk hfl hfb hd hp
    go_enter Try.func60, Try.ntmps60
    go_wp2_with fail
    go_region_with (first
      | (go_at_call 54; refine (copyOf_any _ cs _ HR.out hcl).mono ?_; rintro e w1 ⟨u, rfl, hu, b⟩; have HV1 := hide (HV.out.below (Nx.trans_drew (Below.refl _ _) b)); have kC1 : w1.cell? ⟨K.c, 0, none⟩ = some (cbV K) := HV1.out.bC.cell 0; obtain ⟨Au, cu, rfl, _⟩ := hu.open_; clear hu b)
      | (go_at_call 57; refine (callback_any K Au cs.length cu _ _ _ HV1.out.bU HV1.out.bB).mono ?_; rintro e w2 ⟨rfl, rfl⟩))
    all_goals
      go_wp2_with fail
      go_ret
      exact ⟨by rw [hcan.out]; rfl, _, _, by rw [hcan.out]; exact HV1.out.found D _⟩
  | succ f ih =>
    intro fs k w vo vu hk hfl hfb hV hBw
    have hfrow := hide (fun i hi => hfit.row (k := i) hi)
    have Hcan := hide (canF_succ ps pu f fs)
    have Htake := hide (fun q (hq : q < ps.length) => canF_take (pu := pu) (f := f) (fs := fs) hq)
    have Hto := hide (fun q => show canTo ps pu f fs (q + 1) = (canTo ps pu f fs q || (decide (0 < gt fs q) && decide (gt pu (pu.length - (f + 1)) ∈ kn ps q) && canF ps pu f (fs.set q (gt fs q - 1)))) from rfl)
    have hpk : pu.length - (f + 1) = k := by omega
    rw [hpk] at Hto
    have hto0 := hide (show canTo ps pu f fs 0 = false from rfl)
    obtain ⟨cs, hcs, how⟩ := hV.ow
    obtain ⟨Ao, co, rfl, _⟩ := how.reads
    have e0 : ((cs.length : Int) == (pu.length : Int)) = false := by simp; omega
    obtain ⟨b1, off1, rfl, hb1, hcp⟩ := hp.cells (by omega)
    have hx := hide (hcp k (by omega))
    have kO : w.cell? ⟨K.o, 0, none⟩ = some (.slice Ao cs.length co) := hV.bO.cell 0
    have kP : w.cell? ⟨K.p, 0, none⟩ = some (.slice (some ⟨b1, off1, none⟩) pu.length cp) := hV.bP.cell 0
    have kL : w.cell? ⟨K.l, 0, none⟩ = some (.slice A ps.length c) := hV.bL.cell 0
    have HV := hide hV
    have Hd := hide hd
    have Hfl := hide hfl
    have Hfb := hide hfb
    have Hk := hide hk
    have hkp : (k : Int) < (pu.length : Int) := by omega
    have hkc : k ≤ 1048576 := by omega
    have hpsl := hfit.1
    clear hV how hcs hcp hp hd hfl hfb hpk hk
    go_enter Try.func60, Try.ntmps60
    go_wp2_with fail
    clear e0 kO kP kL
    go_loopw [21] (fun i wr => ∃ q : Nat, q ≤ ps.length ∧ i = .int .i64 (q : Int) ∧ B ≤ wr.heap.size ∧ Hid (canTo ps pu f fs q = false) ∧ ∃ vo vu, CI w0 wr B K (.slice (some ⟨b1, off1, none⟩) pu.length cp) (.slice A ps.length c) gf cf ps.length fs k false vo vu) (fun i _ => ps.length - (intOf i).toNat)
    case atStart => exact ⟨0, Nat.zero_le _, rfl, hBw, hto0.out, _, _, HV.out⟩
    case round =>
      clear HV hBw hto0
      obtain ⟨q, hq, rfl, hBr, hno, vo1, vu1, hV⟩ := hrel
      by_cases hlt : q < ps.length
      · obtain ⟨cs1, hcs1, how1⟩ := hV.ow
        obtain ⟨Ao1, co1, rfl, _⟩ := how1.reads
        rw [hcs1] at hV how1
        obtain ⟨b0, off, rfl, hb0, hc⟩ := Hd.out.cells (by omega)
        obtain ⟨⟨A1, c1, hk0, hrk⟩, hf0⟩ := hc q hlt
        have q0 := (hV.nx.cells b0 (off + q * 2) hb0).trans hk0
        have q1 := (hV.nx.cells b0 (off + q * 2 + 1) hb0).trans hf0
        have hqi : (q : Int) < (ps.length : Int) := by omega
        have HV := hide hV
        have Hrk := hide hrk
        have How := hide how1
        have Hcs := hide hcs1
        clear hV hc hk0 hrk hf0 how1 hcs1
        go_upto_region 6 with (fail)
        have bN := hide (Blk.new wr 44 #[.slice A1 (kn ps q).length c1, .int .i64 (fr ps q)])
        have HV1 := hide (HV.out.below (Nx.made wr (.cells #[.slice A1 (kn ps q).length c1, .int .i64 (fr ps q)] 44)))
        have How1 := hide (own_alloc How.out (.cells #[.slice A1 (kn ps q).length c1, .int .i64 (fr ps q)] 44))
        have hB1 : B ≤ (wr.alloc (.cells #[.slice A1 (kn ps q).length c1, .int .i64 (fr ps q)] 44)).heap.size := by simp; omega
        clear HV How q0 q1
        generalize World.alloc _ _ = w1 at bN HV1 How1 hB1 ⊢
        have kF : w1.cell? ⟨K.f, 0, none⟩ = some (.slice (some ⟨gf, 0, none⟩) ps.length cf) := HV1.out.bF.cell 0
        have kG := HV1.out.of.cellAt hlt
        have kN : w1.cell? ⟨wr.heap.size, 0, none⟩ = some (.slice A1 (kn ps q).length c1) := bN.out.cell 0
        have kP : w1.cell? ⟨K.p, 0, none⟩ = some (.slice (some ⟨b1, off1, none⟩) pu.length cp) := HV1.out.bP.cell 0
        have kO : w1.cell? ⟨K.o, 0, none⟩ = some (.slice Ao1 k co1) := HV1.out.bO.cell 0
        have kX := (HV1.out.nx.cells b1 (off1 + k) hb1).trans hx.out
        have hfq := Hfb.out q hlt
        have Hix := hide (fun n => indexOf_any (.slice A1 (kn ps q).length c1) (kn ps q) (gt pu k) (w1.drewN n) (Hrk.out.below (HV1.out.nx.trans (Nx.drewN (Below.refl _ _) n))) (hfrow.out q hlt))
        clear bN
        have Hidx := hide (idxL_neg (zs := kn ps q) (n := gt pu k))
        generalize hix : idxL (kn ps q) (gt pu k) = ix at *
        clear hix
        generalize hgq : gt fs q = y at *
        have Hgq := hide hgq
        generalize hgx : gt pu k = z at *
        have Hgx := hide hgx
        clear hgq hgx
        by_cases hy : y = 0
        · have R : Hid (canTo ps pu f fs (q + 1) = false) := by
            have := Hto.out q
            rw [hno.out, Hgq.out, decide_eq_false (show ¬ (0 < y) by omega)] at this
            simpa [Hid] using this
          subst hy
          go_quiet (fail)
          have HV2 := hide (HV1.out.below (Nx.drewN (Below.refl _ _) nq))
          clear kF kG kN kP kO kX
          go_wp2
          go_roundw
          case rel => exact ⟨q + 1, by omega, by go_num, hB1, R, _, _, HV2.out⟩
          case measure => simp [intOf]; omega
        · have hy0 : (y == 0) = false := by simpa using hy
          by_cases hi : ix < 0
          · have R : Hid (canTo ps pu f fs (q + 1) = false) := by
              have := Hto.out q
              rw [hno.out, decide_eq_false (Hidx.out.1 hi)] at this
              simpa [Hid] using this
            have hid : decide (ix < 0) = true := decide_eq_true hi
            go_quiet ((go_at_call 43; exact quiet_left (Hix.out _)))
            have HV2 := hide (HV1.out.below (Nx.drewN (Below.refl _ _) nq))
            clear kF kG kN kP kO kX
            go_wp2
            go_roundw
            case rel => exact ⟨q + 1, by omega, by go_num, hB1, R, _, _, HV2.out⟩
            case measure => simp [intOf]; omega
          · have hid : decide (ix < 0) = false := decide_eq_false hi
            go_quiet ((go_at_call 43; exact quiet_left (Hix.out _)))
            have HV2 := HV1.out.below (Nx.drewN (Below.refl _ _) nq)
            have How2 := OwI.below How1.out (Nx.drewN (Below.refl _ _) nq)
            have hB2 : B ≤ (w1.drewN nq).heap.size := hB1
            clear kF kG kN kP kO kX Hix
            generalize World.drewN w1 nq = w2 at HV2 How2 hB2 ⊢
            have R : Hid (canTo ps pu f fs (q + 1) = canF ps pu f (fs.set q (y - 1))) := by
              have := Hto.out q
              rw [hno.out, Hgq.out, decide_eq_true (show 0 < y by omega), decide_eq_true (Classical.byContradiction fun h => hi (Hidx.out.2 h))] at this
              simpa [Hid] using this
            have kF := HV2.bF.cell 0
            have kF : w2.cell? ⟨K.f, 0, none⟩ = some (.slice (some ⟨gf, 0, none⟩) ps.length cf) := HV2.bF.cell 0
            have kG := HV2.of.cellAt hlt
            rw [Hgq.out] at kG
            have kfr := HV2.of.frozenAt q
            have HV3 := hide (HV2.setFree hB q (y - 1))
            have How3 := hide (How2.setFar HV2.ap q (.int .i64 (y - 1)))
            have hB3 : B ≤ (w2.setCell ⟨gf, q, none⟩ (.int .i64 (y - 1))).heap.size := by simpa using hB2
            clear HV2 How2 hB2 HV1 How1 hB1 hid hy0
            go_upto_region 8 with (fail)
            clear kF kG kfr
            generalize World.setCell _ _ _ = w3 at HV3 How3 hB3 ⊢
            have hcl : cs1.length ≤ 16777216 := by have := Hcs.out; omega
            have kO0 : w3.cell? ⟨K.o, 0, none⟩ = some (.slice Ao1 k co1) := HV3.out.bO.cell 0
            have kO1 : (w3.alloc (.cells #[.int .i64 (q : Int)] 3)).cell? ⟨K.o, 0, none⟩ = some (.slice Ao1 k co1) := (HV3.out.bO.alloc _).cell 0
            go_upto_region 9 with (at_builtin; go_loud (refine wpList_push rfl (.tmp 48) (.tmp 50) rfl w3 B _ cs1 (q : Int) rfl rfl How3.out hcl hB3 ?_; intro v1 w4 hown1 hg1 hat1; have hP := hide (HV3.out.pushed D hB Hcs.out How3.out hown1 hg1 hat1); have hG := HV3.out.bO.grown hg1 (Ne.symm (own_ne_blk HV3.out.bO How3.out (by decide))); have kO2 := hG.cell 0; have kO3 := hG.frozen 0; obtain ⟨g1, cap1, rfl, hcap1, hg1B, hg1l⟩ := hP.out.form; clear hown1 hg1 hat1 hG))
            have hB5 : B ≤ (w4.setCell ⟨K.o, 0, none⟩ (.slice (some ⟨g1, 0, none⟩) (k + 1) cap1)).heap.size := by omega
            clear kO0 kO1 kO2 kO3 HV3 How3 hg1B hg1l hcap1 hB3
            generalize World.setCell _ _ _ = w5 at hP hB5 ⊢
            have kR : w5.cell? ⟨K.r, 0, none⟩ = some (rsV K) := hP.out.bR.cell 0
            go_wp2_with (go_at_call 60; fail)
            have hbd : ∀ p, p < ps.length → 0 ≤ gt (fs.set q (y - 1)) p ∧ gt (fs.set q (y - 1)) p ≤ 2 := fun p hp => by
              by_cases e : p = q
              · subst e
                rw [gt_set_same (by rw [Hfl.out]; exact hp)]
                omega
              · rw [gt_set_other e]
                exact Hfb.out p hp
            have hcanq := hide (show canF ps pu f (fs.set q (y - 1)) = true → canF ps pu (f + 1) fs = true from fun h => Htake.out q hlt (R.out.trans h))
            refine (ih (fs.set q (y - 1)) (k + 1) w5 _ _ (by have := Hk.out; omega) (by rw [List.length_set]; exact Hfl.out) hbd hP.out hB5).mono ?_
            rintro e w6 ⟨rfl, vo6, vu6, hV6⟩
            obtain ⟨g6, cap6, rfl, hcap6, hg6B, hg6l⟩ := hV6.form
            have hB6 : B ≤ w6.heap.size := by omega
            have q1 : w6.cell? ⟨K.o, 0, none⟩ = some (.slice (some ⟨g6, 0, none⟩) (k + 1) cap6) := hV6.bO.cell 0
            have q2 := hV6.bO.frozen 0
            have q3 : k ≤ cap6 := by omega
            have HV7 := hide (hV6.cut D)
            have hB7 : B ≤ (w6.setCell ⟨K.o, 0, none⟩ (.slice (some ⟨g6, 0, none⟩) k cap6)).heap.size := by simpa using hB6
            clear hbd hP hB5 kR hV6 hg6B hg6l
            go_upto_region 11 with (fail)
            clear q1 q2 q3 hcap6
            generalize World.setCell _ _ _ = w7 at HV7 hB7 ⊢
            have kF7 : w7.cell? ⟨K.f, 0, none⟩ = some (.slice (some ⟨gf, 0, none⟩) ps.length cf) := HV7.out.bF.cell 0
            have kG7 := HV7.out.of.cellAt hlt
            rw [gt_set_same (by rw [Hfl.out]; exact hlt)] at kG7
            have kfr7 := HV7.out.of.frozenAt q
            have HV8 := HV7.out.setFree hB q y
            rw [List.set_set, ← Hgq.out, set_gt (by rw [Hfl.out]; exact hlt), Hgq.out] at HV8
            have HV8 := hide HV8
            have hB8 : B ≤ (w7.setCell ⟨gf, q, none⟩ (.int .i64 y)).heap.size := by simpa using hB7
            clear HV7 hB7 Hgq
            cases hcf : canF ps pu f (fs.set q (y - 1)) with
            | true =>
              rw [hcf] at HV8
              have hf := hide (hcanq.out hcf)
              clear hcf
              go_wp2_with fail
              go_ret
              exact ⟨by rw [hf.out]; rfl, _, _, by rw [hf.out]; exact HV8.out⟩
            | false =>
              rw [hcf] at HV8 R
              clear hcf
              go_wp2_with fail
              go_roundw
              case rel => exact ⟨q + 1, by omega, by go_num, hB8, R, _, _, HV8.out⟩
              case measure => simp [intOf]; omega
      · obtain rfl : q = ps.length := by omega
        have hf := hide (show canF ps pu (f + 1) fs = false from by rw [Hcan.out]; exact hno.out)
        have HV := hide hV
        clear hV
        go_wp2_with fail
        go_ret
        exact ⟨by rw [hf.out]; rfl, _, _, by rw [hf.out]; exact HV.out⟩

end Go.Proofs.Ytfilpeamhcdgfaa
