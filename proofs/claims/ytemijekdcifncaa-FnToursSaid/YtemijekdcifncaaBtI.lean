/- BestTour: the closure. -/
import Derived.Test.YtemijekdcifncaaBtV
import Derived.WalkKit
import Derived.ProofKit
import Derived.Handy
import Derived.OpenShut
import Derived.ShutString
import Derived.ChangeOld
import Derived.Below
import Derived.BigQuiet
import Derived.Deep.QuietTactic
import Derived.Deep.Draws
import Derived.Deep.DeepCutAuto
import Derived.Deep.DeepFit
import Derived.Deep.LoopGhost
import Derived.Outline
import Derived.WalkSpells
import Derived.WalkLawsBesides
import Derived.WalkSmall
import Derived.Laws.OwnMore
import Derived.OneCell
import Derived.Laws.Rows
import Derived.Maps.AppendAt
import Derived.StillTailTactics
import Derived.Lib.SmallJoins
import Derived.Deep.RegionWith
import Derived.Deep.RegionHeld3
import Derived.RegionTactic
import Derived.Deep.Matrix
import Derived.Deep.Fields
import Derived.ChangeSame
namespace Go.Proofs.Ytemijekdcifncaa
open Go.RowKit

set_option maxHeartbeats 4000000 in
theorem visit_any {w0 : World} {rows : List (List Int)} {A : Option Addr} {c : Nat} (hd : RdM w0 (.slice A rows.length c) rows) (hl : OkM rows) (hm : mapOk rows = true) {B gD gB gL gO gR : Nat} (hOB : gO ≠ gB) (hB : w0.heap.size ≤ B) (hD : w0.heap.size ≤ gO) (hBb : w0.heap.size ≤ gB) (hLb : w0.heap.size ≤ gL) :
    ∀ (f : Nat) (own : List Int) (st : Option (List Int × Int)) (w : World) (vo vb : Value) (l : Int), HeadT rows.length own → own.length + f = rows.length - 1 → VI w0 w B gD gB gL gO gR (.slice A rows.length c) own st vo vb l → B ≤ w.heap.size →
      Calls Try.prog 43 #[ptr gO, ptr gD, ptr gB, ptr gL, ptr gR] w fun e w' => e = .returned (.tuple #[]) ∧ ∃ vo' vb' l', VI w0 w' B gD gB gL gO gR (.slice A rows.length c) own (combB st (srch rows f own)) vo' vb' l' := by
  have hn := mapP_len (mapOk_iff.1 hm)
  intro f
  induction f with
  | zero =>
    intro own st w vo vb l hh hlen hV hBw
    have hT : TourT rows.length own := ⟨by omega, hh⟩
    have hbd := lenT_bd (mapOk_iff.1 hm) hh
    have hsrch := hide (show srch rows 0 own = (own, lenT rows own) from rfl)
    have htl := hide (tourLen_T hm hT)
    have e0 : ((own.length : Int) == (rows.length : Int) - 1) = true := by simp; omega
    have hol : own.length ≤ 1048576 := by omega
    have hpos : 0 < own.length := by omega
    obtain ⟨Ao, co, rfl, _⟩ := hV.ow.reads
    have kO : w.cell? ⟨gO, 0, none⟩ = some (.slice Ao own.length co) := hV.bO.cell 0
    have kD : w.cell? ⟨gD, 0, none⟩ = some (.slice A rows.length c) := hV.bD.cell 0
    have HV := hide hV
    clear hV hlen
    go_enter Try.func43, Try.ntmps43
    go_wp2_with (go_at_call 27; fail)
    refine (impl_TourLength _ rows _ own w (hd.below HV.out.nx) hl HV.out.ow.reads hol).mono ?_
    rintro e w1 ⟨rfl, b1⟩
    rw [htl.out]
    have HV1 := hide (HV.out.below b1)
    have hBw1 : B ≤ w1.heap.size := Nat.le_trans hBw b1.size
    clear HV kO kD b1
    generalize lenT rows own = L at *
    have kO : w1.cell? ⟨gO, 0, none⟩ = some (.slice Ao own.length co) := HV1.out.bO.cell 0
    have kB : w1.cell? ⟨gB, 0, none⟩ = some vb := HV1.out.bB.cell 0
    have kL : w1.cell? ⟨gL, 0, none⟩ = some (.int .i64 l) := HV1.out.bL.cell 0
    rcases HV1.out.best with ⟨rfl, rfl⟩ | ⟨p, rfl, hbo, hbp, rfl, hbL, hba⟩
    · have hnil := fun W => nil_eql_nil W
      have hcb := hide (show combB none (srch rows 0 own) = some (own, L) from by rw [hsrch.out]; rfl)
      go_wp2_with (go_at_call 44; fail)
      refine (copyOf_any _ own w1 HV1.out.ow.reads hol).mono ?_
      rintro e w2 ⟨u, rfl, hu, b2⟩
      have hu1 := hide (hu.mono hBw1)
      have hunL : u.ownBlock ≠ some gL := fun he => by have h1 := (own_lt hu he).1; have h2 := HV1.out.bL.lt; omega
      have hap : Apart (.slice Ao own.length co) u := fun g h1 h2 => by have e1 := (own_lt hu h2).1; have e2 := (own_lt HV1.out.ow h1).2; omega
      have HV2 := hide (HV1.out.below b2)
      have R := hide (HV2.out.setBest hOB hBb hLb hu1.out hpos hunL hap L)
      have kB2 : w2.cell? ⟨gB, 0, none⟩ = some (.slice none 0 0) := HV2.out.bB.cell 0
      have kL2 : w2.cell? ⟨gL, 0, none⟩ = some (.int .i64 l) := HV2.out.bL.cell 0
      have kfB := HV2.out.bB.frozen 0
      have kfL := HV2.out.bL.frozen 0
      have kne := HV2.out.bB.ne_ HV2.out.bL (by decide)
      obtain ⟨Au, cu, rfl, _⟩ := hu.reads
      clear kO kB kL b2 hu hap
      go_wp2_with fail
      go_returns
      exact ⟨rfl, _, _, _, by rw [hcb.out]; exact R.out⟩
    · obtain ⟨gq, cq, rfl, _⟩ : ∃ gq cq, vb = .slice (some ⟨gq, 0, none⟩) p.1.length cq ∧ True := by
        rcases hbo.form with ⟨_, e⟩ | ⟨g, cap, e, _⟩
        · rw [e] at hbp; simp at hbp
        · exact ⟨g, cap, e, trivial⟩
      obtain ⟨T, q⟩ := p
      simp only [] at *
      clear hbo hba
      have hnil := fun W => some_eql_nil W ⟨gq, 0, none⟩ T.length cq
      by_cases hlt : L < q
      · have hcb := hide (show combB (some (T, q)) (srch rows 0 own) = some (own, L) from by rw [hsrch.out]; simp [combB, hlt])
        go_wp2_with (go_at_call 44; fail)
        refine (copyOf_any _ own w1 HV1.out.ow.reads hol).mono ?_
        rintro e w2 ⟨u, rfl, hu, b2⟩
        have hu1 := hide (hu.mono hBw1)
        have hunL : u.ownBlock ≠ some gL := fun he => by have h1 := (own_lt hu he).1; have h2 := HV1.out.bL.lt; omega
        have hap : Apart (.slice Ao own.length co) u := fun g h1 h2 => by have e1 := (own_lt hu h2).1; have e2 := (own_lt HV1.out.ow h1).2; omega
        have HV2 := hide (HV1.out.below b2)
        have R := hide (HV2.out.setBest hOB hBb hLb hu1.out hpos hunL hap L)
        have kB2 : w2.cell? ⟨gB, 0, none⟩ = some (.slice (some ⟨gq, 0, none⟩) T.length cq) := HV2.out.bB.cell 0
        have kL2 : w2.cell? ⟨gL, 0, none⟩ = some (.int .i64 q) := HV2.out.bL.cell 0
        have kfB := HV2.out.bB.frozen 0
        have kfL := HV2.out.bL.frozen 0
        have kne := HV2.out.bB.ne_ HV2.out.bL (by decide)
        obtain ⟨Au, cu, rfl, _⟩ := hu.reads
        clear kO kB kL b2 hu hap
        go_wp2_with fail
        go_returns
        exact ⟨rfl, _, _, _, by rw [hcb.out]; exact R.out⟩
      · have hcb := hide (show combB (some (T, q)) (srch rows 0 own) = some (T, q) from by rw [hsrch.out]; simp [combB, hlt])
        go_wp2_with fail
        go_returns
        exact ⟨rfl, _, _, _, by rw [hcb.out]; exact HV1.out⟩
  | succ f ih =>
    intro own st w vo vb l hh hlen hV hBw
    have e0 : ((own.length : Int) == (rows.length : Int) - 1) = false := by simp; omega
    have hol : own.length ≤ 1048576 := by omega
    have Hfold := hide (srch_fold (rows := rows) (f := f) (head := own) (st := st) (by omega))
    have Hstep := hide (fun (t : Nat) => And.intro (foldB_skip (S := fun k => srch rows f (own ++ [(k : Int)])) (head := own) (st := st) (t := t)) (foldB_take (S := fun k => srch rows f (own ++ [(k : Int)])) (head := own) (st := st) (t := t)))
    have Hlen := hide hlen
    obtain ⟨Ao, co, rfl, _⟩ := hV.ow.reads
    have kO : w.cell? ⟨gO, 0, none⟩ = some (.slice Ao own.length co) := hV.bO.cell 0
    have kD : w.cell? ⟨gD, 0, none⟩ = some (.slice A rows.length c) := hV.bD.cell 0
    have HV := hide hV
    have hst0 := hide (show foldB (fun k => srch rows f (own ++ [(k : Int)])) own st 0 = st from rfl)
    clear hV hlen
    go_enter Try.func43, Try.ntmps43
    go_wp2_with fail
    clear kO kD
    generalize hS : (fun k : Nat => srch rows f (own ++ [(k : Int)])) = S at *
    have HS := hide hS
    clear hS
    go_loopw [6] (fun i wr => ∃ k : Nat, k + 1 ≤ rows.length ∧ i = .int .i64 ((k : Int) + 1) ∧ B ≤ wr.heap.size ∧ ∃ vo vb l, VI w0 wr B gD gB gL gO gR (.slice A rows.length c) own (foldB S own st k) vo vb l) (fun i _ => rows.length - (intOf i).toNat)
    case atStart => exact ⟨0, by omega, rfl, hBw, _, _, _, by rw [hst0.out]; exact HV.out⟩
    case round =>
      clear HV hst0 hBw
      obtain ⟨k, hk, rfl, hBr, vo1, vb1, l1, hV⟩ := hrel
      obtain ⟨Ao1, co1, rfl, _⟩ := hV.ow.reads
      have kD : wr.cell? ⟨gD, 0, none⟩ = some (.slice A rows.length c) := hV.bD.cell 0
      by_cases hlt : k + 1 < rows.length
      · have hki : (k : Int) + 1 < (rows.length : Int) := by omega
        have kO : wr.cell? ⟨gO, 0, none⟩ = some (.slice Ao1 own.length co1) := hV.bO.cell 0
        have hix := idxL_neg (zs := own) (n := (k : Int) + 1)
        have HV := hide hV
        clear hV
        by_cases hmem : ((k + 1 : Nat) : Int) ∈ own
        · have hmem' : (k : Int) + 1 ∈ own := hmem
          have hneg : ¬ idxL own ((k : Int) + 1) < 0 := fun h => hix.1 h hmem'
          have hst := hide ((Hstep.out k).1 hmem)
          clear hix hmem hmem'
          go_wp2_with (go_at_call 37; refine (indexOf_any _ own _ _ HV.out.ow.reads hol).mono ?_; rintro e w' ⟨rfl, rfl⟩)
          go_roundw
          case rel => exact ⟨k + 1, by omega, by go_num, hBr, _, _, _, by rw [hst.out]; exact HV.out⟩
          case measure => simp [intOf]; omega
        · have hmem' : ¬ (k : Int) + 1 ∈ own := hmem
          have hneg : idxL own ((k : Int) + 1) < 0 := hix.2 hmem'
          have hst := hide ((Hstep.out k).2 hmem)
          have hhd := hide (HeadT.snoc hh (k := k + 1) (by omega) (by omega) hmem)
          have hll := hide (show (own ++ [((k + 1 : Nat) : Int)]).length + f = rows.length - 1 from by have := Hlen.out; simp; omega)
          clear hix hmem hmem'
          go_upto_region 8 with (go_at_call 37; refine (indexOf_any _ own _ _ HV.out.ow.reads hol).mono ?_; rintro e w' ⟨rfl, rfl⟩)
          have hx : ((k + 1 : Nat) : Int) = (k : Int) + 1 := rfl
          rw [hx] at hst hhd hll
          clear hx
          have hol2 : own.length ≤ 16777216 := by omega
          have kO1 : (wr.alloc (.cells #[.int .i64 ((k : Int) + 1)] 3)).cell? ⟨gO, 0, none⟩ = some (.slice Ao1 own.length co1) := (HV.out.bO.alloc _).cell 0
          go_upto_region 9 with (at_builtin; refine wpList_push rfl (.tmp 36) (.tmp 38) rfl wr B _ own ((k : Int) + 1) rfl rfl HV.out.ow hol2 hBr ?_; intro v1 w1 hown1 hg1 hat1; have hP := hide (HV.out.pushed hOB hD hB hown1 hg1 hat1); have hG := (HV.out.grown hg1 hB).1; have kO2 := hG.cell 0; have kO3 := hG.frozen 0; obtain ⟨g1, cap1, rfl, hcap1, hg1B, hg1l⟩ := hown1.snoc_form; have hBw2 := Nat.le_trans hg1B (Nat.le_of_lt hg1l); clear hown1 hg1 hat1 hG)
          have hB2 : B ≤ (w1.setCell ⟨gO, 0, none⟩ (.slice (some ⟨g1, 0, none⟩) (own.length + 1) cap1)).heap.size := by simpa using hBw2
          clear kO1 kO2 kO3 kO kD HV hBw2 hg1B hg1l hcap1 hBr
          generalize World.setCell _ _ _ = w2 at hP hB2 ⊢
          have kR : w2.cell? ⟨gR, 0, none⟩ = some (frV gO gD gB gL gR) := hP.out.bR.cell 0
          go_wp2_with (go_at_call 43; fail)
          refine (ih _ _ w2 _ _ _ hhd.out hll.out hP.out hB2).mono ?_
          rintro e w3 ⟨rfl, vo3, vb3, l3, hV3⟩
          rw [← hst.out] at hV3
          obtain ⟨g3, cap3, rfl, hcap3, hg3B, hg3l⟩ := hV3.ow.snoc_form
          have hcut := hide (hV3.setOwn hOB hD (hV3.ow.cut rfl) (by have := hV3.noL; simpa [Value.ownBlock] using this) (by
            rcases hV3.best with h | ⟨p, _, _, _, _, _, h⟩
            · exact .inl h.2
            · exact .inr (fun g hg => h g (by simpa [Value.ownBlock] using hg))))
          have hB3 : B ≤ w3.heap.size := by omega
          have q1 : w3.cell? ⟨gO, 0, none⟩ = some (.slice (some ⟨g3, 0, none⟩) (own.length + 1) cap3) := hV3.bO.cell 0
          have q2 := hV3.bO.frozen 0
          have q3 : own.length ≤ cap3 := by omega
          clear hP hB2 kR hV3 hg3B hg3l
          go_wp2_with fail
          go_roundw
          case rel => exact ⟨k + 1, by omega, by go_num, by simpa using hB3, _, _, _, hcut.out⟩
          case measure => simp [intOf]; omega
      · obtain rfl : k = rows.length - 1 := by omega
        have hki : ¬ ((rows.length - 1 : Nat) : Int) + 1 < (rows.length : Int) := by omega
        have HV := hide hV
        clear hV
        go_wp2_with fail
        go_returns
        exact ⟨rfl, _, _, _, by rw [← Hfold.out]; exact HV.out⟩

end Go.Proofs.Ytemijekdcifncaa
