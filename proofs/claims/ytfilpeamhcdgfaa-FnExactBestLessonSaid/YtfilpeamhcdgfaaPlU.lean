/- Players: lessons, spec. -/
import Derived.Test.YtfilpeamhcdgfaaPlS
import Derived.WalkKit
import Derived.ProofKit
import Derived.Handy
import Derived.OpenShut
import Derived.ShutString
import Derived.ChangeOld
import Derived.Below
import Derived.BigQuiet
import Derived.Deep.QuietTactic
import Derived.Deep.Draws
import Derived.Deep.DeepCutAuto
import Derived.Deep.DeepFit
import Derived.Deep.LoopGhost
import Derived.Outline
import Derived.WalkSpells
import Derived.WalkLawsBesides
import Derived.WalkSmall
import Derived.Laws.OwnMore
import Derived.OneCell
import Derived.Laws.Rows
import Derived.Maps.AppendAt
import Derived.StillTailTactics
import Derived.Lib.SmallJoins
import Derived.Deep.RegionWith
import Derived.Deep.RegionHeld3
import Derived.RegionTactic
import Derived.Deep.Matrix
import Derived.Deep.Fields
import Derived.ChangeSame
namespace Go.Proofs.Ytfilpeamhcdgfaa
open Go.RowKit

theorem RdI.takeS {w : World} {g c : Nat} {zs : List Int} (h : RdI w (.slice (some ⟨g, 0, none⟩) zs.length c) zs) {j : Nat} (hj : j ≤ zs.length) : RdI w (.slice (some ⟨g, 0, none⟩) j c) (zs.take j) := by
  have hl : (zs.take j).length = j := by rw [List.length_take]; omega
  refine ⟨some ⟨g, 0, none⟩, c, by rw [hl], fun h0 => ?_⟩
  rw [hl] at h0 ⊢
  obtain ⟨b, off, e, hb, hc⟩ := h.cells (by omega)
  refine ⟨b, off, e, hb, fun i hi => ?_⟩
  rw [hc i (by omega), gt_take hi]
theorem gt_drop {zs : List Int} {j i : Nat} : gt (zs.drop j) i = gt zs (j + i) := by unfold gt; simp
theorem RdI.dropS {w : World} {g c c' : Nat} {zs : List Int} (h : RdI w (.slice (some ⟨g, 0, none⟩) zs.length c) zs) {j : Nat} (hj : j ≤ zs.length) : RdI w (.slice (some ⟨g, j, none⟩) (zs.length - j) c') (zs.drop j) := by
  refine ⟨some ⟨g, j, none⟩, c', by rw [List.length_drop], fun h0 => ?_⟩
  rw [List.length_drop] at h0
  obtain ⟨b, off, e, hb, hc⟩ := h.cells (by omega)
  injection e with e
  injection e with e1 e2
  subst e1
  subst e2
  refine ⟨g, j, rfl, hb, fun i hi => ?_⟩
  rw [List.length_drop] at hi
  have := hc (j + i) (by omega)
  rw [Nat.zero_add] at this
  rw [this, gt_drop]
theorem rd_one (w : World) (T : TypeId) (x : Int) : RdI (w.alloc (.cells #[.int .i64 x] T)) (.slice (some ⟨w.heap.size, 0, none⟩) 1 1) [x] := by
  refine ⟨_, _, rfl, fun _ => ⟨_, _, rfl, by simp, fun j hj => ?_⟩⟩
  have : j = 0 := by simp at hj; omega
  subst this
  rw [Nat.zero_add, (Blk.new w T _).cell 0]
  rfl
theorem RdI.grown {w w' : World} {g n c : Nat} {zs : List Int} {row : Option Nat} (h : RdI w (.slice (some ⟨g, 0, none⟩) n c) zs) (hg : w.grownBy w' row) (hne : some g ≠ row) (hlt : g < w.heap.size) : RdI w' (.slice (some ⟨g, 0, none⟩) n c) zs := by
  obtain ⟨A, c', e, hx⟩ := h
  refine ⟨A, c', e, fun h0 => ?_⟩
  obtain ⟨b, off, rfl, hb, hc⟩ := hx h0
  injection e with e1 e2 e3
  injection e1 with e1
  injection e1 with e1 e4
  subst e1
  exact ⟨g, off, rfl, Nat.lt_of_lt_of_le hb hg.size, fun j hj => (World.cell?_of_block (hg.block g hlt hne)).trans (hc j hj)⟩
set_option maxHeartbeats 2000000 in
theorem spec_TeachPuppet (v : Value) (ps : List Plr) (k x : Int) (w : World) (B0 : Nat) (h0 : OwP w B0 v ps) (hl : FitP ps) (_ : I64 k) (_ : I64 x) :
    Calls Try.prog 46 #[v, .int .i64 k, .int .i64 x] w fun e w' => ∃ u, e = .returned (.tuple #[u, .bool (teachB ps k x)]) ∧ OwP w' w.heap.size u (teachP ps k x) ∧ Nx w w' := by
  have HW := hide h0
  have h := h0.reads
  have hv := hide h
  obtain ⟨A, c, rfl, hx⟩ := h
  clear hx
  have hn := hl.1
  have hrow := hide (fun i hi => hl.row (k := i) hi)
  cases h1 : playersOk ps with
  | false =>
    have hf := hide (show teachB ps k x = false ∧ teachP ps k x = ps from by
      have : teachB ps k x = false := by simp [teachB, h1]
      exact ⟨this, by simp [teachP, this]⟩)
    go_enter Try.func46, Try.ntmps46
    go_wp2_with (go_at_call 48; fail)
    refine (l17Copy_any _ ps w hv.out hl).mono ?_
    rintro e w1 ⟨u, rfl, hu, b1⟩
    have HV1 := hide (hv.out.below b1)
    have HB1 := hide b1
    have HU1 := hide hu
    clear b1 hu
    go_wp2_with (go_at_call 36; fail)
    refine (spec_PlayersOk _ ps w1 HV1.out hl).mono ?_
    rintro e w2 ⟨rfl, m, rfl⟩
    have HU2 := hide (HU1.out.below (Nx.drewN (Below.refl _ _) m))
    have HB2 := hide (Nx.drewN HB1.out m)
    rw [h1]
    clear HU1 HB1 HV1
    generalize w1.drewN m = w2 at HU2 HB2 ⊢
    go_wp2_with (fail)
    go_ret2
    exact ⟨_, by rw [hf.out.1]; rfl, by rw [hf.out.2]; exact HU2.out, HB2.out⟩
  | true =>
    cases h2 : inR k 0 ((ps.length : Int) - 1) with
    | false =>
      have hf := hide (show teachB ps k x = false ∧ teachP ps k x = ps from by
        have : teachB ps k x = false := by simp [teachB, h1, h2]
        exact ⟨this, by simp [teachP, this]⟩)
      go_enter Try.func46, Try.ntmps46
      go_wp2_with (go_at_call 48; fail)
      refine (l17Copy_any _ ps w hv.out hl).mono ?_
      rintro e w1 ⟨u, rfl, hu, b1⟩
      have HV1 := hide (hv.out.below b1)
      have HB1 := hide b1
      have HU1 := hide hu
      clear b1 hu
      go_wp2_with (go_at_call 36; fail)
      refine (spec_PlayersOk _ ps w1 HV1.out hl).mono ?_
      rintro e w2 ⟨rfl, m, rfl⟩
      have HU2 := hide (HU1.out.below (Nx.drewN (Below.refl _ _) m))
      have HB2 := hide (Nx.drewN HB1.out m)
      rw [h1]
      clear HU1 HB1 HV1
      generalize w1.drewN m = w2 at HU2 HB2 ⊢
      go_wp2_with ((go_at_call 49; refine (l01In_any _ _ _ _).mono ?_; rintro e w' ⟨rfl, rfl⟩; first | rw [h2]))
      go_ret2
      exact ⟨_, by rw [hf.out.1]; rfl, by rw [hf.out.2]; exact HU2.out, HB2.out⟩
    | true =>
      cases h3 : inR x 0 6 with
      | false =>
        have hf := hide (show teachB ps k x = false ∧ teachP ps k x = ps from by
          have : teachB ps k x = false := by simp [teachB, h1, h2, h3]
          exact ⟨this, by simp [teachP, this]⟩)
        go_enter Try.func46, Try.ntmps46
        go_wp2_with (go_at_call 48; fail)
        refine (l17Copy_any _ ps w hv.out hl).mono ?_
        rintro e w1 ⟨u, rfl, hu, b1⟩
        have HV1 := hide (hv.out.below b1)
        have HB1 := hide b1
        have HU1 := hide hu
        clear b1 hu
        go_wp2_with (go_at_call 36; fail)
        refine (spec_PlayersOk _ ps w1 HV1.out hl).mono ?_
        rintro e w2 ⟨rfl, m, rfl⟩
        have HU2 := hide (HU1.out.below (Nx.drewN (Below.refl _ _) m))
        have HB2 := hide (Nx.drewN HB1.out m)
        rw [h1]
        clear HU1 HB1 HV1
        generalize w1.drewN m = w2 at HU2 HB2 ⊢
        go_wp2_with ((go_at_call 49; refine (l01In_any _ _ _ _).mono ?_; rintro e w' ⟨rfl, rfl⟩; first | rw [h2] | rw [h3]))
        go_ret2
        exact ⟨_, by rw [hf.out.1]; rfl, by rw [hf.out.2]; exact HU2.out, HB2.out⟩
      | true =>
        by_cases h4 : x ∈ kn ps k.toNat
        · have b1 := inR_iff.1 h2
          obtain ⟨K, rfl⟩ := Int.eq_ofNat_of_zero_le b1.1
          have hK : K < ps.length := by omega
          have hKi : (K : Int) < (ps.length : Int) := by omega
          have b3 := inR_iff.1 h3
          clear b1
          have hf := hide (show teachB ps (K : Int) x = false ∧ teachP ps (K : Int) x = ps from by
            have : teachB ps (K : Int) x = false := by simpa [teachB, h1, h2, h3] using h4
            exact ⟨this, by simp [teachP, this]⟩)
          obtain ⟨gw, cw, ew, hgwB, hgwl⟩ := OwPN.open_ HW.out (by omega)
          injection ew with ew1 ew2 ew3
          subst ew1
          subst ew3
          clear ew2
          obtain ⟨⟨rk, hk0, hrk, _⟩, hf0⟩ := OwPN.cells HW.out hK
          have Hrk := hide hrk
          obtain ⟨A1, c1, ek, _⟩ := hrk.reads
          subst ek
          have Hk0 := hide hk0
          have Hf0 := hide hf0
          clear hk0 hrk hf0
          have h4' : decide (x ∈ kn ps K) = true := decide_eq_true h4
          clear h4
          go_enter Try.func46, Try.ntmps46
          go_wp2_with (go_at_call 48; fail)
          refine (l17Copy_any _ ps w hv.out hl).mono ?_
          rintro e w1 ⟨u, rfl, hu, b1⟩
          have HV1 := hide (hv.out.below b1)
          have HB1 := hide b1
          have HU1 := hide hu
          clear b1 hu
          go_wp2_with (go_at_call 36; fail)
          refine (spec_PlayersOk _ ps w1 HV1.out hl).mono ?_
          rintro e w2 ⟨rfl, m, rfl⟩
          have HU2 := hide (HU1.out.below (Nx.drewN (Below.refl _ _) m))
          have HB2 := hide (Nx.drewN HB1.out m)
          rw [h1]
          clear HU1 HB1 HV1
          generalize w1.drewN m = w2 at HU2 HB2 ⊢
          have q0 := (HB2.out.cells gw (K * 2) hgwl).trans Hk0.out
          have q1 := (HB2.out.cells gw (K * 2 + 1) hgwl).trans Hf0.out
          go_wp2_with (first | (go_at_call 49; refine (l01In_any _ _ _ _).mono ?_; rintro e w' ⟨rfl, rfl⟩; first | rw [h2] | rw [h3]) | (go_at_call 53; fail))
          refine (l13Knows_any _ _ (kn ps K) (fr ps K) x w2 (Hrk.out.reads.below HB2.out) (hrow.out K hK)).mono ?_
          rintro e w3 ⟨rfl, b3'⟩
          rw [h4']
          have HU3 := hide (HU2.out.below b3')
          have HB3 := hide (HB2.out.trans b3')
          clear b3' HU2 HB2 q0 q1
          go_wp2_with fail
          go_ret2
          exact ⟨_, by rw [hf.out.1]; rfl, by rw [hf.out.2]; exact HU3.out, HB3.out⟩
        · have b1 := inR_iff.1 h2
          obtain ⟨K, rfl⟩ := Int.eq_ofNat_of_zero_le b1.1
          have hK : K < ps.length := by omega
          have hKi : (K : Int) < (ps.length : Int) := by omega
          have b3 := inR_iff.1 h3
          clear b1
          have hf := hide (show teachB ps (K : Int) x = true ∧ teachP ps (K : Int) x = ps.set K (putL (kn ps K) x, fr ps K) from by
            have : teachB ps (K : Int) x = true := by simpa [teachB, h1, h2, h3] using h4
            exact ⟨this, by simp [teachP, this]⟩)
          obtain ⟨gw, cw, ew, hgwB, hgwl⟩ := OwPN.open_ HW.out (by omega)
          injection ew with ew1 ew2 ew3
          subst ew1
          subst ew3
          clear ew2
          obtain ⟨⟨rk, hk0, hrk, _⟩, hf0⟩ := OwPN.cells HW.out hK
          have Hrk := hide hrk
          obtain ⟨A1, c1, ek, _⟩ := hrk.reads
          subst ek
          have Hk0 := hide hk0
          have Hf0 := hide hf0
          clear hk0 hrk hf0
          have h4' : decide (x ∈ kn ps K) = false := decide_eq_false h4
          clear h4
          go_enter Try.func46, Try.ntmps46
          go_wp2_with (go_at_call 48; fail)
          refine (l17Copy_any _ ps w hv.out hl).mono ?_
          rintro e w1 ⟨u, rfl, hu, b1⟩
          have HV1 := hide (hv.out.below b1)
          have HB1 := hide b1
          have HU1 := hide hu
          obtain ⟨g, cap, rfl, hgB, hgl⟩ := OwPN.open_ hu (by omega)
          clear b1 hu
          go_wp2_with (go_at_call 36; fail)
          refine (spec_PlayersOk _ ps w1 HV1.out hl).mono ?_
          rintro e w2 ⟨rfl, m, rfl⟩
          have HU2 := hide (HU1.out.below (Nx.drewN (Below.refl _ _) m))
          have HB2 := hide (Nx.drewN HB1.out m)
          rw [h1]
          clear HU1 HB1 HV1
          generalize w1.drewN m = w2 at HU2 HB2 ⊢
          have q0 := (HB2.out.cells gw (K * 2) hgwl).trans Hk0.out
          have q1 := (HB2.out.cells gw (K * 2 + 1) hgwl).trans Hf0.out
          go_wp2_with (first | (go_at_call 49; refine (l01In_any _ _ _ _).mono ?_; rintro e w' ⟨rfl, rfl⟩; first | rw [h2] | rw [h3]) | (go_at_call 53; fail))
          refine (l13Knows_any _ _ (kn ps K) (fr ps K) x w2 (Hrk.out.reads.below HB2.out) (hrow.out K hK)).mono ?_
          rintro e w3 ⟨rfl, b3'⟩
          rw [h4']
          have HU3 := hide (HU2.out.below b3')
          have HB3 := hide (HB2.out.trans b3')
          clear b3' HU2 HB2 q0 q1
          have q0 := (HB3.out.cells gw (K * 2) hgwl).trans Hk0.out
          have HK3 := hide (Hrk.out.reads.below HB3.out)
          have hform : (A1 = none ∧ c1 = 0 ∧ kn ps K = []) ∨ ∃ g1, A1 = some ⟨g1, 0, none⟩ ∧ (kn ps K).length ≤ c1 := by
            rcases Hrk.out.form with ⟨e, e2⟩ | ⟨g1, cap1, e, _, _, h1, _⟩
            · injection e with e3 e4 e5
              exact .inl ⟨e3, e5, e2⟩
            · injection e with e3 e4 e5
              subst e5
              exact .inr ⟨g1, e3, h1⟩
          have hzl := hrow.out K hK
          generalize kn ps K = zs at *
          clear Hrk Hk0 h1 h2 h3
          go_wp2_with fail
          go_loopw [9] (fun i wr => ∃ j : Nat, j ≤ zs.length ∧ i = .int .i64 j ∧ wr = w3 ∧ Hid (∀ i, i < j → gt zs i < x)) (fun i _ => zs.length - (intOf i).toNat)
          case atStart => exact ⟨0, Nat.zero_le _, rfl, (by first | trivial | rfl), fun i hi => absurd hi (by omega)⟩
          case round =>
            clear q0
            obtain ⟨j, hj, rfl, rfl, hall⟩ := hrel
            by_cases hgo : j < zs.length ∧ gt zs j < x
            · obtain ⟨hjl, hlt⟩ := hgo
              have hji : (j : Int) < (zs.length : Int) := by omega
              obtain ⟨b1, off1, rfl, hb1, hc1⟩ := HK3.out.cells (by omega)
              have q1 := hc1 j hjl
              have R : Hid (∀ i, i < j + 1 → gt zs i < x) := fun i hi => by
                rcases Nat.lt_or_ge i j with h | h
                · exact hall.out i h
                · obtain rfl : i = j := by omega
                  exact hlt
              clear hc1 hform
              generalize gt zs j = y at *
              go_wp2_with fail
              go_roundw
              case rel => exact ⟨j + 1, by omega, by go_num, (by first | trivial | rfl), R⟩
              case measure => simp [intOf]; omega
            · have hkey : j = zs.length ∨ (j < zs.length ∧ x ≤ gt zs j) := by omega
              have HP : Hid (putL zs x = (zs.take j ++ [x]) ++ zs.drop j) := by
                rcases hkey with rfl | ⟨h1, h2⟩
                · show putL zs x = _
                  rw [putL_before hall.out, List.take_length, List.drop_length, List.append_nil]
                · show putL zs x = _
                  rw [putL_at h1 hall.out h2]
                  simp
              rcases hform with ⟨rfl, rfl, rfl⟩ | ⟨g1, rfl, hcap⟩
              · obtain rfl : j = 0 := by simpa using hj
                clear hgo hkey
                go_upto_region 8 with (fail)
                obtain ⟨⟨r0, k0, _, _⟩, _⟩ := OwPN.cells HU3.out hK
                have kf0 := OwPN.frozenAt HU3.out (K * 2)
                have hgr : g < wr.heap.size := (OwPN.block HU3.out).2
                have HN := hide (fun (w' : World) (bq : Nx wr w') => (HB3.out.trans bq : Nx w w'))
                have Hcl := hide (fun (w' : World) (bq : Nx wr w') => ((bq.cells g (K * 2) hgr).trans k0 : w'.cell? ⟨g, K * 2, none⟩ = some r0))
                have Hfz := hide (fun (w' : World) (bq : Nx wr w') => (OwPN.frozenAt (OwP.below HU3.out bq) (K * 2) : w'.frozen? ⟨g, K * 2, none⟩ = false))
                have bq := Nx.drew (Below.refl wr.heap.size wr)
                have Bq := hide bq
                have eA : (wr.alloc (.cells #[] 3)).heap.size = wr.heap.size + 1 := by simp
                have eB : (wr.alloc (.cells #[.int .i64 x] 3)).heap.size = wr.heap.size + 1 := by simp
                have NA := hide (Nx.drew (Nx.made wr (.cells #[] 3)))
                have NB := hide (Nx.drew (Nx.made wr (.cells #[.int .i64 x] 3)))
                have NAB := hide (Nx.drew ((Nx.made wr (.cells #[] 3)).trans (Nx.made (wr.alloc (.cells #[] 3)) (.cells #[.int .i64 x] 3))))
                have NBA := hide (Nx.drew ((Nx.made wr (.cells #[.int .i64 x] 3)).trans (Nx.made (wr.alloc (.cells #[.int .i64 x] 3)) (.cells #[] 3))))
                have FA := hide (show OwI (wr.alloc (.cells #[] 3)).drew wr.heap.size (.slice (some ⟨wr.heap.size, 0, none⟩) 0 0) [] from OwI.made0 wr)
                have FB1 := hide (show OwI ((wr.alloc (.cells #[] 3)).alloc (.cells #[.int .i64 x] 3)).drew wr.heap.size (.slice (some ⟨wr.heap.size, 0, none⟩) 0 0) [] from own_alloc (OwI.made0 wr) _)
                have FB2 := hide (show RdI ((wr.alloc (.cells #[] 3)).alloc (.cells #[.int .i64 x] 3)).drew (.slice (some ⟨wr.heap.size + 1, 0, none⟩) 1 1) [x] from by have := rd_one (wr.alloc (.cells #[] 3)) 3 x; rw [eA] at this; exact this)
                have FC1 := hide (show OwI ((wr.alloc (.cells #[.int .i64 x] 3)).alloc (.cells #[] 3)).drew wr.heap.size (.slice (some ⟨wr.heap.size + 1, 0, none⟩) 0 0) [] from by have := (OwI.made0 (wr.alloc (.cells #[.int .i64 x] 3))).mono (B' := wr.heap.size) (by omega); rw [eB] at this; exact this)
                have FC2 := hide (show RdI ((wr.alloc (.cells #[.int .i64 x] 3)).alloc (.cells #[] 3)).drew (.slice (some ⟨wr.heap.size, 0, none⟩) 1 1) [x] from (rd_one wr 3 x).below (Nx.drew (Nx.made _ _)))
                have hl2 : (([] : List Int) ++ [x]).length + ([] : List Int).length ≤ 16777216 := by first | (simp <;> omega) | omega
                clear eA eB k0 kf0
                go_region_held3 (fun w' => Nx w w')
                  (first | exact (HN.out _ bq).setCell (p := ⟨g, K * 2, none⟩) hgB _ | exact HN.out _ bq | exact HN.out _ Bq.out | exact HN.out _ NA.out | exact HN.out _ NB.out | exact HN.out _ NAB.out | exact HN.out _ NBA.out | exact HN.out _ (Nx.trans bq (Nx.made _ _)))
                  (first
                    | (refine step_joinI (by rfl) _ _ (by rfl) _ wr.heap.size _ [] _ ([] : List Int) (by rfl) (by rfl) FA.out (RdI.below (RdI.nil _ _ _) NA.out) (by first | omega | (simp <;> omega)) NA.out.size ?_; intro v1 w4 hown1 hgrow hat; have bq := NA.out.only FA.out hgrow (Nat.le_refl _))
                    | (refine step_joinI (by rfl) _ _ (by rfl) _ wr.heap.size _ [] _ ([] : List Int) (by rfl) (by rfl) FB1.out (RdI.below (RdI.nil _ _ _) NAB.out) (by first | omega | (simp <;> omega)) NAB.out.size ?_; intro v1 w4 hown1 hgrow hat; have bq := NAB.out.only FB1.out hgrow (Nat.le_refl _); have hu1 := FB2.out.grown hgrow (by simp [Value.ownBlock]) (by first | omega | (simp <;> omega)))
                    | (refine step_joinI (by rfl) _ _ (by rfl) _ wr.heap.size _ [] _ ([] : List Int) (by rfl) (by rfl) FC1.out (RdI.below (RdI.nil _ _ _) NBA.out) (by first | omega | (simp <;> omega)) NBA.out.size ?_; intro v1 w4 hown1 hgrow hat; have bq := NBA.out.only FC1.out hgrow (Nat.le_refl _); have hu1 := FC2.out.grown hgrow (by simp [Value.ownBlock]) (by first | omega | (simp <;> omega)))
                    | (refine step_joinI (by rfl) _ _ (by rfl) _ wr.heap.size _ ([] : List Int) _ [x] (by rfl) (by rfl) hown1 hu1 (by first | omega | (simp <;> omega)) bq.size ?_; intro v2 w5 hown2 hgrow2 hat2; have bq := Nx.only bq hown1 hgrow2 (Nat.le_refl _); have bq2 := bq)
                    | (refine step_joinI (by rfl) _ _ (by rfl) _ wr.heap.size _ ([] : List Int) _ [x] (by rfl) (by rfl) (own_alloc hown1 (.cells #[.int .i64 x] 3)) (rd_one w4 3 x) (by first | omega | (simp <;> omega)) (Nx.trans bq (Nx.made _ _)).size ?_; intro v2 w5 hown2 hgrow2 hat2; have bq := Nx.only (Nx.trans bq (Nx.made _ _)) (own_alloc hown1 (.cells #[.int .i64 x] 3)) hgrow2 (Nat.le_refl _); have bq2 := bq)
                    | (refine step_joinI (by rfl) _ _ (by rfl) _ wr.heap.size _ (([] : List Int) ++ [x]) _ ([] : List Int) (by rfl) (by rfl) hown2 (RdI.below (RdI.nil _ _ _) bq2) hl2 bq2.size ?_; intro v3 w6 hown3 hgrow3 hat3; have bq := Nx.only bq2 hown2 hgrow3 (Nat.le_refl _); have hfz := Hfz.out _ bq; have hcl := Hcl.out _ bq; obtain ⟨A3, n3, c3, rfl⟩ : ∃ A3 n3 c3, v3 = Value.slice A3 n3 c3 := by (obtain ⟨A, c, e, _⟩ := hown3.open_; exact ⟨_, _, _, e⟩)))
                all_goals
                  have hr3 : OwI w6 wr.heap.size (.slice A3 n3 c3) (putL [] x) := by rw [HP.out]; exact hown3
                  have R := hide (OwPN.put HU3.out bq hr3 HB3.out.size hK).toP
                  have RB := hide ((HN.out _ bq).setCell (p := ⟨g, K * 2, none⟩) hgB (.slice A3 n3 c3))
                  clear hr3 hown3 hown1 hown2 hgrow hgrow2 hgrow3 hat hat2 hat3 hfz hcl
                  go_wp2_with fail
                  all_goals
                    go_ret2
                    exact ⟨_, by rw [hf.out.1]; rfl, by rw [hf.out.2]; exact R.out, RB.out⟩
              · rcases hkey with rfl | ⟨hjl, hle⟩
                · have hjc : (zs.length : Int) ≤ (c1 : Int) := by omega
                  clear hgo
                  rw [List.take_length, List.drop_length] at HP
                  go_upto_region 8 with (fail)
                  obtain ⟨⟨r0, k0, _, _⟩, _⟩ := OwPN.cells HU3.out hK
                  have kf0 := OwPN.frozenAt HU3.out (K * 2)
                  have hgr : g < wr.heap.size := (OwPN.block HU3.out).2
                  have HN := hide (fun (w' : World) (bq : Nx wr w') => (HB3.out.trans bq : Nx w w'))
                  have Hcl := hide (fun (w' : World) (bq : Nx wr w') => ((bq.cells g (K * 2) hgr).trans k0 : w'.cell? ⟨g, K * 2, none⟩ = some r0))
                  have Hfz := hide (fun (w' : World) (bq : Nx wr w') => (OwPN.frozenAt (OwP.below HU3.out bq) (K * 2) : w'.frozen? ⟨g, K * 2, none⟩ = false))
                  have bq := Nx.drew (Below.refl wr.heap.size wr)
                  have Bq := hide bq
                  have eA : (wr.alloc (.cells #[] 3)).heap.size = wr.heap.size + 1 := by simp
                  have eB : (wr.alloc (.cells #[.int .i64 x] 3)).heap.size = wr.heap.size + 1 := by simp
                  have NA := hide (Nx.drew (Nx.made wr (.cells #[] 3)))
                  have NB := hide (Nx.drew (Nx.made wr (.cells #[.int .i64 x] 3)))
                  have NAB := hide (Nx.drew ((Nx.made wr (.cells #[] 3)).trans (Nx.made (wr.alloc (.cells #[] 3)) (.cells #[.int .i64 x] 3))))
                  have NBA := hide (Nx.drew ((Nx.made wr (.cells #[.int .i64 x] 3)).trans (Nx.made (wr.alloc (.cells #[.int .i64 x] 3)) (.cells #[] 3))))
                  have FA := hide (show OwI (wr.alloc (.cells #[] 3)).drew wr.heap.size (.slice (some ⟨wr.heap.size, 0, none⟩) 0 0) [] from OwI.made0 wr)
                  have FB1 := hide (show OwI ((wr.alloc (.cells #[] 3)).alloc (.cells #[.int .i64 x] 3)).drew wr.heap.size (.slice (some ⟨wr.heap.size, 0, none⟩) 0 0) [] from own_alloc (OwI.made0 wr) _)
                  have FB2 := hide (show RdI ((wr.alloc (.cells #[] 3)).alloc (.cells #[.int .i64 x] 3)).drew (.slice (some ⟨wr.heap.size + 1, 0, none⟩) 1 1) [x] from by have := rd_one (wr.alloc (.cells #[] 3)) 3 x; rw [eA] at this; exact this)
                  have FC1 := hide (show OwI ((wr.alloc (.cells #[.int .i64 x] 3)).alloc (.cells #[] 3)).drew wr.heap.size (.slice (some ⟨wr.heap.size + 1, 0, none⟩) 0 0) [] from by have := (OwI.made0 (wr.alloc (.cells #[.int .i64 x] 3))).mono (B' := wr.heap.size) (by omega); rw [eB] at this; exact this)
                  have FC2 := hide (show RdI ((wr.alloc (.cells #[.int .i64 x] 3)).alloc (.cells #[] 3)).drew (.slice (some ⟨wr.heap.size, 0, none⟩) 1 1) [x] from (rd_one wr 3 x).below (Nx.drew (Nx.made _ _)))
                  have hl2 : (zs ++ [x]).length + ([] : List Int).length ≤ 16777216 := by first | (simp <;> omega) | omega
                  clear eA eB k0 kf0
                  go_region_held3 (fun w' => Nx w w')
                    (first | exact (HN.out _ bq).setCell (p := ⟨g, K * 2, none⟩) hgB _ | exact HN.out _ bq | exact HN.out _ Bq.out | exact HN.out _ NA.out | exact HN.out _ NB.out | exact HN.out _ NAB.out | exact HN.out _ NBA.out | exact HN.out _ (Nx.trans bq (Nx.made _ _)))
                    (first
                      | (refine step_joinI (by rfl) _ _ (by rfl) _ wr.heap.size _ [] _ zs (by rfl) (by rfl) FA.out (RdI.below HK3.out NA.out) (by first | omega | (simp <;> omega)) NA.out.size ?_; intro v1 w4 hown1 hgrow hat; have bq := NA.out.only FA.out hgrow (Nat.le_refl _))
                      | (refine step_joinI (by rfl) _ _ (by rfl) _ wr.heap.size _ [] _ zs (by rfl) (by rfl) FB1.out (RdI.below HK3.out NAB.out) (by first | omega | (simp <;> omega)) NAB.out.size ?_; intro v1 w4 hown1 hgrow hat; have bq := NAB.out.only FB1.out hgrow (Nat.le_refl _); have hu1 := FB2.out.grown hgrow (by simp [Value.ownBlock]) (by first | omega | (simp <;> omega)))
                      | (refine step_joinI (by rfl) _ _ (by rfl) _ wr.heap.size _ [] _ zs (by rfl) (by rfl) FC1.out (RdI.below HK3.out NBA.out) (by first | omega | (simp <;> omega)) NBA.out.size ?_; intro v1 w4 hown1 hgrow hat; have bq := NBA.out.only FC1.out hgrow (Nat.le_refl _); have hu1 := FC2.out.grown hgrow (by simp [Value.ownBlock]) (by first | omega | (simp <;> omega)))
                      | (refine step_joinI (by rfl) _ _ (by rfl) _ wr.heap.size _ zs _ [x] (by rfl) (by rfl) hown1 hu1 (by first | omega | (simp <;> omega)) bq.size ?_; intro v2 w5 hown2 hgrow2 hat2; have bq := Nx.only bq hown1 hgrow2 (Nat.le_refl _); have bq2 := bq)
                      | (refine step_joinI (by rfl) _ _ (by rfl) _ wr.heap.size _ zs _ [x] (by rfl) (by rfl) (own_alloc hown1 (.cells #[.int .i64 x] 3)) (rd_one w4 3 x) (by first | omega | (simp <;> omega)) (Nx.trans bq (Nx.made _ _)).size ?_; intro v2 w5 hown2 hgrow2 hat2; have bq := Nx.only (Nx.trans bq (Nx.made _ _)) (own_alloc hown1 (.cells #[.int .i64 x] 3)) hgrow2 (Nat.le_refl _); have bq2 := bq)
                      | (refine step_joinI (by rfl) _ _ (by rfl) _ wr.heap.size _ (zs ++ [x]) _ ([] : List Int) (by rfl) (by rfl) hown2 (RdI.below (RdI.nil _ _ _) bq2) hl2 bq2.size ?_; intro v3 w6 hown3 hgrow3 hat3; have bq := Nx.only bq2 hown2 hgrow3 (Nat.le_refl _); have hfz := Hfz.out _ bq; have hcl := Hcl.out _ bq; obtain ⟨A3, n3, c3, rfl⟩ : ∃ A3 n3 c3, v3 = Value.slice A3 n3 c3 := by (obtain ⟨A, c, e, _⟩ := hown3.open_; exact ⟨_, _, _, e⟩)))
                  all_goals
                    have hr3 : OwI w6 wr.heap.size (.slice A3 n3 c3) (putL zs x) := by rw [HP.out]; exact hown3
                    have R := hide (OwPN.put HU3.out bq hr3 HB3.out.size hK).toP
                    have RB := hide ((HN.out _ bq).setCell (p := ⟨g, K * 2, none⟩) hgB (.slice A3 n3 c3))
                    clear hr3 hown3 hown1 hown2 hgrow hgrow2 hgrow3 hat hat2 hat3 hfz hcl
                    go_wp2_with fail
                    all_goals
                      go_ret2
                      exact ⟨_, by rw [hf.out.1]; rfl, by rw [hf.out.2]; exact R.out, RB.out⟩
                · have hji : (j : Int) < (zs.length : Int) := by omega
                  have hjc : (j : Int) ≤ (c1 : Int) := by omega
                  have HT := hide (HK3.out.takeS hj)
                  have hcj : ¬ c1 = j := by omega
                  have HD := hide (HK3.out.dropS (c' := c1 - j) hj)
                  obtain ⟨b1, off1, e1, hb1, hc1⟩ := HK3.out.cells (by omega)
                  injection e1 with e1
                  injection e1 with e1 e2
                  subst e1
                  subst e2
                  have q1 := hc1 j hjl
                  rw [Nat.zero_add] at q1
                  clear hc1 hgo
                  go_upto_region 8 with (fail)
                  clear q1
                  obtain ⟨⟨r0, k0, _, _⟩, _⟩ := OwPN.cells HU3.out hK
                  have kf0 := OwPN.frozenAt HU3.out (K * 2)
                  have hgr : g < wr.heap.size := (OwPN.block HU3.out).2
                  have HN := hide (fun (w' : World) (bq : Nx wr w') => (HB3.out.trans bq : Nx w w'))
                  have Hcl := hide (fun (w' : World) (bq : Nx wr w') => ((bq.cells g (K * 2) hgr).trans k0 : w'.cell? ⟨g, K * 2, none⟩ = some r0))
                  have Hfz := hide (fun (w' : World) (bq : Nx wr w') => (OwPN.frozenAt (OwP.below HU3.out bq) (K * 2) : w'.frozen? ⟨g, K * 2, none⟩ = false))
                  have bq := Nx.drew (Below.refl wr.heap.size wr)
                  have Bq := hide bq
                  have eA : (wr.alloc (.cells #[] 3)).heap.size = wr.heap.size + 1 := by simp
                  have eB : (wr.alloc (.cells #[.int .i64 x] 3)).heap.size = wr.heap.size + 1 := by simp
                  have NA := hide (Nx.drew (Nx.made wr (.cells #[] 3)))
                  have NB := hide (Nx.drew (Nx.made wr (.cells #[.int .i64 x] 3)))
                  have NAB := hide (Nx.drew ((Nx.made wr (.cells #[] 3)).trans (Nx.made (wr.alloc (.cells #[] 3)) (.cells #[.int .i64 x] 3))))
                  have NBA := hide (Nx.drew ((Nx.made wr (.cells #[.int .i64 x] 3)).trans (Nx.made (wr.alloc (.cells #[.int .i64 x] 3)) (.cells #[] 3))))
                  have FA := hide (show OwI (wr.alloc (.cells #[] 3)).drew wr.heap.size (.slice (some ⟨wr.heap.size, 0, none⟩) 0 0) [] from OwI.made0 wr)
                  have FB1 := hide (show OwI ((wr.alloc (.cells #[] 3)).alloc (.cells #[.int .i64 x] 3)).drew wr.heap.size (.slice (some ⟨wr.heap.size, 0, none⟩) 0 0) [] from own_alloc (OwI.made0 wr) _)
                  have FB2 := hide (show RdI ((wr.alloc (.cells #[] 3)).alloc (.cells #[.int .i64 x] 3)).drew (.slice (some ⟨wr.heap.size + 1, 0, none⟩) 1 1) [x] from by have := rd_one (wr.alloc (.cells #[] 3)) 3 x; rw [eA] at this; exact this)
                  have FC1 := hide (show OwI ((wr.alloc (.cells #[.int .i64 x] 3)).alloc (.cells #[] 3)).drew wr.heap.size (.slice (some ⟨wr.heap.size + 1, 0, none⟩) 0 0) [] from by have := (OwI.made0 (wr.alloc (.cells #[.int .i64 x] 3))).mono (B' := wr.heap.size) (by omega); rw [eB] at this; exact this)
                  have FC2 := hide (show RdI ((wr.alloc (.cells #[.int .i64 x] 3)).alloc (.cells #[] 3)).drew (.slice (some ⟨wr.heap.size, 0, none⟩) 1 1) [x] from (rd_one wr 3 x).below (Nx.drew (Nx.made _ _)))
                  have hl2 : ((zs.take j) ++ [x]).length + (zs.drop j).length ≤ 16777216 := by first | (simp <;> omega) | omega
                  clear eA eB k0 kf0
                  go_region_held3 (fun w' => Nx w w')
                    (first | exact (HN.out _ bq).setCell (p := ⟨g, K * 2, none⟩) hgB _ | exact HN.out _ bq | exact HN.out _ Bq.out | exact HN.out _ NA.out | exact HN.out _ NB.out | exact HN.out _ NAB.out | exact HN.out _ NBA.out | exact HN.out _ (Nx.trans bq (Nx.made _ _)))
                    (first
                      | (refine step_joinI (by rfl) _ _ (by rfl) _ wr.heap.size _ [] _ (zs.take j) (by rfl) (by rfl) FA.out (RdI.below HT.out NA.out) (by first | omega | (simp <;> omega)) NA.out.size ?_; intro v1 w4 hown1 hgrow hat; have bq := NA.out.only FA.out hgrow (Nat.le_refl _))
                      | (refine step_joinI (by rfl) _ _ (by rfl) _ wr.heap.size _ [] _ (zs.take j) (by rfl) (by rfl) FB1.out (RdI.below HT.out NAB.out) (by first | omega | (simp <;> omega)) NAB.out.size ?_; intro v1 w4 hown1 hgrow hat; have bq := NAB.out.only FB1.out hgrow (Nat.le_refl _); have hu1 := FB2.out.grown hgrow (by simp [Value.ownBlock]) (by first | omega | (simp <;> omega)))
                      | (refine step_joinI (by rfl) _ _ (by rfl) _ wr.heap.size _ [] _ (zs.take j) (by rfl) (by rfl) FC1.out (RdI.below HT.out NBA.out) (by first | omega | (simp <;> omega)) NBA.out.size ?_; intro v1 w4 hown1 hgrow hat; have bq := NBA.out.only FC1.out hgrow (Nat.le_refl _); have hu1 := FC2.out.grown hgrow (by simp [Value.ownBlock]) (by first | omega | (simp <;> omega)))
                      | (refine step_joinI (by rfl) _ _ (by rfl) _ wr.heap.size _ (zs.take j) _ [x] (by rfl) (by rfl) hown1 hu1 (by first | omega | (simp <;> omega)) bq.size ?_; intro v2 w5 hown2 hgrow2 hat2; have bq := Nx.only bq hown1 hgrow2 (Nat.le_refl _); have bq2 := bq)
                      | (refine step_joinI (by rfl) _ _ (by rfl) _ wr.heap.size _ (zs.take j) _ [x] (by rfl) (by rfl) (own_alloc hown1 (.cells #[.int .i64 x] 3)) (rd_one w4 3 x) (by first | omega | (simp <;> omega)) (Nx.trans bq (Nx.made _ _)).size ?_; intro v2 w5 hown2 hgrow2 hat2; have bq := Nx.only (Nx.trans bq (Nx.made _ _)) (own_alloc hown1 (.cells #[.int .i64 x] 3)) hgrow2 (Nat.le_refl _); have bq2 := bq)
                      | (refine step_joinI (by rfl) _ _ (by rfl) _ wr.heap.size _ ((zs.take j) ++ [x]) _ (zs.drop j) (by rfl) (by rfl) hown2 (RdI.below HD.out bq2) hl2 bq2.size ?_; intro v3 w6 hown3 hgrow3 hat3; have bq := Nx.only bq2 hown2 hgrow3 (Nat.le_refl _); have hfz := Hfz.out _ bq; have hcl := Hcl.out _ bq; obtain ⟨A3, n3, c3, rfl⟩ : ∃ A3 n3 c3, v3 = Value.slice A3 n3 c3 := by (obtain ⟨A, c, e, _⟩ := hown3.open_; exact ⟨_, _, _, e⟩)))
                  all_goals
                    have hr3 : OwI w6 wr.heap.size (.slice A3 n3 c3) (putL zs x) := by rw [HP.out]; exact hown3
                    have R := hide (OwPN.put HU3.out bq hr3 HB3.out.size hK).toP
                    have RB := hide ((HN.out _ bq).setCell (p := ⟨g, K * 2, none⟩) hgB (.slice A3 n3 c3))
                    clear hr3 hown3 hown1 hown2 hgrow hgrow2 hgrow3 hat hat2 hat3 hfz hcl
                    go_wp2_with fail
                    all_goals
                      go_ret2
                      exact ⟨_, by rw [hf.out.1]; rfl, by rw [hf.out.2]; exact R.out, RB.out⟩

end Go.Proofs.Ytfilpeamhcdgfaa
