/- The law FnLights holds: for every input the program's function answers as the reference does; nothing that was there is changed. -/
import Derived.Test.YtiibegilolijlaaDrG
import Derived.WalkKit
import Derived.ProofKit
import Derived.Handy
import Derived.OpenShut
import Derived.ShutString
import Derived.ChangeOld
import Derived.Below
import Derived.BigQuiet
import Derived.Deep.QuietTactic
import Derived.Deep.Draws
import Derived.Deep.DeepCutAuto
import Derived.Deep.DeepFit
import Derived.Deep.LoopGhost
import Derived.Outline
import Derived.WalkSpells
import Derived.WalkLawsBesides
import Derived.WalkSmall
import Derived.Laws.OwnMore
import Derived.OneCell
import Derived.Laws.Rows
import Derived.Maps.AppendAt
import Derived.StillTailTactics
import Derived.Lib.SmallJoins
import Derived.Deep.RegionWith
import Derived.Deep.RegionHeld3
import Derived.RegionTactic
import Derived.Deep.Matrix
import Derived.Deep.Fields
import Derived.ChangeSame
namespace Go.Proofs.Ytiibegilolijlaa
open Go.RowKit

theorem RdI.cells {w : World} {A : Option Addr} {n c : Nat} {zs : List Int} (h : RdI w (.slice A n c) zs) (h0 : 0 < zs.length) : ∃ b off, A = some ⟨b, off, none⟩ ∧ b < w.heap.size ∧ ∀ j, j < zs.length → w.cell? ⟨b, off + j, none⟩ = some (.int .i64 (gt zs j)) := by
  obtain ⟨A', c', e, hx⟩ := h
  injection e with e1 e2 e3
  subst e1
  exact hx h0
theorem later_succ (rows : List (List Int)) (k j : Nat) (hkj : k < j) : laterTo rows k (j + 1) = (laterTo rows k j || (decide (fd rows j 0 = fd rows k 0) && decide (fd rows j 1 ≤ fd rows k 2))) := by
  simp only [laterTo]
  rw [decide_eq_true hkj, Bool.true_and]
/-- what one fade more does, in three ways. -/
theorem later_three (rows : List (List Int)) (k j : Nat) (hkj : k < j) : (laterTo rows k j = true ∧ laterTo rows k (j + 1) = true) ∨ (laterTo rows k j = false ∧ (fd rows j 0 == fd rows k 0) = false ∧ laterTo rows k (j + 1) = false) ∨
    (laterTo rows k j = false ∧ (fd rows j 0 == fd rows k 0) = true ∧ laterTo rows k (j + 1) = decide (fd rows j 1 ≤ fd rows k 2)) := by
  rw [later_succ rows k j hkj]
  cases laterTo rows k j with
  | true => exact .inl ⟨rfl, rfl⟩
  | false =>
    by_cases h : fd rows j 0 = fd rows k 0
    · exact .inr (.inr ⟨rfl, beq_iff_eq.2 h, by rw [decide_eq_true h]; rfl⟩)
    · exact .inr (.inl ⟨rfl, beq_eq_false_iff_ne.2 h, by rw [decide_eq_false h]; rfl⟩)
theorem RdS.cells {w : World} {v : Value} {rows : List (List Int)} (h : RdS w v rows) (h0 : 0 < rows.length) : ∃ b off c, v = .slice (some ⟨b, off, none⟩) rows.length c ∧ b < w.heap.size ∧ ∀ k j, k < rows.length → j < 4 → w.cell? ⟨b, off + k * 4 + j, none⟩ = some (.int .i64 (fd rows k j)) := by
  obtain ⟨A, c, _, rfl, hx⟩ := h
  obtain ⟨b, off, rfl, hlt, hc⟩ := hx h0
  exact ⟨b, off, c, rfl, hlt, hc⟩
set_option maxRecDepth 100000 in
set_option linter.unusedVariables false in
set_option maxHeartbeats 1000000 in
theorem walk'_FnLights (w0 : World) (v : Value) (zs : List Int) (hr : RdB w0 v zs) (hml : zs.length ≤ maxLen) :
    Calls Try.prog 5 #[v] w0 fun e w' => e = .returned (.bool true) ∧ Nx w0 w' := by
  by_cases hl : 1048576 < zs.length
  · have hbig : decide (1048576 < (zs.length : Int)) = true := by simp; omega
    have HR := hide hr
    go_enter Try.func5, Try.ntmps5
    go_wp2_with (go_at_call 16; refine (big_any v zs _ HR.out).mono ?_; rintro e w' ⟨rfl, rfl⟩)
    go_ret
    exact ⟨rfl, Below.refl _ _⟩
  have hl : zs.length ≤ 1048576 := by omega
  have hbig : decide (1048576 < (zs.length : Int)) = false := by simp; omega
  have hat0 := atV_bd hr 0
  have HR := hide hr
  clear hr
  go_enter Try.func5, Try.ntmps5
  go_wp2_with (go_at_call 16; refine (big_any v zs _ HR.out).mono ?_; rintro e w' ⟨rfl, rfl⟩)
  clear hbig
  go_wp2_with fail
  refine (DrawFades_any v zs _ HR.out hl).mono ?_
  rintro e w1 ⟨u, q, rfl, rows, ws, ⟨ho, hi, hok, hn, hwl, hwb⟩, hb⟩
  obtain ⟨T, hT⟩ : ∃ T : Nat, atV zs 0 = (T : Int) := ⟨_, Int.eq_ofNat_of_zero_le hat0.1 |>.choose_spec⟩
  have hT5 : T ≤ 255 := by omega
  have hAt0 := hide (show Calls Try.prog 18 #[v, .int .i64 0] w1 fun e w' => e = .returned (.int .i64 (T : Int)) ∧ w1 = w' from by rw [← hT]; exact at_det v zs 0 w1 (HR.out.below hb) hl (by omega))
  have hwt : wattsOk rows ws = true := by
    unfold wattsOk
    rw [hok, hwl]
    simp
    exact allW_iff.2 fun k hk => by have := hwb k hk; omega
  have hlaw := lights_law hwt (t := T) (by omega)
  have hfds := (fadesOk_true hok).2
  have Hbt := hide (fun k (hk : k < rows.length) (h : laterTo rows k rows.length = false) t (h1 : fd rows k 1 ≤ t) (h2 : t ≤ fd rows k 2) => fade_between hok hk h h1 h2)
  have Hls := hide (fun k => laterTo_skip (rows := rows) (k := k) (n := k + 1) (Nat.le_refl _))
  have Hl3 := hide (fun k j (h : k < j) => later_three rows k j h)
  have Hfd := hide hfds
  have hrl : rows.length ≤ 1048576 := by omega
  have hwl5 : ws.length ≤ 1048576 := by omega
  have hTI : I64 (T : Int) := by unfold I64; omega
  have Hlv := hide (fun k : Nat => And.intro (show levelAt rows (k : Int) (T : Int) = lvTo rows (k : Int) (T : Int) rows.length from by unfold levelAt; rw [if_pos (by rw [hok, Bool.true_and]; exact inR_iff.2 (by omega))]) (lvTo_bd (rows := rows) (k : Int) (T : Int) hok (Nat.le_refl _)))
  have Hpw := hide (fun k (hk : k ≤ 8) => pwTo_bd (rows := rows) (ws := ws) (T : Int) hok (fun k hk => by have := hwb k (by omega); omega) hk)
  have hp0 := hide (show pwTo rows ws (T : Int) 0 = 0 from rfl)
  have hps := hide (fun k => show pwTo rows ws (T : Int) (k + 1) = pwTo rows ws (T : Int) k + gt ws k * lvTo rows (k : Int) (T : Int) rows.length from rfl)
  have hpd := hide (show power rows ws (T : Int) = pwTo rows ws (T : Int) 8 / 100 from rfl)
  have Hok := hide hok
  have HO := hide ho.reads
  have HI := hide hi.reads
  have HB := hide hb
  have Hwb := hide hwb
  have HL := hide hlaw
  obtain ⟨Aw, cw, rfl, _⟩ := hi.reads
  rw [hwl]
  obtain ⟨bw, ow, eA, _, hcw⟩ := RdI.cells hi.reads (by omega)
  subst eA
  have Hcw := hide (fun (W : World) (b : Nx w1 W) k (hk : k < 8) => (b.cells bw (ow + k) (block_lt_of_cell (hcw k (by omega)))).trans (hcw k (by omega)))
  rw [hwl] at HI
  obtain ⟨Af, cf, _, rfl, hxf⟩ := ho.reads
  have Hxf := hide hxf
  have HQ := hide (fun (W : World) (b : Nx w1 W) => And.intro (show Nx w0 W from HB.out.trans b) (And.intro (HO.out.below b) (HI.out.below b)))
  clear ho hi hok hn hwb hb hlaw hfds hwt hT hat0 HR hcw hxf HO HI HB
  go_wp2_with (go_at_call 18; refine hAt0.out.mono ?_; rintro e w' ⟨rfl, rfl⟩)
  clear hAt0
  have HLA := hide (fun (W : World) (b : Nx w1 W) (lamp t : Int) (h1 : I64 lamp) (h2 : I64 t) => impl_LevelAt _ rows lamp t W (HQ.out W b).2.1 hrl h1 h2)
  have HPA := hide (fun (W : World) (b : Nx w1 W) (t : Int) (h2 : I64 t) => impl_PowerAt _ _ rows ws t W (HQ.out W b).2.1 hrl (HQ.out W b).2.2 hwl5 h2)
  have HMP := hide (fun (W : World) (b : Nx w1 W) => impl_MostPower _ _ rows ws W (HQ.out W b).2.1 hrl (HQ.out W b).2.2 hwl5)
  have HBF := hide (fun (W : World) (b : Nx w1 W) (t : Int) (h2 : I64 t) => impl_BlowsFuse _ _ rows ws t W (HQ.out W b).2.1 hrl (HQ.out W b).2.2 hwl5 h2)
  go_loopw [6] (fun i wr => ∃ k : Nat, k ≤ rows.length ∧ i = .int .i64 k ∧ Nx w1 wr) (fun i _ => rows.length - (intOf i).toNat)
  case atStart => exact ⟨0, Nat.zero_le _, rfl, Below.refl _ _⟩
  case round =>
    obtain ⟨k, hk, rfl, hb⟩ := hrel
    have hT0 : 0 ≤ (T : Int) := by omega
    by_cases hlt : k < rows.length
    ·
      obtain ⟨b0, off, rfl, hb0, hc0⟩ := Hxf.out (by omega)
      have Hce := hide (fun (W : World) (b : Nx w1 W) k (hk : k < rows.length) => And.intro (show W.cell? ⟨b0, off + k * 4, none⟩ = some (.int .i64 (fd rows k 0)) from (b.cells b0 (off + k * 4) hb0).trans (hc0 k 0 hk (by omega))) (And.intro ((b.cells b0 (off + k * 4 + 1) hb0).trans (hc0 k 1 hk (by omega))) (And.intro ((b.cells b0 (off + k * 4 + 2) hb0).trans (hc0 k 2 hk (by omega))) ((b.cells b0 (off + k * 4 + 3) hb0).trans (hc0 k 3 hk (by omega))))))
      clear hc0
      have hki : (k : Int) < (rows.length : Int) := by omega
      have hf := Hfd.out k hlt
      have N0 := hide hb
      clear hb
      have Hbk := hide (Hbt.out k hlt)
      have Hsk := hide (Hls.out k)
      have Hl3k := hide (Hl3.out k)
      obtain ⟨lp, hlp⟩ : ∃ n, fd rows k 0 = n := ⟨_, rfl⟩
      obtain ⟨fr, hfr⟩ : ∃ n, fd rows k 1 = n := ⟨_, rfl⟩
      obtain ⟨tt, htt⟩ : ∃ n, fd rows k 2 = n := ⟨_, rfl⟩
      obtain ⟨lv, hlv⟩ : ∃ n, fd rows k 3 = n := ⟨_, rfl⟩
      have Hck := hide (fun (W : World) (b : Nx w1 W) => show W.cell? ⟨b0, off + k * 4, none⟩ = some (.int .i64 lp) ∧ W.cell? ⟨b0, off + k * 4 + 1, none⟩ = some (.int .i64 fr) ∧ W.cell? ⟨b0, off + k * 4 + 2, none⟩ = some (.int .i64 tt) ∧ W.cell? ⟨b0, off + k * 4 + 3, none⟩ = some (.int .i64 lv) from by
        have := Hce.out W b k hlt
        rwa [hlp, hfr, htt, hlv] at this)
      rw [hlp, hfr, htt, hlv] at hf Hbk
      rw [hlp, htt] at Hl3k
      clear hlp hfr htt hlv
      have hlpI : I64 lp := by unfold I64; omega
      have hfrI : I64 fr := by unfold I64; omega
      have httI : I64 tt := by unfold I64; omega
      obtain ⟨c1, c2, c3, c4⟩ := Hck.out wr N0.out
      have M0 := hide (show Nx w1 wr.drew from Nx.drew N0.out)
      go_wp2_with fail
      go_still_tail 11, (by kernel_rfl)
      clear c1 c2 c3 c4
      go_wp2_with (go_at_call 15; fail)
      refine (HLA.out wr.drew M0.out lp fr hlpI hfrI).mono ?_
      rintro e w2 ⟨rfl, b⟩
      have N1 := hide (show Nx w1 w2 from Nx.trans M0.out b)
      clear b N0 M0
      obtain ⟨c1, c2, c3, c4⟩ := Hck.out w2 N1.out
      have M1 := hide (show Nx w1 w2.drew from Nx.drew N1.out)
      go_wp2_with fail
      go_still_tail 11, (by kernel_rfl)
      clear c1 c2 c3 c4
      go_wp2_with (go_at_call 15; fail)
      refine (HLA.out w2.drew M1.out lp tt hlpI httI).mono ?_
      rintro e w3 ⟨rfl, b⟩
      have N2 := hide (show Nx w1 w3 from Nx.trans M1.out b)
      clear b N1 M1
      have w1' : IntKind.i64.wrap (tt - fr) = tt - fr := IntWalk.i64_in _ (by omega)
      have w2' : IntKind.i64.wrap (tt - fr + 1) = tt - fr + 1 := IntWalk.i64_in _ (by omega)
      have hd0 : 0 < tt - fr + 1 := by omega
      have hm0 : 0 ≤ (T : Int) % (tt - fr + 1) := Int.emod_nonneg _ (by omega)
      have hm1 : (T : Int) % (tt - fr + 1) < tt - fr + 1 := Int.emod_lt_of_pos _ hd0
      have w3' : IntKind.i64.wrap (fr + (T : Int) % (tt - fr + 1)) = fr + (T : Int) % (tt - fr + 1) := IntWalk.i64_in _ (by omega)
      obtain ⟨c1, c2, c3, c4⟩ := Hck.out w3 N2.out
      go_wp2_with fail
      go_quiet (fail)
      clear w1' w2' w3' c1 c2 c3 c4
      have N3 := hide (show Nx w1 (w3.drewN nq) from Nx.drewN N2.out nq)
      clear N2
      generalize World.drewN w3 nq = w4 at N3 ⊢
      obtain ⟨mid, hmid⟩ : ∃ n, fr + (T : Int) % (tt - fr + 1) = n := ⟨_, rfl⟩
      have hmb : fr ≤ mid ∧ mid ≤ tt := by omega
      rw [hmid]
      have hmI : I64 mid := by unfold I64; omega
      clear hmid hm0 hm1 hd0
      obtain ⟨c1, c2, c3, c4⟩ := Hck.out w4 N3.out
      go_wp2_with (go_at_call 15; fail)
      clear c1 c2 c3 c4
      refine (HLA.out w4 N3.out lp mid hlpI hmI).mono ?_
      rintro e w5 ⟨rfl, b⟩
      have N4 := hide (show Nx w1 w5 from Nx.trans N3.out b)
      clear b N3
      have Hfin := hide (fun h => Hbk.out h mid hmb.1 hmb.2)
      obtain ⟨la, hla⟩ : ∃ n, levelAt rows lp fr = n := ⟨_, rfl⟩
      obtain ⟨lb, hlb⟩ : ∃ n, levelAt rows lp tt = n := ⟨_, rfl⟩
      obtain ⟨lm, hlm⟩ : ∃ n, levelAt rows lp mid = n := ⟨_, rfl⟩
      rw [hla, hlb, hlm] at Hfin
      rw [hla, hlb, hlm]
      clear hla hlb hlm Hbk
      have hk1 : (k : Int) + 1 ≤ (rows.length : Int) := by omega
      go_wp2_with fail
      go_loopw [11, 12] (fun lt i wr => ∃ j : Nat, k + 1 ≤ j ∧ j ≤ rows.length ∧ i = .int .i64 j ∧ lt = .bool (laterTo rows k j) ∧ Nx w1 wr) (fun _ i _ => rows.length - (intOf i).toNat)
      case atStart => exact ⟨k + 1, Nat.le_refl _, hlt, by go_num, by rw [Hsk.out], N4.out⟩
      case round =>
        clear N4
        obtain ⟨j, hj1, hj2, rfl, rfl, hb⟩ := hrel
        by_cases hjl : j < rows.length
        ·
          have hji : (j : Int) < (rows.length : Int) := by omega
          have h3 := Hl3k.out j (by omega)
          have Nj := hide hb
          clear hb
          obtain ⟨c1, c2, c3, c4⟩ := Hck.out wr Nj.out
          obtain ⟨d1, d2, d3, d4⟩ := Hce.out wr Nj.out j hjl
          clear c2 c4 d3 d4
          obtain ⟨ln, hln⟩ : ∃ n, laterTo rows k (j + 1) = n := ⟨_, rfl⟩
          obtain ⟨lo, hlo⟩ : ∃ n, laterTo rows k j = n := ⟨_, rfl⟩
          rw [hln, hlo] at h3
          rw [hlo]
          have Hln := hide hln
          clear hln hlo
          generalize fd rows j 0 = jl at *
          generalize fd rows j 1 = jf at *
          rcases h3 with ⟨rfl, rfl⟩ | ⟨rfl, e1, rfl⟩ | ⟨rfl, e1, e2⟩
          · go_wp2_with fail
            go_quiet (fail)
            go_wp2
            go_roundw
            case rel => exact ⟨j + 1, by omega, by omega, by go_num, by rw [Hln.out], Nx.drewN Nj.out _⟩
            case measure => simp [intOf]; omega
          · go_wp2_with fail
            go_quiet (fail)
            go_wp2
            go_roundw
            case rel => exact ⟨j + 1, by omega, by omega, by go_num, by rw [Hln.out], Nx.drewN Nj.out _⟩
            case measure => simp [intOf]; omega
          · have E2 := hide e2
            clear e2
            go_wp2_with fail
            go_quiet (fail)
            go_wp2
            go_roundw
            case rel => exact ⟨j + 1, by omega, by omega, by go_num, by rw [Hln.out, E2.out], Nx.drewN Nj.out _⟩
            case measure => simp [intOf]; omega
        · obtain rfl : j = rows.length := by omega
          have Nj := hide hb
          clear hb
          obtain ⟨c1, c2, c3, c4⟩ := Hck.out wr Nj.out
          clear c1 c2 c3
          cases hlr : laterTo rows k rows.length with
          | true =>
            clear hlr
            go_wp2_with fail
            go_roundw
            case rel => exact ⟨k + 1, by omega, by go_num, Nj.out⟩
            case measure => simp [intOf]; omega
          | false =>
            obtain ⟨f1, f2, f3⟩ := Hfin.out hlr
            subst f1
            clear hlr
            have e0 : (lb != lb) = false := by simp
            have hthree : lb < la ∨ la < lb ∨ la = lb := by omega
            rcases hthree with h | h | rfl
            · have g1 : ¬ la < lb := by omega
              have g2 : decide (lm < lb) = false := decide_eq_false (by omega)
              have g3 : decide (la < lm) = false := decide_eq_false (by omega)
              clear f2 f3
              go_wp2_with fail
              go_roundw
              case rel => exact ⟨k + 1, by omega, by go_num, Nj.out⟩
              case measure => simp [intOf]; omega
            · have g1 : ¬ lb < la := by omega
              have g2 : decide (lm < la) = false := decide_eq_false (by omega)
              have g3 : decide (lb < lm) = false := decide_eq_false (by omega)
              clear f2 f3
              go_wp2_with fail
              go_roundw
              case rel => exact ⟨k + 1, by omega, by go_num, Nj.out⟩
              case measure => simp [intOf]; omega
            · have g1 : ¬ la < la := by omega
              have g2 : decide (lm < la) = false := decide_eq_false (by omega)
              have g3 : decide (la < lm) = false := decide_eq_false (by omega)
              clear f2 f3
              go_wp2_with fail
              go_roundw
              case rel => exact ⟨k + 1, by omega, by go_num, Nj.out⟩
              case measure => simp [intOf]; omega
    · obtain rfl : k = rows.length := by omega
      have N0 := hide hb
      clear hb Hbt Hls Hl3 Hfd Hxf hlt hk
      obtain ⟨L1, L2, L3, L4, L5, L6, L7⟩ := HL.out
      go_wp2_with (go_at_call 19; fail)
      refine (HPA.out wr N0.out (T : Int) hTI).mono ?_
      rintro e w2 ⟨rfl, b⟩
      rw [L1]
      have N1 := hide (show Nx w1 w2 from Nx.trans N0.out b)
      clear b N0 L1 HL
      obtain ⟨P, hP⟩ : ∃ n, power rows ws (T : Int) = n := ⟨_, rfl⟩
      rw [hP] at L2 L3 L4 L6 L7 ⊢
      have hPd := hpd.out
      rw [hP] at hPd
      have HPd := hide hPd
      have hPb : 0 ≤ P ∧ P ≤ 16000 := by have := Hpw.out 8 (Nat.le_refl _); omega
      clear hP hPd hpd
      obtain ⟨FS, hFS⟩ : ∃ n, blowsAt rows ws P = n := ⟨_, rfl⟩
      obtain ⟨MP, hMP⟩ : ∃ n, mostPower rows ws = n := ⟨_, rfl⟩
      rw [hFS] at L3 L4 L6 L7
      rw [hMP] at L2 L3
      have HFS := hide hFS
      have HMPe := hide hMP
      have HL4 := hide L4
      have HL5 := hide L5
      clear hFS hMP L4 L5
      go_wp2_with fail
      go_loopw [14, 15] (fun s i wr => ∃ k : Nat, k ≤ 8 ∧ i = .int .i64 k ∧ s = .int .i64 (pwTo rows ws (T : Int) k) ∧ Nx w1 wr) (fun _ i _ => 8 - (intOf i).toNat)
      case atStart => exact ⟨0, by omega, rfl, by rw [hp0.out], N1.out⟩
      case round =>
        clear N1 hp0
        obtain ⟨k, hk, rfl, rfl, hb⟩ := hrel
        by_cases hk8 : k < 8
        ·
          have hki : (k : Int) < 8 := by omega
          have hwk := Hwb.out k (by omega)
          have hpb := Hpw.out k hk
          have hlvk := Hlv.out k
          have hpn := hide (hps.out k)
          have q1 := Hcw.out wr hb k hk8
          have Nk := hide hb
          have hkI : I64 (k : Int) := by unfold I64; omega
          have hct := hide (fun (W : World) (b : Nx w1 W) => show Calls Try.prog 15 _ W fun e w' => e = .returned (.int .i64 (lvTo rows (k : Int) (T : Int) rows.length)) ∧ Nx W w' from by rw [← hlvk.1]; exact HLA.out W b (k : Int) (T : Int) hkI hTI)
          have hlb := hlvk.2
          clear hb hlvk
          generalize lvTo rows (k : Int) (T : Int) rows.length = LV at *
          generalize gt ws k = WK at *
          generalize pwTo rows ws (T : Int) k = PK at *
          have hpk : 0 ≤ PK ∧ PK ≤ 1600000 := by omega
          have hprod := pw_term (a := WK) (l := LV) (by omega) hlb
          have w1' : IntKind.i64.wrap (WK * LV) = WK * LV := IntWalk.i64_in _ (by omega)
          have w2' : IntKind.i64.wrap (PK + WK * LV) = PK + WK * LV := IntWalk.i64_in _ (by omega)
          have HS0 := hide (show Nx wr wr.drew ∧ wr.drew.cell? ⟨bw, ow + k, none⟩ = some (.int .i64 WK) from ⟨Nx.drew (Below.refl _ _), q1⟩)
          have KS := hide (fun (W : World) (b : Nx wr.drew W) => show Nx wr W ∧ W.cell? ⟨bw, ow + k, none⟩ = some (.int .i64 WK) from ⟨Nx.trans (Nx.drew (Below.refl _ _)) b, (b.cells bw (ow + k) (block_lt_of_cell HS0.out.2)).trans HS0.out.2⟩)
          have Md := hide (show Nx w1 wr.drew from Nx.drew Nk.out)
          clear q1 hprod hpb hwk hlb
          go_wp2_with fail
          go_region_held3 (fun w' => Nx wr w' ∧ w'.cell? ⟨bw, ow + k, none⟩ = some (.int .i64 WK))
            (first | exact HS0.out | exact KS.out _ bq)
            (first
              | (go_at_call 15; (with_reducible refine (hct.out wr.drew Md.out).mono ?_); rintro e w7 ⟨rfl, bq⟩))
          have Ne := hide (show Nx w1 w7 from Nx.trans Md.out bq)
          clear w1' w2' bq
          go_wp2
          go_roundw
          case rel => exact ⟨k + 1, by omega, by go_num, by rw [hpn.out], Ne.out⟩
          case measure => simp [intOf]; omega
        · obtain rfl : k = 8 := by omega
          have N2 := hide hb
          have hSU := Hpw.out 8 (Nat.le_refl _)
          clear hb hps Hpw Hlv Hcw Hwb
          go_wp2_with (go_at_call 20; fail)
          refine (HMP.out wr N2.out).mono ?_
          rintro e w3 ⟨rfl, b⟩
          rw [HMPe.out]
          have N3 := hide (show Nx w1 w3 from Nx.trans N2.out b)
          clear b N2
          have hPI : I64 P := by unfold I64; omega
          go_wp2_with (go_at_call 21; fail)
          refine (HBF.out w3 N3.out P hPI).mono ?_
          rintro e w4 ⟨rfl, b⟩
          rw [HFS.out]
          have N4 := hide (show Nx w1 w4 from Nx.trans N3.out b)
          clear b N3
          have e1 : (P == pwTo rows ws (T : Int) 8 / 100) = true := by rw [beq_iff_eq]; exact HPd.out
          generalize pwTo rows ws (T : Int) 8 = SU at *
          have hSU0 : 0 ≤ SU := hSU.1
          have hSU1 : SU ≤ 1600000 := by omega
          clear hSU
          have e2 : decide (P ≤ MP) = true := decide_eq_true L2
          rcases Int.lt_or_le FS 0 with h0 | h0
          ·
            have e3 : (FS == -1) = true := by rw [beq_iff_eq]; omega
            have e4 : decide (MP ≤ P) = true := decide_eq_true (L3.1 (by omega))
            have e5 : decide (FS < 0) = true := decide_eq_true h0
            clear L2 L3 h0
            go_wp2_with (go_at_call 12; fail)
            refine (impl_FadesOk _ rows w4 (HQ.out _ N4.out).2.1 hrl).mono ?_
            rintro e wA ⟨rfl, b⟩
            rw [Hok.out]
            have NA := hide (show Nx w1 wA from Nx.trans N4.out b)
            clear b
            go_wp2_with (go_at_call 21; fail)
            refine (HBF.out wA NA.out (-1) (by unfold I64; omega)).mono ?_
            rintro e wB ⟨rfl, b⟩
            rw [HL5.out]
            have NB := hide (show Nx w1 wB from Nx.trans NA.out b)
            clear b
            go_wp2_with fail
            go_ret
            exact ⟨rfl, (HQ.out _ NB.out).1⟩
          ·
            have e3 : (FS == -1) = false := by rw [beq_eq_false_iff_ne]; omega
            have e4 : decide (MP ≤ P) = false := decide_eq_false (fun h => by have := L3.2 h; omega)
            have e5 : decide (FS < 0) = false := decide_eq_false (by omega)
            have hFI : I64 FS := by unfold I64; omega
            have hq := HL4.out h0
            clear L2 L3
            go_wp2_with (go_at_call 19; fail)
            refine (HPA.out w4 N4.out FS hFI).mono ?_
            rintro e w5 ⟨rfl, b⟩
            have N5 := hide (show Nx w1 w5 from Nx.trans N4.out b)
            have e6 : decide (P < powerAt rows ws FS) = true := decide_eq_true hq
            clear b N4 hq
            generalize powerAt rows ws FS = PF at e6 ⊢
            go_wp2_with (go_at_call 12; fail)
            refine (impl_FadesOk _ rows w5 (HQ.out _ N5.out).2.1 hrl).mono ?_
            rintro e wA ⟨rfl, b⟩
            rw [Hok.out]
            have NA := hide (show Nx w1 wA from Nx.trans N5.out b)
            clear b
            go_wp2_with (go_at_call 21; fail)
            refine (HBF.out wA NA.out (-1) (by unfold I64; omega)).mono ?_
            rintro e wB ⟨rfl, b⟩
            rw [HL5.out]
            have NB := hide (show Nx w1 wB from Nx.trans NA.out b)
            clear b
            go_wp2_with fail
            go_ret
            exact ⟨rfl, (HQ.out _ NB.out).1⟩

open Go.ChangeShapes Go.WideShapes Go.ChangeAt Go.RowKit
open Go.ChangeMaps (open_string shut_string)

set_option linter.unusedVariables false
set_option maxRecDepth 100000 in
theorem lifted_FnLights (os : Os) (started : os.Started) (H : Type) (enc : TypeId × Value → H) :
    ReturnsInHanded {} Try.checked os 5 .any (Rows.fnLightsSpec.pre6 enc Try.prog Try.f5 Rows.fnLightsRow.domain false) (Rows.fnLightsSpec.post enc Try.prog Try.f5 false true false false) := by
  refine returnsInHanded_of_change (C := Try.checked) own started (by kernel_rfl) Try.func5
    (ChangeSpec.witness6 (enc := enc) (C := Try.checked) false ⟨#[], #[.slice none 0 0], []⟩ 8 (by kernel_rfl) (by kernel_rfl) (by kernel_rfl) (by kernel_rfl)) ?_
  intro W base args ds gs before hval0 hW hcnd _
  have hval : ∀ (j : Nat) t v, Try.f5.params[j]? = some t → args[j]? = some v → Value.okWide Try.prog W .any base t v := hval0
  have hW' := hW
  obtain ⟨p, q, hA0, hV, rfl, hfz, hnd⟩ := hW
  have hA : DataW.TrodAll enc Try.prog W 0 (fun _ => true) true Try.f5.params.toList args.toList ds p := hA0
  rw [Try.params5] at hA hval
  obtain ⟨v0, vs0, d0, ds0, p0, q0, hargs, rfl, rfl, h0, r0⟩ := trodAll_cons hA
  obtain ⟨rfl, rfl, rfl⟩ := trodAll_nil r0
  obtain rfl : args = #[v0] := by cases args; simp_all
  obtain ⟨rfl, rfl⟩ := trodVars_none hV
  obtain ⟨a0, len0, cap0, rfl⟩ := okWide_slice Try.underlying31 (hval 0 31 v0 rfl rfl)
  have k0 := h0
  have lt0 : ∀ x ∈ p0, x.block < W.heap.size := by obtain ⟨m, hm⟩ := k0; exact DataW.trod_lt m _ _ _ hm
  obtain ⟨z0, w0⟩ : ∃ zs, IsRow .u8 W a0 len0 cap0 zs := by
    obtain ⟨fuel, hf⟩ := h0
    rcases open_ints Try.underlying31 Try.underlying5 (by kernel_rfl) hf with ⟨hcs, _⟩ | ⟨x, l, c, zs, hcs, _, hl, hm, hz, _, hcell, hwz⟩
    · simp [Value.cells] at hcs
      obtain ⟨rfl, rfl, rfl⟩ := hcs
      exact ⟨[], .inl ⟨rfl, rfl, rfl, rfl⟩⟩
    · simp [Value.cells] at hcs
      obtain ⟨rfl, rfl, rfl⟩ := hcs
      exact ⟨zs, .inr ⟨_, rfl, hl, hm, by simpa using hz, hcell, hwz⟩⟩
  obtain ⟨y0, rd0, ln0⟩ := isRow_readsB w0
  clear hA0 hval0
  refine (walk'_FnLights W _ y0 rd0 ln0).mono fun e W' ⟨he, bel⟩ => ?_
  subst he
  exact ⟨_, rfl, _, _, _, [], _, [], hW', trodAll_mk1 (shut_bool Try.underlying4 _), (trodAll_cons_mk (Below.trod laidOut (by kernel_rfl) (of_decide_eq_true (by kernel_rfl)) k0 bel lt0) trodAll_mk0), rfl, bel.frame _, fun h => by cases h⟩

theorem holds_FnLights : Rows.FnLightsSaid :=
  OpenClaim.holds_of_wide 5 Try.f5 rfl rfl rfl rfl rfl rfl rfl ⟨rfl, rfl, rfl, rfl, rfl⟩ rfl rfl rfl rfl rfl (by kernel_rfl) Try.func5 (by kernel_rfl)
    (of_decide_eq_true (by kernel_rfl)) (by unfold Func.isWrapper; first | (rw [if_pos (by decide +kernel)]; kernel_rfl) | (rw [if_neg (by decide +kernel)]; exact ⟨rfl, rfl⟩))
    (fun os started H enc _ => lifted_FnLights os started H enc)
#print axioms holds_FnLights

end Go.Proofs.Ytiibegilolijlaa
