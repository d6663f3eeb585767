/- The law FnUnderstudies holds: for every input the program's function answers as the reference does; nothing that was there is changed. -/
import Derived.Test.YtfilpeamhcdgfaaPlV
import Derived.Test.YtfilpeamhcdgfaaUnP
import Derived.Test.YtfilpeamhcdgfaaDrP
import Derived.WalkKit
import Derived.ProofKit
import Derived.Handy
import Derived.OpenShut
import Derived.ShutString
import Derived.ChangeOld
import Derived.Below
import Derived.BigQuiet
import Derived.Deep.QuietTactic
import Derived.Deep.Draws
import Derived.Deep.DeepCutAuto
import Derived.Deep.DeepFit
import Derived.Deep.LoopGhost
import Derived.Outline
import Derived.WalkSpells
import Derived.WalkLawsBesides
import Derived.WalkSmall
import Derived.Laws.OwnMore
import Derived.OneCell
import Derived.Laws.Rows
import Derived.Maps.AppendAt
import Derived.StillTailTactics
import Derived.Lib.SmallJoins
import Derived.Deep.RegionWith
import Derived.Deep.RegionHeld3
import Derived.RegionTactic
import Derived.Deep.Matrix
import Derived.Deep.Fields
import Derived.ChangeSame
namespace Go.Proofs.Ytfilpeamhcdgfaa
open Go.RowKit

theorem safe_each {ps : List Plr} {pu : List Int} (h : safeP ps pu = true) {k : Nat} (hk : k < ps.length) : canP (illP ps (k : Int)) pu = true := by
  simp only [safeP, Bool.and_eq_true, List.all_eq_true, List.mem_range] at h
  exact h.2 k hk
theorem les_two (ps : List Plr) (pu : List Int) : lesson ps pu = none ∨ ∃ k j, lesson ps pu = some (k, j) ∧ safeP ps pu = false ∧ k < ps.length ∧ j < pu.length ∧ teachB ps (k : Int) (gt pu j) = true ∧ safeP (teachP ps (k : Int) (gt pu j)) pu = true := by
  cases h : lesson ps pu with
  | none => exact .inl rfl
  | some p =>
    obtain ⟨k, j⟩ := p
    exact .inr ⟨k, j, rfl, lesson_spec h⟩
set_option maxRecDepth 100000 in
set_option linter.unusedVariables false in
set_option maxHeartbeats 1000000 in
theorem walk'_FnUnderstudies (w0 : World) (v : Value) (zs : List Int) (hr : RdB w0 v zs) (hml : zs.length ≤ maxLen) :
    Calls Try.prog 4 #[v] w0 fun e w' => e = .returned (.bool true) ∧ Nx w0 w' := by
  by_cases hl : 1048576 < zs.length
  · have hbig : decide (1048576 < (zs.length : Int)) = true := by simp; omega
    have HR := hide hr
    go_enter Try.func4, Try.ntmps4
    go_wp2_with (go_at_call 16; refine (big_any v zs _ HR.out).mono ?_; rintro e w' ⟨rfl, rfl⟩)
    go_ret
    exact ⟨rfl, Below.refl _ _⟩
  have hl : zs.length ≤ 1048576 := by omega
  have hbig : decide (1048576 < (zs.length : Int)) = false := by simp; omega
  have HR := hide hr
  clear hr
  go_enter Try.func4, Try.ntmps4
  go_wp2_with (go_at_call 16; refine (big_any v zs _ HR.out).mono ?_; rintro e w' ⟨rfl, rfl⟩)
  clear hbig
  go_wp2_with fail
  refine (DrawTroupe_any v zs _ HR.out hl).mono ?_
  rintro e w1 ⟨u, q, rfl, ps, pu, ho, hi, htr, hn, hp3, hp5, hb⟩
  have hok := htr.ok hn.1 (by omega)
  have hfit := ok_fit hok
  have hpl : pu.length ≤ 1048576 := by omega
  have hn5 : ps.length ≤ 5 := hn.2
  have HU := hide ho.reads
  have HP := hide hi.reads
  have HB := hide hb
  have H3 := hide (three_ways ps pu)
  have Hill := hide (fun k (hk : k < ps.length) => illB_yes hok hk)
  have Hfr := hide (fun k (hk : k < ps.length) => fr_ill hok hk)
  have Hhas := hide (fun k (hk : k < ps.length) (h : canP ps pu = true) => needed_has hk h)
  have Hall := hide (fun k (hk : k < ps.length) (h : safeP ps pu = true) => safe_each h hk)
  have Hfit := hide (fun k : Int => hfit.ill k)
  have hT1 := hide (teach_six hok ((htr 0 (by omega)).2.1))
  have hT2 := hide (teach_twice hT1.out)
  have hT3 := hide (teachP_length ps 0 6)
  have hT4 := hide (teach_fit hT1.out)
  have hSn := hide (safe_nil hok)
  have Hls := hide (les_two ps pu)
  have Hp5 := hide hp5
  have hNl := needed_length ps pu
  have Hok := hide hok
  have hne : ((ps.length : Int) != (ps.length : Int)) = false := by simp
  have hee : ((ps.length : Int) == (ps.length : Int)) = true := by simp
  obtain ⟨A, c, rfl, _⟩ := ho.reads
  obtain ⟨Ap, cp, rfl, _⟩ := hi.reads
  clear ho hi htr hn hp5 hb hok
  go_wp2_with fail
  refine (impl_IsSafe _ ps _ pu w1 HU.out hfit HP.out hpl).mono ?_
  rintro e w2 ⟨rfl, b2⟩
  have HU2 := hide (HU.out.below b2)
  have HP2 := hide (HP.out.below b2)
  have HB2 := hide (HB.out.trans b2)
  clear b2 HU HP HB
  go_wp2_with fail
  refine (impl_NeededPlayers _ ps _ pu w2 HU2.out hfit HP2.out hpl).mono ?_
  rintro e w3 ⟨un, rfl, on, b3⟩
  have HU3 := hide (HU2.out.below b3)
  have HP3 := hide (HP2.out.below b3)
  have HB3 := hide (HB2.out.trans b3)
  have HN3 := hide on.reads
  obtain ⟨An, cn, rfl, _⟩ := on.reads
  clear b3 HU2 HP2 HB2 on
  go_wp2_with fail
  refine (spec_FirstCasting _ ps _ pu w3 HU3.out hfit HP3.out hpl).mono ?_
  rintro e w4 ⟨r4, rfl, b4⟩
  have HU4 := hide (HU3.out.below b4)
  have HP4 := hide (HP3.out.below b4)
  have HB4 := hide (HB3.out.trans b4)
  have HN4 := hide (HN3.out.below b4)
  clear b4 HU3 HP3 HB3 HN3
  generalize needed ps pu = N at *
  generalize hsf : safeP ps pu = sf at *
  generalize hcf : canP ps pu = ok at *
  have Hsf := hide hsf
  clear hsf hcf
  have hNl' : N.length ≤ 1048576 := by omega
  go_wp2_with fail
  go_loopw [9] (fun i wr => ∃ k : Nat, k ≤ ps.length ∧ i = .int .i64 k ∧ Nx w4 wr) (fun i _ => ps.length - (intOf i).toNat)
  case atStart => exact ⟨0, Nat.zero_le _, rfl, Below.refl _ _⟩
  case round =>
    obtain ⟨k, hk, rfl, hb⟩ := hrel
    have HUk := hide (HU4.out.below hb)
    have HPk := hide (HP4.out.below hb)
    have HNk := hide (HN4.out.below hb)
    have HBk := hide (HB4.out.trans hb)
    have Hb := hide hb
    clear hb HU4 HP4 HN4 HB4
    by_cases hlt : k < ps.length
    ·
      have hki : (k : Int) < (ps.length : Int) := by omega
      go_wp2_with (go_at_call 20; fail)
      refine (impl_WithoutPlayer _ ps (k : Int) wr HUk.out hfit (by unfold I64; omega)).mono ?_
      rintro e w6 ⟨ux, rfl, ox, b6⟩
      rw [Hill.out k hlt]
      have HPx := hide (HPk.out.below b6)
      have HNx := hide (HNk.out.below b6)
      have Hb6 := hide (Hb.out.trans b6)
      have hxl := illP_length ps (k : Int)
      have hrx := ox.reads
      obtain ⟨Ax, cx, rfl, hx⟩ := ox.reads
      obtain ⟨b, off, rfl, hblt, hcell⟩ := hx (by rw [hxl]; omega)
      have hf := (hcell k (by rw [hxl]; exact hlt)).2
      rw [Hfr.out k hlt] at hf
      rw [hxl] at hrx ⊢
      have HX := hide hrx
      have hfx := Hfit.out (k : Int)
      have hcs := Hall.out k hlt
      have hch := Hhas.out k hlt
      clear b6 hx hcell hxl hrx ox HPk HNk Hb HUk HBk
      generalize illP ps (k : Int) = X at *
      go_wp2_with fail
      refine (spec_FirstCasting _ X _ pu w6 HX.out hfx HPx.out hpl).mono ?_
      rintro e w7 ⟨r7, rfl, b7⟩
      have HN7 := hide (HNx.out.below b7)
      have Hb7 := hide (Hb6.out.trans b7)
      clear b7 HX HPx HNx Hb6 hf
      generalize canP X pu = can at *
      cases ok with
      | false =>
        obtain rfl : sf = false := by
          have := H3.out
          cases sf with
          | false => rfl
          | true => simp at this
        clear hcs hch
        go_wp2_with fail
        go_roundw
        case rel => exact ⟨k + 1, by omega, by go_num, Hb7.out⟩
        case measure => simp [intOf]; omega
      | true =>
        cases can with
        | false =>
          obtain rfl : sf = false := by
            cases sf with
            | false => rfl
            | true => have := hcs rfl; simp at this
          have hd : decide ((k : Int) ∈ N) = true := hch rfl
          clear hcs hch
          go_wp2_with (go_at_call 21; refine (has_dec _ N (k : Int) _ HN7.out hNl').mono ?_; rintro e w' ⟨rfl, rfl⟩; rw [hd])
          go_roundw
          case rel => exact ⟨k + 1, by omega, by go_num, Hb7.out⟩
          case measure => simp [intOf]; omega
        | true =>
          have hd : decide ((k : Int) ∈ N) = false := hch rfl
          clear hcs hch
          cases sf with
          | false =>
            go_wp2_with (go_at_call 21; refine (has_dec _ N (k : Int) _ HN7.out hNl').mono ?_; rintro e w' ⟨rfl, rfl⟩; rw [hd])
            go_roundw
            case rel => exact ⟨k + 1, by omega, by go_num, Hb7.out⟩
            case measure => simp [intOf]; omega
          | true =>
            go_wp2_with (go_at_call 21; refine (has_dec _ N (k : Int) _ HN7.out hNl').mono ?_; rintro e w' ⟨rfl, rfl⟩; rw [hd])
            go_roundw
            case rel => exact ⟨k + 1, by omega, by go_num, Hb7.out⟩
            case measure => simp [intOf]; omega
    · obtain rfl : k = ps.length := by omega
      clear Hhas Hall Hill Hfr Hfit hlt hk
      rcases H3.out with ⟨rfl, rfl, hn0⟩ | ⟨rfl, rfl, hn0, _⟩ | ⟨rfl, rfl, hn0⟩
      ·
        have hn1 : ((N.length : Int) != 0) = false := by rw [hn0]; rfl
        have hn2 : ((N.length : Int) == 0) = true := by rw [hn0]; rfl
        clear hn0 H3
        go_wp2_with fail
        refine (impl_BestLesson _ ps _ pu wr HUk.out hfit HPk.out hpl).mono ?_
        rintro e w8 ⟨rfl, b8⟩
        have HU8 := hide (HUk.out.below b8)
        have HP8 := hide (HPk.out.below b8)
        have HB8 := hide (HBk.out.trans b8)
        clear b8 HUk HPk HBk HNk Hb
        rcases Hls.out with hle | ⟨k, j, hle, hs, hk, hj, hte, hsa⟩
        · rw [lesV_none hle]
          clear hle
          go_wp2_with (go_at_call 23; fail)
          refine (impl_TeachPuppet _ ps 0 6 w8 HU8.out hfit (by unfold I64; omega) (by unfold I64; omega)).mono ?_
          rintro e wy ⟨uz, rfl, oz, bz⟩
          rw [hT1.out]
          have hrz := oz.reads
          obtain ⟨Az, cz, rfl, _⟩ := oz.reads
          rw [hT3.out] at hrz ⊢
          have HZ := hide hrz
          have HUz := hide (HU8.out.below bz)
          have HBz := hide (HB8.out.trans bz)
          clear bz oz hrz HU8 HB8
          go_wp2_with (go_at_call 23; fail)
          refine (impl_TeachPuppet _ (teachP ps 0 6) 0 6 wy HZ.out hT4.out (by unfold I64; omega) (by unfold I64; omega)).mono ?_
          rintro e wz ⟨uzz, rfl, _, bzz⟩
          rw [hT2.out]
          have HUy := hide (HUz.out.below bzz)
          have HBy := hide (HBz.out.trans bzz)
          clear bzz HUz HBz HZ
          go_wp2_with (go_at_call 18; fail)
          refine (impl_IsSafe _ ps _ [] wz HUy.out hfit ⟨none, 0, rfl, fun h => absurd h (by simp)⟩ (by simp)).mono ?_
          rintro e wq ⟨rfl, bq⟩
          rw [hSn.out]
          have HBq := hide (HBy.out.trans bq)
          clear bq
          go_wp2_with fail
          go_ret
          exact ⟨rfl, HBq.out⟩
        · rw [lesV_some hle]
          clear hle
          have hqj := Hp5.out j hj
          have Hmem := hide (show decide (gt pu j ∈ pu) = true from decide_eq_true (gt_mem hj))
          have hki : (k : Int) ≤ 5 := by omega
          have hfy := hide (teach_fit hte)
          have Hte := hide hte
          have Hsa := hide hsa
          clear hte hsa
          generalize gt pu j = pj at *
          go_wp2_with (go_at_call 23; fail)
          refine (impl_TeachPuppet _ ps (k : Int) pj w8 HU8.out hfit (by unfold I64; omega) (by unfold I64; omega)).mono ?_
          rintro e w9 ⟨uy, rfl, oy, b9⟩
          rw [Hte.out]
          have HY := hide oy.reads
          have HU9 := hide (HU8.out.below b9)
          have HP9 := hide (HP8.out.below b9)
          have HB9 := hide (HB8.out.trans b9)
          obtain ⟨Ay, cy, rfl, _⟩ := oy.reads
          clear b9 oy HU8 HP8 HB8
          go_wp2_with (go_at_call 24; fail)
          refine (spec_IsSafe _ (teachP ps (k : Int) pj) _ pu w9 HY.out hfy.out HP9.out hpl).mono ?_
          rintro e w10 ⟨rfl, b10⟩
          rw [Hsa.out]
          have HU10 := hide (HU9.out.below b10)
          have HP10 := hide (HP9.out.below b10)
          have HB10 := hide (HB9.out.trans b10)
          clear b10 HU9 HP9 HB9 HY
          go_wp2_with (go_at_call 21; refine (has_dec _ pu pj _ HP10.out hpl).mono ?_; rintro e w' ⟨rfl, rfl⟩; rw [Hmem.out])
          refine (impl_TeachPuppet _ ps 0 6 w10 HU10.out hfit (by unfold I64; omega) (by unfold I64; omega)).mono ?_
          rintro e wy ⟨uz, rfl, oz, bz⟩
          rw [hT1.out]
          have hrz := oz.reads
          obtain ⟨Az, cz, rfl, _⟩ := oz.reads
          rw [hT3.out] at hrz ⊢
          have HZ := hide hrz
          have HUz := hide (HU10.out.below bz)
          have HBz := hide (HB10.out.trans bz)
          clear bz oz hrz HU10 HB10
          go_wp2_with (go_at_call 23; fail)
          refine (impl_TeachPuppet _ (teachP ps 0 6) 0 6 wy HZ.out hT4.out (by unfold I64; omega) (by unfold I64; omega)).mono ?_
          rintro e wz ⟨uzz, rfl, _, bzz⟩
          rw [hT2.out]
          have HUy := hide (HUz.out.below bzz)
          have HBy := hide (HBz.out.trans bzz)
          clear bzz HUz HBz HZ
          go_wp2_with (go_at_call 18; fail)
          refine (impl_IsSafe _ ps _ [] wz HUy.out hfit ⟨none, 0, rfl, fun h => absurd h (by simp)⟩ (by simp)).mono ?_
          rintro e wq ⟨rfl, bq⟩
          rw [hSn.out]
          have HBq := hide (HBy.out.trans bq)
          clear bq
          go_wp2_with fail
          go_ret
          exact ⟨rfl, HBq.out⟩
      ·
        have hn1 : ((N.length : Int) != 0) = false := by rw [hn0]; rfl
        have hn2 : ((N.length : Int) == 0) = true := by rw [hn0]; rfl
        clear hn0 H3
        go_wp2_with fail
        refine (impl_BestLesson _ ps _ pu wr HUk.out hfit HPk.out hpl).mono ?_
        rintro e w8 ⟨rfl, b8⟩
        have HU8 := hide (HUk.out.below b8)
        have HP8 := hide (HPk.out.below b8)
        have HB8 := hide (HBk.out.trans b8)
        clear b8 HUk HPk HBk HNk Hb
        rcases Hls.out with hle | ⟨k, j, hle, hs, hk, hj, hte, hsa⟩
        · rw [lesV_none hle]
          clear hle
          go_wp2_with (go_at_call 23; fail)
          refine (impl_TeachPuppet _ ps 0 6 w8 HU8.out hfit (by unfold I64; omega) (by unfold I64; omega)).mono ?_
          rintro e wy ⟨uz, rfl, oz, bz⟩
          rw [hT1.out]
          have hrz := oz.reads
          obtain ⟨Az, cz, rfl, _⟩ := oz.reads
          rw [hT3.out] at hrz ⊢
          have HZ := hide hrz
          have HUz := hide (HU8.out.below bz)
          have HBz := hide (HB8.out.trans bz)
          clear bz oz hrz HU8 HB8
          go_wp2_with (go_at_call 23; fail)
          refine (impl_TeachPuppet _ (teachP ps 0 6) 0 6 wy HZ.out hT4.out (by unfold I64; omega) (by unfold I64; omega)).mono ?_
          rintro e wz ⟨uzz, rfl, _, bzz⟩
          rw [hT2.out]
          have HUy := hide (HUz.out.below bzz)
          have HBy := hide (HBz.out.trans bzz)
          clear bzz HUz HBz HZ
          go_wp2_with (go_at_call 18; fail)
          refine (impl_IsSafe _ ps _ [] wz HUy.out hfit ⟨none, 0, rfl, fun h => absurd h (by simp)⟩ (by simp)).mono ?_
          rintro e wq ⟨rfl, bq⟩
          rw [hSn.out]
          have HBq := hide (HBy.out.trans bq)
          clear bq
          go_wp2_with fail
          go_ret
          exact ⟨rfl, HBq.out⟩
        · exact absurd hs (by decide)
      ·
        have hn1 : ((N.length : Int) != 0) = true := by rw [bne_iff_ne]; omega
        have hn2 : ((N.length : Int) == 0) = false := by rw [beq_eq_false_iff_ne]; omega
        clear hn0 H3
        go_wp2_with fail
        refine (impl_BestLesson _ ps _ pu wr HUk.out hfit HPk.out hpl).mono ?_
        rintro e w8 ⟨rfl, b8⟩
        have HU8 := hide (HUk.out.below b8)
        have HP8 := hide (HPk.out.below b8)
        have HB8 := hide (HBk.out.trans b8)
        clear b8 HUk HPk HBk HNk Hb
        rcases Hls.out with hle | ⟨k, j, hle, hs, hk, hj, hte, hsa⟩
        · rw [lesV_none hle]
          clear hle
          go_wp2_with (go_at_call 23; fail)
          refine (impl_TeachPuppet _ ps 0 6 w8 HU8.out hfit (by unfold I64; omega) (by unfold I64; omega)).mono ?_
          rintro e wy ⟨uz, rfl, oz, bz⟩
          rw [hT1.out]
          have hrz := oz.reads
          obtain ⟨Az, cz, rfl, _⟩ := oz.reads
          rw [hT3.out] at hrz ⊢
          have HZ := hide hrz
          have HUz := hide (HU8.out.below bz)
          have HBz := hide (HB8.out.trans bz)
          clear bz oz hrz HU8 HB8
          go_wp2_with (go_at_call 23; fail)
          refine (impl_TeachPuppet _ (teachP ps 0 6) 0 6 wy HZ.out hT4.out (by unfold I64; omega) (by unfold I64; omega)).mono ?_
          rintro e wz ⟨uzz, rfl, _, bzz⟩
          rw [hT2.out]
          have HUy := hide (HUz.out.below bzz)
          have HBy := hide (HBz.out.trans bzz)
          clear bzz HUz HBz HZ
          go_wp2_with (go_at_call 18; fail)
          refine (impl_IsSafe _ ps _ [] wz HUy.out hfit ⟨none, 0, rfl, fun h => absurd h (by simp)⟩ (by simp)).mono ?_
          rintro e wq ⟨rfl, bq⟩
          rw [hSn.out]
          have HBq := hide (HBy.out.trans bq)
          clear bq
          go_wp2_with fail
          go_ret
          exact ⟨rfl, HBq.out⟩
        · rw [lesV_some hle]
          clear hle
          have hqj := Hp5.out j hj
          have Hmem := hide (show decide (gt pu j ∈ pu) = true from decide_eq_true (gt_mem hj))
          have hki : (k : Int) ≤ 5 := by omega
          have hfy := hide (teach_fit hte)
          have Hte := hide hte
          have Hsa := hide hsa
          clear hte hsa
          generalize gt pu j = pj at *
          go_wp2_with (go_at_call 23; fail)
          refine (impl_TeachPuppet _ ps (k : Int) pj w8 HU8.out hfit (by unfold I64; omega) (by unfold I64; omega)).mono ?_
          rintro e w9 ⟨uy, rfl, oy, b9⟩
          rw [Hte.out]
          have HY := hide oy.reads
          have HU9 := hide (HU8.out.below b9)
          have HP9 := hide (HP8.out.below b9)
          have HB9 := hide (HB8.out.trans b9)
          obtain ⟨Ay, cy, rfl, _⟩ := oy.reads
          clear b9 oy HU8 HP8 HB8
          go_wp2_with (go_at_call 24; fail)
          refine (spec_IsSafe _ (teachP ps (k : Int) pj) _ pu w9 HY.out hfy.out HP9.out hpl).mono ?_
          rintro e w10 ⟨rfl, b10⟩
          rw [Hsa.out]
          have HU10 := hide (HU9.out.below b10)
          have HP10 := hide (HP9.out.below b10)
          have HB10 := hide (HB9.out.trans b10)
          clear b10 HU9 HP9 HB9 HY
          go_wp2_with (go_at_call 21; refine (has_dec _ pu pj _ HP10.out hpl).mono ?_; rintro e w' ⟨rfl, rfl⟩; rw [Hmem.out])
          refine (impl_TeachPuppet _ ps 0 6 w10 HU10.out hfit (by unfold I64; omega) (by unfold I64; omega)).mono ?_
          rintro e wy ⟨uz, rfl, oz, bz⟩
          rw [hT1.out]
          have hrz := oz.reads
          obtain ⟨Az, cz, rfl, _⟩ := oz.reads
          rw [hT3.out] at hrz ⊢
          have HZ := hide hrz
          have HUz := hide (HU10.out.below bz)
          have HBz := hide (HB10.out.trans bz)
          clear bz oz hrz HU10 HB10
          go_wp2_with (go_at_call 23; fail)
          refine (impl_TeachPuppet _ (teachP ps 0 6) 0 6 wy HZ.out hT4.out (by unfold I64; omega) (by unfold I64; omega)).mono ?_
          rintro e wz ⟨uzz, rfl, _, bzz⟩
          rw [hT2.out]
          have HUy := hide (HUz.out.below bzz)
          have HBy := hide (HBz.out.trans bzz)
          clear bzz HUz HBz HZ
          go_wp2_with (go_at_call 18; fail)
          refine (impl_IsSafe _ ps _ [] wz HUy.out hfit ⟨none, 0, rfl, fun h => absurd h (by simp)⟩ (by simp)).mono ?_
          rintro e wq ⟨rfl, bq⟩
          rw [hSn.out]
          have HBq := hide (HBy.out.trans bq)
          clear bq
          go_wp2_with fail
          go_ret
          exact ⟨rfl, HBq.out⟩

open Go.ChangeShapes Go.WideShapes Go.ChangeAt Go.RowKit
open Go.ChangeMaps (open_string shut_string)

set_option linter.unusedVariables false
set_option maxRecDepth 100000 in
theorem lifted_FnUnderstudies (os : Os) (started : os.Started) (H : Type) (enc : TypeId × Value → H) :
    ReturnsInHanded {} Try.checked os 4 .any (Rows.fnUnderstudiesSpec.pre6 enc Try.prog Try.f4 Rows.fnUnderstudiesRow.domain false) (Rows.fnUnderstudiesSpec.post enc Try.prog Try.f4 false true false false) := by
  refine returnsInHanded_of_change (C := Try.checked) own started (by kernel_rfl) Try.func4
    (ChangeSpec.witness6 (enc := enc) (C := Try.checked) false ⟨#[], #[.slice none 0 0], []⟩ 8 (by kernel_rfl) (by kernel_rfl) (by kernel_rfl) (by kernel_rfl)) ?_
  intro W base args ds gs before hval0 hW hcnd _
  have hval : ∀ (j : Nat) t v, Try.f4.params[j]? = some t → args[j]? = some v → Value.okWide Try.prog W .any base t v := hval0
  have hW' := hW
  obtain ⟨p, q, hA0, hV, rfl, hfz, hnd⟩ := hW
  have hA : DataW.TrodAll enc Try.prog W 0 (fun _ => true) true Try.f4.params.toList args.toList ds p := hA0
  rw [Try.params4] at hA hval
  obtain ⟨v0, vs0, d0, ds0, p0, q0, hargs, rfl, rfl, h0, r0⟩ := trodAll_cons hA
  obtain ⟨rfl, rfl, rfl⟩ := trodAll_nil r0
  obtain rfl : args = #[v0] := by cases args; simp_all
  obtain ⟨rfl, rfl⟩ := trodVars_none hV
  obtain ⟨a0, len0, cap0, rfl⟩ := okWide_slice Try.underlying34 (hval 0 34 v0 rfl rfl)
  have k0 := h0
  have lt0 : ∀ x ∈ p0, x.block < W.heap.size := by obtain ⟨m, hm⟩ := k0; exact DataW.trod_lt m _ _ _ hm
  obtain ⟨z0, w0⟩ : ∃ zs, IsRow .u8 W a0 len0 cap0 zs := by
    obtain ⟨fuel, hf⟩ := h0
    rcases open_ints Try.underlying34 Try.underlying5 (by kernel_rfl) hf with ⟨hcs, _⟩ | ⟨x, l, c, zs, hcs, _, hl, hm, hz, _, hcell, hwz⟩
    · simp [Value.cells] at hcs
      obtain ⟨rfl, rfl, rfl⟩ := hcs
      exact ⟨[], .inl ⟨rfl, rfl, rfl, rfl⟩⟩
    · simp [Value.cells] at hcs
      obtain ⟨rfl, rfl, rfl⟩ := hcs
      exact ⟨zs, .inr ⟨_, rfl, hl, hm, by simpa using hz, hcell, hwz⟩⟩
  obtain ⟨y0, rd0, ln0⟩ := isRow_readsB w0
  clear hA0 hval0
  refine (walk'_FnUnderstudies W _ y0 rd0 ln0).mono fun e W' ⟨he, bel⟩ => ?_
  subst he
  exact ⟨_, rfl, _, _, _, [], _, [], hW', trodAll_mk1 (shut_bool Try.underlying4 _), (trodAll_cons_mk (Below.trod laidOut (by kernel_rfl) (of_decide_eq_true (by kernel_rfl)) k0 bel lt0) trodAll_mk0), rfl, bel.frame _, fun h => by cases h⟩

theorem holds_FnUnderstudies : Rows.FnUnderstudiesSaid :=
  OpenClaim.holds_of_wide 4 Try.f4 rfl rfl rfl rfl rfl rfl rfl ⟨rfl, rfl, rfl, rfl, rfl⟩ rfl rfl rfl rfl rfl (by kernel_rfl) Try.func4 (by kernel_rfl)
    (of_decide_eq_true (by kernel_rfl)) (by unfold Func.isWrapper; first | (rw [if_pos (by decide +kernel)]; kernel_rfl) | (rw [if_neg (by decide +kernel)]; exact ⟨rfl, rfl⟩))
    (fun os started H enc _ => lifted_FnUnderstudies os started H enc)
#print axioms holds_FnUnderstudies

end Go.Proofs.Ytfilpeamhcdgfaa
