/- The law FnExactNeededPlayers holds: for every input the program's function answers as the reference does; nothing that was there is changed. -/
import Derived.Test.YtfilpeamhcdgfaaPlN
import Derived.WalkKit
import Derived.ProofKit
import Derived.Handy
import Derived.OpenShut
import Derived.ShutString
import Derived.ChangeOld
import Derived.Below
import Derived.BigQuiet
import Derived.Deep.QuietTactic
import Derived.Deep.Draws
import Derived.Deep.DeepCutAuto
import Derived.Deep.DeepFit
import Derived.Deep.LoopGhost
import Derived.Outline
import Derived.WalkSpells
import Derived.WalkLawsBesides
import Derived.WalkSmall
import Derived.Laws.OwnMore
import Derived.OneCell
import Derived.Laws.Rows
import Derived.Maps.AppendAt
import Derived.StillTailTactics
import Derived.Lib.SmallJoins
import Derived.Deep.RegionWith
import Derived.Deep.RegionHeld3
import Derived.RegionTactic
import Derived.Deep.Matrix
import Derived.Deep.Fields
import Derived.ChangeSame
namespace Go.Proofs.Ytfilpeamhcdgfaa
open Go.RowKit

set_option linter.unusedVariables false in
set_option maxHeartbeats 4000000 in
theorem walk'_FnExactNeededPlayers (w0 : World) (v0 : Value) (z0 : List Plr) (r0 : RdP w0 v0 z0) (l0 : LenP z0) (_ : OkP z0) (v1 : Value) (z1 : List Int) (r1 : RdI w0 v1 z1) (l1 : z1.length ≤ maxLen) (_ : ∀ n ∈ z1, I64 n) :
    Calls Try.prog 3 #[v0, v1] w0 fun e w' => e = .returned (.bool true) ∧ Nx w0 w' := by
  by_cases g1 : 1048576 < z1.length
  · obtain ⟨A1, c1, rfl, hx1⟩ := r1
    clear hx1
    go_enter Try.func3, Try.ntmps3
    go_wp2_with fail
    go_ret
    exact ⟨rfl, Below.refl _ _⟩
  have n1 : z1.length ≤ 1048576 := by omega
  have q1 := r1
  obtain ⟨A1, c1, rfl, hx1⟩ := r1
  clear hx1
  have q0 := r0
  go_enter Try.func3, Try.ntmps3
  have hb : Nx w0 w0 := Below.refl _ _
  go_wp2_with fail
  refine (szPlayerS_any _ z0 _ _ (q0.below hb) l0 (by omega) (by omega)).mono ?_
  rintro e w1 ⟨sz0, rfl, hs0, b⟩
  have hz_w1 := b.size
  replace hb := hb.trans b
  clear b
  by_cases g0 : sz0 < 0
  · go_wp2_with fail
    go_ret
    exact ⟨rfl, hb⟩
  have n0 := (hs0 (by omega)).1
  have m0 := (hs0 (by omega)).2
  clear hs0
  go_wp2_with fail
  refine (toPlayerS_any _ _ _ (q0.below hb) n0).mono ?_
  rintro e w2 ⟨s0, rfl, o_s0, b⟩
  replace o_s0 := o_s0.toH
  have hz_w2 := b.size
  replace hb := hb.trans b
  clear b
  go_wp2_with fail
  refine (toIntS_any _ _ _ (q1.below hb) n1).mono ?_
  rintro e w3 ⟨s1, rfl, o_s1, b⟩
  replace o_s1 := o_s1.toH
  have hz_w3 := b.size
  replace o_s0 := o_s0.below b
  replace hb := hb.trans b
  clear b
  go_wp2_with fail
  refine (spec_NeededPlayers _ _ _ _ _ o_s0.reads n0 o_s1.reads n1).mono ?_
  rintro e w4 ⟨w, rfl, o_w, b⟩
  replace o_w := o_w.toH
  have hz_w4 := b.size
  replace o_s0 := o_s0.below b
  replace o_s1 := o_s1.below b
  replace hb := hb.trans b
  clear b
  clear o_s0
  clear o_s1
  go_wp2_with fail
  refine (toPlayerS_any _ _ _ (q0.below hb) n0).mono ?_
  rintro e w5 ⟨x0, rfl, o_x0, b⟩
  replace o_x0 := o_x0.toH
  have hz_w5 := b.size
  replace o_w := o_w.below b
  replace hb := hb.trans b
  clear b
  go_wp2_with fail
  refine (toIntS_any _ _ _ (q1.below hb) n1).mono ?_
  rintro e w6 ⟨x1, rfl, o_x1, b⟩
  replace o_x1 := o_x1.toH
  have hz_w6 := b.size
  replace o_w := o_w.below b
  replace o_x0 := o_x0.below b
  replace hb := hb.trans b
  clear b
  go_wp2_with fail
  refine (impl_NeededPlayers _ _ _ _ _ o_x0.reads n0 o_x1.reads n1).mono ?_
  rintro e w7 ⟨g, rfl, o_g, b⟩
  replace o_g := o_g.toH
  have hz_w7 := b.size
  replace o_w := o_w.below b
  replace o_x0 := o_x0.below b
  replace o_x1 := o_x1.below b
  replace hb := hb.trans b
  clear b
  have ng := NeededPlayers_len z0 z1 n0 n1
  go_wp2_with fail
  refine (eqIntS_same _ _ _ _ o_g.reads o_w.reads ng).mono ?_
  rintro e w8 ⟨rfl, b⟩
  have hz_w8 := b.size
  replace o_w := o_w.below b
  replace o_x0 := o_x0.below b
  replace o_x1 := o_x1.below b
  replace o_g := o_g.below b
  replace hb := hb.trans b
  clear b
  go_wp2_with fail
  refine (toPlayerS_any _ _ _ (q0.below hb) n0).mono ?_
  rintro e w9 ⟨y0, rfl, o_y0, b⟩
  replace o_y0 := o_y0.toH
  have hz_w9 := b.size
  replace o_w := o_w.below b
  replace o_x0 := o_x0.below b
  replace o_x1 := o_x1.below b
  replace o_g := o_g.below b
  replace hb := hb.trans b
  clear b
  go_wp2_with fail
  refine (eqPlayerS_same _ _ _ _ o_x0.reads o_y0.reads n0).mono ?_
  rintro e w10 ⟨rfl, b⟩
  have hz_w10 := b.size
  replace o_w := o_w.below b
  replace o_x0 := o_x0.below b
  replace o_x1 := o_x1.below b
  replace o_g := o_g.below b
  replace o_y0 := o_y0.below b
  replace hb := hb.trans b
  clear b
  clear o_y0
  go_wp2_with fail
  refine (toIntS_any _ _ _ (q1.below hb) n1).mono ?_
  rintro e w11 ⟨y1, rfl, o_y1, b⟩
  replace o_y1 := o_y1.toH
  have hz_w11 := b.size
  replace o_w := o_w.below b
  replace o_x0 := o_x0.below b
  replace o_x1 := o_x1.below b
  replace o_g := o_g.below b
  replace hb := hb.trans b
  clear b
  go_wp2_with fail
  refine (eqIntS_same _ _ _ _ o_x1.reads o_y1.reads n1).mono ?_
  rintro e w12 ⟨rfl, b⟩
  have hz_w12 := b.size
  replace o_w := o_w.below b
  replace o_x0 := o_x0.below b
  replace o_x1 := o_x1.below b
  replace o_g := o_g.below b
  replace o_y1 := o_y1.below b
  replace hb := hb.trans b
  clear b
  clear o_y1
  have t0 := n0.2
  go_wp2_with fail
  refine (markPlayerS_any _ _ _ _ _ _ o_x0 n0 (by omega) (by omega)).mono ?_
  rintro e w13 ⟨rfl, m_x0, ho⟩
  clear o_x0
  have o_x0 := m_x0
  clear m_x0
  have hz_w13 := ho.size
  replace o_w := o_w.outb ho (.inl (by omega))
  replace o_x1 := o_x1.outb ho (.inr (by omega))
  replace o_g := o_g.outb ho (.inr (by omega))
  replace hb := hb.outb ho (by omega)
  clear ho
  clear o_x0
  go_wp2_with fail
  refine (markIntS_any _ _ _ _ _ o_x1.1 n1 (by omega) (by omega)).mono ?_
  rintro e w14 ⟨rfl, m_x1, hg⟩
  have hm := o_x1.grownBy m_x1 hg
  have ho := hm.2
  clear hg m_x1
  replace o_x1 := hm.1
  clear hm
  have hz_w14 := ho.size
  replace o_w := o_w.outb ho (.inl (by omega))
  replace o_g := o_g.outb ho (.inr (by omega))
  replace hb := hb.outb ho (by omega)
  clear ho
  clear o_x1
  go_wp2_with fail
  refine (eqIntS_same _ _ _ _ o_g.reads o_w.reads ng).mono ?_
  rintro e w15 ⟨rfl, b⟩
  have hz_w15 := b.size
  replace o_w := o_w.below b
  replace o_g := o_g.below b
  replace hb := hb.trans b
  clear b
  go_wp2_with fail
  refine (markIntS_any _ _ _ _ _ o_g.1 ng (by omega) (by omega)).mono ?_
  rintro e w16 ⟨rfl, m_g, hg⟩
  have hm := o_g.grownBy m_g hg
  have ho := hm.2
  clear hg m_g
  replace o_g := hm.1
  clear hm
  have hz_w16 := ho.size
  replace o_w := o_w.outb ho (.inl (by omega))
  replace hb := hb.outb ho (by omega)
  clear ho
  go_wp2_with fail
  refine (heldIntS_marks _ _ _ _ o_g.reads ng (by omega) (by omega)).mono ?_
  rintro e w17 ⟨rfl, b⟩
  have hz_w17 := b.size
  replace o_w := o_w.below b
  replace o_g := o_g.below b
  replace hb := hb.trans b
  clear b
  go_wp2_with fail
  refine (toPlayerS_any _ _ _ (q0.below hb) n0).mono ?_
  rintro e w18 ⟨t0, rfl, o_t0, b⟩
  replace o_t0 := o_t0.toH
  have hz_w18 := b.size
  replace o_w := o_w.below b
  replace o_g := o_g.below b
  replace hb := hb.trans b
  clear b
  go_wp2_with fail
  refine (toIntS_any _ _ _ (q1.below hb) n1).mono ?_
  rintro e w19 ⟨t1, rfl, o_t1, b⟩
  replace o_t1 := o_t1.toH
  have hz_w19 := b.size
  replace o_w := o_w.below b
  replace o_g := o_g.below b
  replace o_t0 := o_t0.below b
  replace hb := hb.trans b
  clear b
  go_wp2_with fail
  refine (impl_NeededPlayers _ _ _ _ _ o_t0.reads n0 o_t1.reads n1).mono ?_
  rintro e w20 ⟨h, rfl, o_h, b⟩
  replace o_h := o_h.toH
  have hz_w20 := b.size
  replace o_w := o_w.below b
  replace o_g := o_g.below b
  replace o_t0 := o_t0.below b
  replace o_t1 := o_t1.below b
  replace hb := hb.trans b
  clear b
  go_wp2_with fail
  refine (eqIntS_same _ _ _ _ o_h.reads o_w.reads ng).mono ?_
  rintro e w21 ⟨rfl, b⟩
  have hz_w21 := b.size
  replace o_w := o_w.below b
  replace o_g := o_g.below b
  replace o_t0 := o_t0.below b
  replace o_t1 := o_t1.below b
  replace o_h := o_h.below b
  replace hb := hb.trans b
  clear b
  go_wp2_with fail
  refine (heldIntS_marks _ _ _ _ o_g.reads ng (by omega) (by omega)).mono ?_
  rintro e w22 ⟨rfl, b⟩
  have hz_w22 := b.size
  replace o_w := o_w.below b
  replace o_g := o_g.below b
  replace o_t0 := o_t0.below b
  replace o_t1 := o_t1.below b
  replace o_h := o_h.below b
  replace hb := hb.trans b
  clear b
  go_wp2_with fail
  go_ret
  exact ⟨rfl, hb⟩

open Go.ChangeShapes Go.WideShapes Go.ChangeAt Go.RowKit
open Go.ChangeMaps (open_string shut_string)

set_option linter.unusedVariables false
set_option maxRecDepth 100000 in
theorem lifted_FnExactNeededPlayers (os : Os) (started : os.Started) (H : Type) (enc : TypeId × Value → H) :
    ReturnsInHanded {} Try.checked os 3 .any (Rows.fnExactNeededPlayersSpec.pre6 enc Try.prog Try.f3 Rows.fnExactNeededPlayersRow.domain false) (Rows.fnExactNeededPlayersSpec.post enc Try.prog Try.f3 false true false false) := by
  refine returnsInHanded_of_change (C := Try.checked) own started (by kernel_rfl) Try.func3
    (ChangeSpec.witness6 (enc := enc) (C := Try.checked) false ⟨#[], #[.slice none 0 0, .slice none 0 0], []⟩ 8 (by kernel_rfl) (by kernel_rfl) (by kernel_rfl) (by kernel_rfl)) ?_
  intro W base args ds gs before hval0 hW hcnd _
  have hval : ∀ (j : Nat) t v, Try.f3.params[j]? = some t → args[j]? = some v → Value.okWide Try.prog W .any base t v := hval0
  have hW' := hW
  obtain ⟨p, q, hA0, hV, rfl, hfz, hnd⟩ := hW
  have hA : DataW.TrodAll enc Try.prog W 0 (fun _ => true) true Try.f3.params.toList args.toList ds p := hA0
  rw [Try.params3] at hA hval
  obtain ⟨v0, vs0, d0, ds0, p0, q0, hargs, rfl, rfl, h0, r0⟩ := trodAll_cons hA
  obtain ⟨v1, vs1, d1, ds1, p1, q1, rfl, rfl, rfl, h1, r1⟩ := trodAll_cons r0
  obtain ⟨rfl, rfl, rfl⟩ := trodAll_nil r1
  obtain rfl : args = #[v0, v1] := by cases args; simp_all
  obtain ⟨rfl, rfl⟩ := trodVars_none hV
  obtain ⟨a0, len0, cap0, rfl⟩ := okWide_slice Try.underlying22 (hval 0 22 v0 rfl rfl)
  have k0 := h0
  have lt0 : ∀ x ∈ p0, x.block < W.heap.size := by obtain ⟨m, hm⟩ := k0; exact DataW.trod_lt m _ _ _ hm
  obtain ⟨y0, rd0, ln0, wy0⟩ := open_P (enc := enc) h0
  obtain ⟨a1, len1, cap1, rfl⟩ := okWide_slice Try.underlying23 (hval 1 23 v1 rfl rfl)
  have k1 := h1
  have lt1 : ∀ x ∈ p1, x.block < W.heap.size := by obtain ⟨m, hm⟩ := k1; exact DataW.trod_lt m _ _ _ hm
  obtain ⟨z1, w1⟩ : ∃ zs, IsRow .i64 W a1 len1 cap1 zs := by
    obtain ⟨fuel, hf⟩ := h1
    rcases open_ints Try.underlying23 Try.underlying3 (by kernel_rfl) hf with ⟨hcs, _⟩ | ⟨x, l, c, zs, hcs, _, hl, hm, hz, _, hcell, hwz⟩
    · simp [Value.cells] at hcs
      obtain ⟨rfl, rfl, rfl⟩ := hcs
      exact ⟨[], .inl ⟨rfl, rfl, rfl, rfl⟩⟩
    · simp [Value.cells] at hcs
      obtain ⟨rfl, rfl, rfl⟩ := hcs
      exact ⟨zs, .inr ⟨_, rfl, hl, hm, by simpa using hz, hcell, hwz⟩⟩
  obtain ⟨y1, rd1, ln1, wy1⟩ := isRow_reads w1
  clear hA0 hval0
  refine (walk'_FnExactNeededPlayers W _ y0 rd0 ln0 wy0 _ y1 rd1 ln1 (fun n hn => I64.of_wf (wy1 n hn))).mono fun e W' ⟨he, bel⟩ => ?_
  subst he
  exact ⟨_, rfl, _, _, _, [], _, [], hW', trodAll_mk1 (shut_bool Try.underlying4 _), (trodAll_cons_mk (Below.trod laidOut (by kernel_rfl) (of_decide_eq_true (by kernel_rfl)) k0 bel lt0) (trodAll_cons_mk (Below.trod laidOut (by kernel_rfl) (of_decide_eq_true (by kernel_rfl)) k1 bel lt1) trodAll_mk0)), rfl, bel.frame _, fun h => by cases h⟩

theorem holds_FnExactNeededPlayers : Rows.FnExactNeededPlayersSaid :=
  OpenClaim.holds_of_wide 3 Try.f3 rfl rfl rfl rfl rfl rfl rfl ⟨rfl, rfl, rfl, rfl, rfl⟩ rfl rfl rfl rfl rfl (by kernel_rfl) Try.func3 (by kernel_rfl)
    (of_decide_eq_true (by kernel_rfl)) (by unfold Func.isWrapper; first | (rw [if_pos (by decide +kernel)]; kernel_rfl) | (rw [if_neg (by decide +kernel)]; exact ⟨rfl, rfl⟩))
    (fun os started H enc _ => lifted_FnExactNeededPlayers os started H enc)
#print axioms holds_FnExactNeededPlayers

end Go.Proofs.Ytfilpeamhcdgfaa
