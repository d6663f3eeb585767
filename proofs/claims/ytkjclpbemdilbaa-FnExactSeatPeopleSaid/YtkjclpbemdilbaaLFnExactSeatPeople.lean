/- The law FnExactSeatPeople holds: for every input the program's function answers as the reference does; nothing that was there is changed. -/
import Derived.Test.YtkjclpbemdilbaaStI
import Derived.Test.YtkjclpbemdilbaaStS
import Derived.WalkKit
import Derived.ProofKit
import Derived.Handy
import Derived.OpenShut
import Derived.ShutString
import Derived.ChangeOld
import Derived.Below
import Derived.BigQuiet
import Derived.Deep.QuietTactic
import Derived.Deep.Draws
import Derived.Deep.DeepCutAuto
import Derived.Deep.DeepFit
import Derived.Deep.LoopGhost
import Derived.Outline
import Derived.WalkSpells
import Derived.WalkLawsBesides
import Derived.WalkSmall
import Derived.Laws.OwnMore
import Derived.OneCell
import Derived.Laws.Rows
import Derived.Maps.AppendAt
import Derived.StillTailTactics
import Derived.Lib.SmallJoins
import Derived.Deep.RegionWith
import Derived.Deep.RegionHeld3
import Derived.RegionTactic
import Derived.Deep.Matrix
import Derived.Deep.Fields
import Derived.ChangeSame
namespace Go.Proofs.Ytkjclpbemdilbaa
open Go.RowKit

theorem SP_len (rows : List (List Int)) (row seat : Int) (hs : List Int) (h : OkM rows) (_ : hs.length ≤ 1048576) : OkM (seatL rows row seat hs) := by
  unfold seatL
  split
  · rename_i hc
    have hg : gridOk rows 8 10 (-1) 200 = true := by
      simp only [seatOk, Bool.and_eq_true] at hc
      exact hc.1
    have := (gridOk_grid hg).2
    exact seat_okM (by omega) (by omega) _
  · exact h
theorem spec_SP (v : Value) (rows : List (List Int)) (row seat : Int) (u : Value) (hs : List Int) (w : World) (hv : RdM w v rows) (hl : OkM rows) (i1 : I64 row) (i2 : I64 seat) (hu : RdI w u hs) (hsl : hs.length ≤ 1048576) :
    Calls Try.prog 28 #[v, .int .i64 row, .int .i64 seat, u] w fun e w' => ∃ r, e = .returned (.tuple #[r, .bool (seatOk rows row seat hs)]) ∧ OwM w' w.heap.size r (seatL rows row seat hs) ∧ Nx w w' := spec_SeatPeople v rows row seat u hs w hv hl hu hsl i1 i2
theorem impl_SP (v : Value) (rows : List (List Int)) (row seat : Int) (u : Value) (hs : List Int) (w : World) {B0 : Nat} (ho : OwM w B0 v rows) (hl : OkM rows) (i1 : I64 row) (i2 : I64 seat) (hu : RdI w u hs) (hsl : hs.length ≤ 1048576) :
    Calls Try.prog 26 #[v, .int .i64 row, .int .i64 seat, u] w fun e w' => ∃ r, e = .returned (.tuple #[r, .bool (seatOk rows row seat hs)]) ∧ OwM w' w.heap.size r (seatL rows row seat hs) ∧ Nx w w' := impl_SeatPeople v rows row seat u hs B0 w ho hl hu hsl i1 i2
set_option linter.unusedVariables false in
set_option maxHeartbeats 4000000 in
theorem walk'_FnExactSeatPeople (w0 : World) (v0 : Value) (z0 : List (List Int)) (r0 : RdM w0 v0 z0) (l0 : LenM z0) (_ : ∀ r ∈ z0, ∀ n ∈ r, I64 n) (a1 : Int) (i1 : I64 a1) (a2 : Int) (i2 : I64 a2) (v3 : Value) (z3 : List Int) (r3 : RdI w0 v3 z3) (l3 : z3.length ≤ maxLen) (_ : ∀ n ∈ z3, I64 n) :
    Calls Try.prog 9 #[v0, .int .i64 a1, .int .i64 a2, v3] w0 fun e w' => e = .returned (.bool true) ∧ Nx w0 w' := by
  by_cases g3 : 1048576 < z3.length
  · obtain ⟨A3, c3, rfl, hx3⟩ := r3
    clear hx3
    go_enter Try.func9, Try.ntmps9
    go_wp2_with fail
    go_ret
    exact ⟨rfl, Below.refl _ _⟩
  have n3 : z3.length ≤ 1048576 := by omega
  have q3 := r3
  obtain ⟨A3, c3, rfl, hx3⟩ := r3
  clear hx3
  have q0 := r0
  go_enter Try.func9, Try.ntmps9
  have hb : Nx w0 w0 := Below.refl _ _
  go_wp2_with fail
  refine (szIntSS_any _ z0 _ _ (q0.below hb) l0 (by omega) (by omega)).mono ?_
  rintro e w1 ⟨sz0, rfl, hs0, b⟩
  have hz_w1 := b.size
  replace hb := hb.trans b
  clear b
  by_cases g0 : sz0 < 0
  · go_wp2_with fail
    go_ret
    exact ⟨rfl, hb⟩
  have n0 := (hs0 (by omega)).1
  have m0 := (hs0 (by omega)).2
  clear hs0
  go_wp2_with fail
  refine (toIntSS_any _ _ _ (q0.below hb) n0).mono ?_
  rintro e w2 ⟨s0, rfl, o_s0, b⟩
  replace o_s0 := o_s0.toH
  have hz_w2 := b.size
  replace hb := hb.trans b
  clear b
  go_wp2_with fail
  refine (toIntS_any _ _ _ (q3.below hb) n3).mono ?_
  rintro e w3 ⟨s3, rfl, o_s3, b⟩
  replace o_s3 := o_s3.toH
  have hz_w3 := b.size
  replace o_s0 := o_s0.below b
  replace hb := hb.trans b
  clear b
  go_wp2_with fail
  refine (spec_SP _ _ _ _ _ _ _ o_s0.reads n0 i1 i2 o_s3.reads n3).mono ?_
  rintro e w4 ⟨w, rfl, o_w, b⟩
  replace o_w := o_w.toH
  have hz_w4 := b.size
  replace o_s0 := o_s0.below b
  replace o_s3 := o_s3.below b
  replace hb := hb.trans b
  clear b
  clear o_s0
  clear o_s3
  go_wp2_with fail
  refine (toIntSS_any _ _ _ (q0.below hb) n0).mono ?_
  rintro e w5 ⟨x0, rfl, o_x0, b⟩
  replace o_x0 := o_x0.toH
  have hz_w5 := b.size
  replace o_w := o_w.below b
  replace hb := hb.trans b
  clear b
  go_wp2_with fail
  refine (toIntS_any _ _ _ (q3.below hb) n3).mono ?_
  rintro e w6 ⟨x3, rfl, o_x3, b⟩
  replace o_x3 := o_x3.toH
  have hz_w6 := b.size
  replace o_w := o_w.below b
  replace o_x0 := o_x0.below b
  replace hb := hb.trans b
  clear b
  go_wp2_with fail
  refine (impl_SP _ _ _ _ _ _ _ o_x0.toM n0 i1 i2 o_x3.reads n3).mono ?_
  rintro e w7 ⟨g, rfl, o_g, b⟩
  replace o_g := o_g.toH
  have hz_w7 := b.size
  replace o_w := o_w.below b
  replace o_x0 := o_x0.below b
  replace o_x3 := o_x3.below b
  replace hb := hb.trans b
  clear b
  have ng := SP_len z0 a1 a2 z3 n0 n3
  go_wp2_with fail
  refine (eqIntSS_same _ _ _ _ o_g.reads o_w.reads ng).mono ?_
  rintro e w8 ⟨rfl, b⟩
  have hz_w8 := b.size
  replace o_w := o_w.below b
  replace o_x0 := o_x0.below b
  replace o_x3 := o_x3.below b
  replace o_g := o_g.below b
  replace hb := hb.trans b
  clear b
  go_wp2_with fail
  refine (toIntSS_any _ _ _ (q0.below hb) n0).mono ?_
  rintro e w9 ⟨y0, rfl, o_y0, b⟩
  replace o_y0 := o_y0.toH
  have hz_w9 := b.size
  replace o_w := o_w.below b
  replace o_x0 := o_x0.below b
  replace o_x3 := o_x3.below b
  replace o_g := o_g.below b
  replace hb := hb.trans b
  clear b
  go_wp2_with fail
  refine (eqIntSS_same _ _ _ _ o_x0.reads o_y0.reads n0).mono ?_
  rintro e w10 ⟨rfl, b⟩
  have hz_w10 := b.size
  replace o_w := o_w.below b
  replace o_x0 := o_x0.below b
  replace o_x3 := o_x3.below b
  replace o_g := o_g.below b
  replace o_y0 := o_y0.below b
  replace hb := hb.trans b
  clear b
  clear o_y0
  go_wp2_with fail
  refine (toIntS_any _ _ _ (q3.below hb) n3).mono ?_
  rintro e w11 ⟨y3, rfl, o_y3, b⟩
  replace o_y3 := o_y3.toH
  have hz_w11 := b.size
  replace o_w := o_w.below b
  replace o_x0 := o_x0.below b
  replace o_x3 := o_x3.below b
  replace o_g := o_g.below b
  replace hb := hb.trans b
  clear b
  go_wp2_with fail
  refine (eqIntS_same _ _ _ _ o_x3.reads o_y3.reads n3).mono ?_
  rintro e w12 ⟨rfl, b⟩
  have hz_w12 := b.size
  replace o_w := o_w.below b
  replace o_x0 := o_x0.below b
  replace o_x3 := o_x3.below b
  replace o_g := o_g.below b
  replace o_y3 := o_y3.below b
  replace hb := hb.trans b
  clear b
  clear o_y3
  have t0 := n0.2
  go_wp2_with fail
  refine (markIntSS_any _ _ _ _ _ _ o_x0 n0 (by omega) (by omega)).mono ?_
  rintro e w13 ⟨rfl, m_x0, ho⟩
  clear o_x0
  have o_x0 := m_x0
  clear m_x0
  have hz_w13 := ho.size
  replace o_w := o_w.outb ho (.inl (by omega))
  replace o_x3 := o_x3.outb ho (.inr (by omega))
  replace o_g := o_g.outb ho (.inr (by omega))
  replace hb := hb.outb ho (by omega)
  clear ho
  clear o_x0
  go_wp2_with fail
  refine (markIntS_any _ _ _ _ _ o_x3.1 n3 (by omega) (by omega)).mono ?_
  rintro e w14 ⟨rfl, m_x3, hg⟩
  have hm := o_x3.grownBy m_x3 hg
  have ho := hm.2
  clear hg m_x3
  replace o_x3 := hm.1
  clear hm
  have hz_w14 := ho.size
  replace o_w := o_w.outb ho (.inl (by omega))
  replace o_g := o_g.outb ho (.inr (by omega))
  replace hb := hb.outb ho (by omega)
  clear ho
  clear o_x3
  go_wp2_with fail
  refine (eqIntSS_same _ _ _ _ o_g.reads o_w.reads ng).mono ?_
  rintro e w15 ⟨rfl, b⟩
  have hz_w15 := b.size
  replace o_w := o_w.below b
  replace o_g := o_g.below b
  replace hb := hb.trans b
  clear b
  go_wp2_with fail
  refine (markIntSS_any _ _ _ _ _ _ o_g ng (by omega) (by omega)).mono ?_
  rintro e w16 ⟨rfl, m_g, ho⟩
  clear o_g
  have o_g := m_g
  clear m_g
  have hz_w16 := ho.size
  replace o_w := o_w.outb ho (.inl (by omega))
  replace hb := hb.outb ho (by omega)
  clear ho
  have ng2 := ng.2
  go_wp2_with fail
  refine (heldIntSS_marks _ _ _ _ o_g.reads ng (by omega) (by omega)).mono ?_
  rintro e w17 ⟨rfl, b⟩
  have hz_w17 := b.size
  replace o_w := o_w.below b
  replace o_g := o_g.below b
  replace hb := hb.trans b
  clear b
  go_wp2_with fail
  refine (toIntSS_any _ _ _ (q0.below hb) n0).mono ?_
  rintro e w18 ⟨t0, rfl, o_t0, b⟩
  replace o_t0 := o_t0.toH
  have hz_w18 := b.size
  replace o_w := o_w.below b
  replace o_g := o_g.below b
  replace hb := hb.trans b
  clear b
  go_wp2_with fail
  refine (toIntS_any _ _ _ (q3.below hb) n3).mono ?_
  rintro e w19 ⟨t3, rfl, o_t3, b⟩
  replace o_t3 := o_t3.toH
  have hz_w19 := b.size
  replace o_w := o_w.below b
  replace o_g := o_g.below b
  replace o_t0 := o_t0.below b
  replace hb := hb.trans b
  clear b
  go_wp2_with fail
  refine (impl_SP _ _ _ _ _ _ _ o_t0.toM n0 i1 i2 o_t3.reads n3).mono ?_
  rintro e w20 ⟨h, rfl, o_h, b⟩
  replace o_h := o_h.toH
  have hz_w20 := b.size
  replace o_w := o_w.below b
  replace o_g := o_g.below b
  replace o_t0 := o_t0.below b
  replace o_t3 := o_t3.below b
  replace hb := hb.trans b
  clear b
  go_wp2_with fail
  refine (eqIntSS_same _ _ _ _ o_h.reads o_w.reads ng).mono ?_
  rintro e w21 ⟨rfl, b⟩
  have hz_w21 := b.size
  replace o_w := o_w.below b
  replace o_g := o_g.below b
  replace o_t0 := o_t0.below b
  replace o_t3 := o_t3.below b
  replace o_h := o_h.below b
  replace hb := hb.trans b
  clear b
  go_wp2_with fail
  refine (heldIntSS_marks _ _ _ _ o_g.reads ng (by omega) (by omega)).mono ?_
  rintro e w22 ⟨rfl, b⟩
  have hz_w22 := b.size
  replace o_w := o_w.below b
  replace o_g := o_g.below b
  replace o_t0 := o_t0.below b
  replace o_t3 := o_t3.below b
  replace o_h := o_h.below b
  replace hb := hb.trans b
  clear b
  go_wp2_with fail
  go_ret
  exact ⟨rfl, hb⟩

open Go.ChangeShapes Go.WideShapes Go.ChangeAt Go.RowKit
open Go.ChangeMaps (open_string shut_string)

set_option linter.unusedVariables false
set_option maxRecDepth 100000 in
theorem lifted_FnExactSeatPeople (os : Os) (started : os.Started) (H : Type) (enc : TypeId × Value → H) :
    ReturnsInHanded {} Try.checked os 9 .any (Rows.fnExactSeatPeopleSpec.pre6 enc Try.prog Try.f9 Rows.fnExactSeatPeopleRow.domain false) (Rows.fnExactSeatPeopleSpec.post enc Try.prog Try.f9 false true false false) := by
  refine returnsInHanded_of_change (C := Try.checked) own started (by kernel_rfl) Try.func9
    (ChangeSpec.witness6 (enc := enc) (C := Try.checked) false ⟨#[], #[.slice none 0 0, .int .i64 0, .int .i64 0, .slice none 0 0], []⟩ 8 (by kernel_rfl) (by kernel_rfl) (by kernel_rfl) (by kernel_rfl)) ?_
  intro W base args ds gs before hval0 hW hcnd _
  have hval : ∀ (j : Nat) t v, Try.f9.params[j]? = some t → args[j]? = some v → Value.okWide Try.prog W .any base t v := hval0
  have hW' := hW
  obtain ⟨p, q, hA0, hV, rfl, hfz, hnd⟩ := hW
  have hA : DataW.TrodAll enc Try.prog W 0 (fun _ => true) true Try.f9.params.toList args.toList ds p := hA0
  rw [Try.params9] at hA hval
  obtain ⟨v0, vs0, d0, ds0, p0, q0, hargs, rfl, rfl, h0, r0⟩ := trodAll_cons hA
  obtain ⟨v1, vs1, d1, ds1, p1, q1, rfl, rfl, rfl, h1, r1⟩ := trodAll_cons r0
  obtain ⟨v2, vs2, d2, ds2, p2, q2, rfl, rfl, rfl, h2, r2⟩ := trodAll_cons r1
  obtain ⟨v3, vs3, d3, ds3, p3, q3, rfl, rfl, rfl, h3, r3⟩ := trodAll_cons r2
  obtain ⟨rfl, rfl, rfl⟩ := trodAll_nil r3
  obtain rfl : args = #[v0, v1, v2, v3] := by cases args; simp_all
  obtain ⟨rfl, rfl⟩ := trodVars_none hV
  obtain ⟨a0, len0, cap0, rfl⟩ := okWide_slice Try.underlying22 (hval 0 22 v0 rfl rfl)
  have k0 := h0
  have lt0 : ∀ x ∈ p0, x.block < W.heap.size := by obtain ⟨m, hm⟩ := k0; exact DataW.trod_lt m _ _ _ hm
  obtain ⟨y0, rd0, ln0, wy0⟩ := open_M (enc := enc) h0
  obtain ⟨a1, rfl, rfl, rfl, w1⟩ := open_int Try.underlying3 (hval 1 3 v1 rfl rfl) h1
  obtain ⟨a2, rfl, rfl, rfl, w2⟩ := open_int Try.underlying3 (hval 2 3 v2 rfl rfl) h2
  obtain ⟨a3, len3, cap3, rfl⟩ := okWide_slice Try.underlying36 (hval 3 36 v3 rfl rfl)
  have k3 := h3
  have lt3 : ∀ x ∈ p3, x.block < W.heap.size := by obtain ⟨m, hm⟩ := k3; exact DataW.trod_lt m _ _ _ hm
  obtain ⟨z3, w3⟩ : ∃ zs, IsRow .i64 W a3 len3 cap3 zs := by
    obtain ⟨fuel, hf⟩ := h3
    rcases open_ints Try.underlying36 Try.underlying3 (by kernel_rfl) hf with ⟨hcs, _⟩ | ⟨x, l, c, zs, hcs, _, hl, hm, hz, _, hcell, hwz⟩
    · simp [Value.cells] at hcs
      obtain ⟨rfl, rfl, rfl⟩ := hcs
      exact ⟨[], .inl ⟨rfl, rfl, rfl, rfl⟩⟩
    · simp [Value.cells] at hcs
      obtain ⟨rfl, rfl, rfl⟩ := hcs
      exact ⟨zs, .inr ⟨_, rfl, hl, hm, by simpa using hz, hcell, hwz⟩⟩
  obtain ⟨y3, rd3, ln3, wy3⟩ := isRow_reads w3
  clear hA0 hval0
  refine (walk'_FnExactSeatPeople W _ y0 rd0 ln0 wy0 a1 (I64.of_wf w1) a2 (I64.of_wf w2) _ y3 rd3 ln3 (fun n hn => I64.of_wf (wy3 n hn))).mono fun e W' ⟨he, bel⟩ => ?_
  subst he
  exact ⟨_, rfl, _, _, _, [], _, [], hW', trodAll_mk1 (shut_bool Try.underlying4 _), (trodAll_cons_mk (Below.trod laidOut (by kernel_rfl) (of_decide_eq_true (by kernel_rfl)) k0 bel lt0) (trodAll_cons_mk (shut_int Try.underlying3 w1) (trodAll_cons_mk (shut_int Try.underlying3 w2) (trodAll_cons_mk (Below.trod laidOut (by kernel_rfl) (of_decide_eq_true (by kernel_rfl)) k3 bel lt3) trodAll_mk0)))), rfl, bel.frame _, fun h => by cases h⟩

theorem holds_FnExactSeatPeople : Rows.FnExactSeatPeopleSaid :=
  OpenClaim.holds_of_wide 9 Try.f9 rfl rfl rfl rfl rfl rfl rfl ⟨rfl, rfl, rfl, rfl, rfl⟩ rfl rfl rfl rfl rfl (by kernel_rfl) Try.func9 (by kernel_rfl)
    (of_decide_eq_true (by kernel_rfl)) (by unfold Func.isWrapper; first | (rw [if_pos (by decide +kernel)]; kernel_rfl) | (rw [if_neg (by decide +kernel)]; exact ⟨rfl, rfl⟩))
    (fun os started H enc _ => lifted_FnExactSeatPeople os started H enc)
#print axioms holds_FnExactSeatPeople

end Go.Proofs.Ytkjclpbemdilbaa
