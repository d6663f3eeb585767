/- PowerAt. -/
import Derived.Test.YtiibegilolijlaaPwS
import Derived.WalkKit
import Derived.ProofKit
import Derived.Handy
import Derived.OpenShut
import Derived.ShutString
import Derived.ChangeOld
import Derived.Below
import Derived.BigQuiet
import Derived.Deep.QuietTactic
import Derived.Deep.Draws
import Derived.Deep.DeepCutAuto
import Derived.Deep.DeepFit
import Derived.Deep.LoopGhost
import Derived.Outline
import Derived.WalkSpells
import Derived.WalkLawsBesides
import Derived.WalkSmall
import Derived.Laws.OwnMore
import Derived.OneCell
import Derived.Laws.Rows
import Derived.Maps.AppendAt
import Derived.StillTailTactics
import Derived.Lib.SmallJoins
import Derived.Deep.RegionWith
import Derived.Deep.RegionHeld3
import Derived.RegionTactic
import Derived.Deep.Matrix
import Derived.Deep.Fields
import Derived.ChangeSame
namespace Go.Proofs.Ytiibegilolijlaa
open Go.RowKit

theorem power_bd {rows : List (List Int)} {ws : List Int} (t : Int) (h : wattsOk rows ws = true) : 0 ≤ power rows ws t ∧ power rows ws t ≤ 16000 := by
  simp only [wattsOk, Bool.and_eq_true, decide_eq_true_eq] at h
  have := pwTo_bd t h.1 (fun k hk => allW_iff.1 h.2.2 k (by omega)) (Nat.le_refl 8)
  unfold power
  omega
set_option maxHeartbeats 1000000 in
theorem spec_PowerAt (v u : Value) (rows : List (List Int)) (ws : List Int) (t : Int) (w : World) (h : RdS w v rows) (hl : rows.length ≤ 1048576) (h' : RdI w u ws) (hw : ws.length ≤ 1048576) (_ : I64 t) :
    Calls Try.prog 22 #[v, u, .int .i64 t] w fun e w' => e = .returned (.int .i64 (powerAt rows ws t)) ∧ Nx w w' := by
  cases h1 : wattsOk rows ws with
  | false =>
    have hf := hide (show powerAt rows ws t = -1 from by simp [powerAt, h1])
    go_enter Try.func22, Try.ntmps22
    go_wp2_with fail
    refine (spec_l18Ok _ _ _ _ _ h h' hl hw).mono ?_
    rintro e w1 ⟨rfl, b⟩
    go_wp2_with fail
    go_ret
    exact ⟨ret_int hf.out.symm, b⟩
  | true =>
    cases h2 : inR t 0 1000 with
    | false =>
      have hf := hide (show powerAt rows ws t = -1 from by simp [powerAt, h2])
      go_enter Try.func22, Try.ntmps22
      go_wp2_with fail
      refine (spec_l18Ok _ _ _ _ _ h h' hl hw).mono ?_
      rintro e w1 ⟨rfl, b⟩
      go_wp2_with (go_at_call 27; refine (l01In_any _ _ _ _).mono ?_; rintro e w' ⟨rfl, rfl⟩)
      go_ret
      exact ⟨ret_int hf.out.symm, b⟩
    | true =>
      have hf := hide (show powerAt rows ws t = power rows ws t from by simp [powerAt, h1, h2])
      have H1 := hide h1
      go_enter Try.func22, Try.ntmps22
      go_wp2_with fail
      refine (spec_l18Ok _ _ _ _ _ h h' hl hw).mono ?_
      rintro e w1 ⟨rfl, b⟩
      go_wp2_with (go_at_call 27; refine (l01In_any _ _ _ _).mono ?_; rintro e w' ⟨rfl, rfl⟩)
      refine (spec_l18Power _ _ _ _ _ _ (h.below b) (h'.below b) H1.out (inR_iff.1 h2)).mono ?_
      rintro e w2 ⟨rfl, b2⟩
      go_wp2_with fail
      go_ret
      exact ⟨ret_int hf.out.symm, b.trans b2⟩

set_option maxHeartbeats 2000000 in
theorem impl_PowerAt (v u : Value) (rows : List (List Int)) (ws : List Int) (t : Int) (w : World) (h : RdS w v rows) (hl : rows.length ≤ 1048576) (h' : RdI w u ws) (hw : ws.length ≤ 1048576) (_ : I64 t) :
    Calls Try.prog 19 #[v, u, .int .i64 t] w fun e w' => e = .returned (.int .i64 (powerAt rows ws t)) ∧ Nx w w' := by
  have hv := h'
  obtain ⟨A, c, rfl, hx⟩ := h'
  have Hx := hide hx
  have H := hide h
  have HV := hide hv
  clear hx
  cases h1 : fadesOk rows with
  | false =>
    have hf := hide (show powerAt rows ws t = -1 from by simp [powerAt, wattsOk, h1])
    go_enter Try.func19, Try.ntmps19
    go_wp2_with fail
    refine (impl_FadesOk _ _ _ h hl).mono ?_
    rintro e w1 ⟨rfl, b⟩
    go_wp2_with fail
    go_ret
    exact ⟨ret_int hf.out.symm, b⟩
  | true =>
  by_cases h8 : ws.length = 8
  · have h8' : ((ws.length : Int) != 8) = false := by simp; omega
    have H8 := hide h8
    have h88 : ws.length ≤ 8 ∧ 8 ≤ ws.length := by omega
    clear h8
    cases h3 : allW 0 2000 ws with
    | false =>
      have hf := hide (show powerAt rows ws t = -1 from by simp [powerAt, wattsOk, h3])
      go_enter Try.func19, Try.ntmps19
      go_wp2_with fail
      refine (impl_FadesOk _ _ _ h hl).mono ?_
      rintro e w1 ⟨rfl, b⟩
      have hv1 := hv.below b
      go_wp2_with (go_at_call 36; refine (allWithin_any _ _ _ _ _ hv1 hw).mono ?_; rintro e w' ⟨rfl, rfl⟩)
      go_ret
      exact ⟨ret_int hf.out.symm, b⟩
    | true =>
    cases h2 : inR t 0 1000 with
    | false =>
      have hf := hide (show powerAt rows ws t = -1 from by simp [powerAt, h2])
      go_enter Try.func19, Try.ntmps19
      go_wp2_with fail
      refine (impl_FadesOk _ _ _ h hl).mono ?_
      rintro e w1 ⟨rfl, b⟩
      have hv1 := hv.below b
      go_wp2_with (first | (go_at_call 36; refine (allWithin_any _ _ _ _ _ hv1 hw).mono ?_; rintro e w' ⟨rfl, rfl⟩) | (go_at_call 29; refine (within_any _ _ _ _).mono ?_; rintro e w' ⟨rfl, rfl⟩))
      go_ret
      exact ⟨ret_int hf.out.symm, b⟩
    | true =>
      have hok : wattsOk rows ws = true := by simp [wattsOk, h1, h3, H8.out]
      have hf := hide (show powerAt rows ws t = pwTo rows ws t 8 / 100 from by simp [powerAt, hok, h2, power])
      have hfd := hide h1
      have hws := hide (fun k (hk : k < 8) => allW_iff.1 h3 k (by omega))
      have Hbd := hide (fun k (hk : k ≤ 8) => pwTo_bd t hfd.out hws.out hk)
      have Ht := hide (inR_iff.1 h2)
      clear hok
      go_enter Try.func19, Try.ntmps19
      go_wp2_with fail
      refine (impl_FadesOk _ _ _ h hl).mono ?_
      rintro e w1 ⟨rfl, b⟩
      have hv1 := hv.below b
      go_wp2_with (first | (go_at_call 36; refine (allWithin_any _ _ _ _ _ hv1 hw).mono ?_; rintro e w' ⟨rfl, rfl⟩) | (go_at_call 29; refine (within_any _ _ _ _).mono ?_; rintro e w' ⟨rfl, rfl⟩))
      clear h1 h2 h3 hv hv1 h
      go_loopw [7, 30] (fun o i wr => ∃ k : Nat, k ≤ ws.length ∧ i = .int .i64 k ∧ o = .int .i64 (pwTo rows ws t k) ∧ Nx w wr) (fun _ i _ => ws.length - (intOf i).toNat)
      case atStart => exact ⟨0, Nat.zero_le _, rfl, rfl, b⟩
      case round =>
        clear b
        obtain ⟨k, hk, rfl, rfl, hb⟩ := hrel
        by_cases hlt : k < ws.length
        · obtain ⟨b0, off, rfl, hb0, hc⟩ := Hx.out (by omega)
          have hck : wr.cell? ⟨b0, off + k, none⟩ = some (.int .i64 (gt ws k)) := (hb.cell (p := ⟨b0, off + k, none⟩) hb0).trans (hc k hlt)
          have hlb := lvTo_bd (k : Int) t hfd.out (Nat.le_refl rows.length)
          have htm := pw_term (hws.out k (by omega)) hlb
          have hbd := Hbd.out k (by omega)
          have Hb := hide hb
          clear hc hb Hx
          go_wp2_with fail
          refine (impl_level _ _ _ _ _ (H.out.below Hb.out) hfd.out Ht.out).mono ?_
          rintro e w2 ⟨rfl, b2⟩
          have Hb2 := hide (Hb.out.trans b2)
          clear b2
          go_wp2_with fail
          go_roundw
          case rel => exact ⟨k + 1, by omega, by go_num, rfl, Hb2.out⟩
          case measure => simp [intOf]; omega
        · obtain rfl : k = ws.length := by omega
          have hbd := Hbd.out ws.length (by omega)
          have e8 := H8.out
          rw [e8] at hbd
          have Hb := hide hb
          have E8 := hide (show pwTo rows ws t ws.length = pwTo rows ws t 8 from by rw [e8])
          clear e8 hb
          rw [E8.out]
          go_wp2_with fail
          go_ret
          exact ⟨ret_int hf.out.symm, Hb.out⟩
  · have h8' : ((ws.length : Int) != 8) = true := by simp; omega
    have hf := hide (show powerAt rows ws t = -1 from by simp [powerAt, wattsOk, h8])
    go_enter Try.func19, Try.ntmps19
    go_wp2_with fail
    refine (impl_FadesOk _ _ _ h hl).mono ?_
    rintro e w1 ⟨rfl, b⟩
    go_wp2_with fail
    go_ret
    exact ⟨ret_int hf.out.symm, b⟩

end Go.Proofs.Ytiibegilolijlaa
