/- Power: spec. -/
import Derived.Test.YtiibegilolijlaaLv
import Derived.WalkKit
import Derived.ProofKit
import Derived.Handy
import Derived.OpenShut
import Derived.ShutString
import Derived.ChangeOld
import Derived.Below
import Derived.BigQuiet
import Derived.Deep.QuietTactic
import Derived.Deep.Draws
import Derived.Deep.DeepCutAuto
import Derived.Deep.DeepFit
import Derived.Deep.LoopGhost
import Derived.Outline
import Derived.WalkSpells
import Derived.WalkLawsBesides
import Derived.WalkSmall
import Derived.Laws.OwnMore
import Derived.OneCell
import Derived.Laws.Rows
import Derived.Maps.AppendAt
import Derived.StillTailTactics
import Derived.Lib.SmallJoins
import Derived.Deep.RegionWith
import Derived.Deep.RegionHeld3
import Derived.RegionTactic
import Derived.Deep.Matrix
import Derived.Deep.Fields
import Derived.ChangeSame
namespace Go.Proofs.Ytiibegilolijlaa
open Go.RowKit

set_option maxHeartbeats 1000000 in
theorem spec_l18Ok (v u : Value) (rows : List (List Int)) (ws : List Int) (w : World) (h : RdS w v rows) (h' : RdI w u ws) (hl : rows.length ≤ 1048576) (hw : ws.length ≤ 1048576) :
    Calls Try.prog 37 #[v, u] w fun e w' => e = .returned (.bool (wattsOk rows ws)) ∧ Nx w w' := by
  obtain ⟨A, c, rfl, hx⟩ := h'
  have H := hide h
  clear h
  go_enter Try.func37, Try.ntmps37
  go_wp2_with fail
  go_loop [5] (fun i => ∃ k : Nat, k ≤ ws.length ∧ i = .int .i64 k ∧ Hid (∀ j, j < k → inR (gt ws j) 0 2000 = true)) (fun i => ws.length - (intOf i).toNat)
  case atStart => exact ⟨0, Nat.zero_le _, rfl, fun j hj => absurd hj (by omega)⟩
  case round =>
    obtain ⟨k, hk, rfl, hall⟩ := hrel
    by_cases hlt : k < ws.length
    · obtain ⟨b0, off, rfl, hb0, hc⟩ := hx (by omega)
      have hck := hc k hlt
      clear hc hx
      cases hin : inR (gt ws k) 0 2000 with
      | true =>
        go_wp2_with (go_at_call 27; refine (l01In_any _ _ _ _).mono ?_; rintro e w' ⟨rfl, rfl⟩)
        go_round
        case rel => exact ⟨k + 1, by omega, by go_num, fun j hj => by
          rcases Nat.lt_or_ge j k with h | h
          · exact hall.out j h
          · obtain rfl : j = k := by omega
            exact hin⟩
        case measure => simp [intOf]; omega
      | false =>
        have hf := hide (show wattsOk rows ws = false from by simp [wattsOk, allW_false hlt hin])
        go_wp2_with (go_at_call 27; refine (l01In_any _ _ _ _).mono ?_; rintro e w' ⟨rfl, rfl⟩)
        go_ret
        exact ⟨ret_bool hf.out.symm, Below.refl _ _⟩
    · obtain rfl : k = ws.length := by omega
      have hall' := hide (allW_of hall.out)
      clear hx
      cases h1 : fadesOk rows with
      | false =>
        have hf := hide (show wattsOk rows ws = false from by simp [wattsOk, h1])
        go_wp2_with fail
        refine (spec_FadesOk _ _ _ H.out hl).mono ?_
        rintro e w1 ⟨rfl, b⟩
        go_wp2_with fail
        go_ret
        exact ⟨ret_bool hf.out.symm, b⟩
      | true =>
        have hf := hide (show wattsOk rows ws = ((ws.length : Int) == 8) from by
          simp only [wattsOk, h1, hall'.out, Bool.true_and, Bool.and_true]
          rw [Bool.eq_iff_iff]; simp; omega)
        go_wp2_with fail
        refine (spec_FadesOk _ _ _ H.out hl).mono ?_
        rintro e w1 ⟨rfl, b⟩
        go_wp2_with fail
        go_ret
        exact ⟨ret_bool hf.out.symm, b⟩

set_option maxHeartbeats 1000000 in
theorem spec_l18Power (v u : Value) (rows : List (List Int)) (ws : List Int) (t : Int) (w : World) (h : RdS w v rows) (h' : RdI w u ws) (hok : wattsOk rows ws = true) (ht : 0 ≤ t ∧ t ≤ 1000) :
    Calls Try.prog 38 #[v, u, .int .i64 t] w fun e w' => e = .returned (.int .i64 (power rows ws t)) ∧ Nx w w' := by
  obtain ⟨A, c, rfl, hx⟩ := h'
  have H := hide h
  have Hx := hide hx
  have Ht := hide ht
  simp only [wattsOk, Bool.and_eq_true, decide_eq_true_eq] at hok
  have h8 : 8 ≤ ws.length := by omega
  have hw := hide (fun k (hk : k < 8) => allW_iff.1 hok.2.2 k (by omega))
  have hfd := hide hok.1
  have Hbd := hide (fun k (hk : k ≤ 8) => pwTo_bd t hfd.out hw.out hk)
  clear h hx ht hok
  go_enter Try.func38, Try.ntmps38
  go_wp2_with fail
  go_loopw [7, 8] (fun o i wr => ∃ k : Nat, k ≤ 8 ∧ i = .int .i64 k ∧ o = .int .i64 (pwTo rows ws t k) ∧ Nx w wr) (fun _ i _ => 8 - (intOf i).toNat)
  case atStart => exact ⟨0, Nat.zero_le _, rfl, rfl, Below.refl _ _⟩
  case round =>
    obtain ⟨k, hk, rfl, rfl, hb⟩ := hrel
    by_cases hlt : k < 8
    · obtain ⟨b0, off, rfl, hb0, hc⟩ := Hx.out (by omega)
      have hck : wr.cell? ⟨b0, off + k, none⟩ = some (.int .i64 (gt ws k)) := (hb.cell (p := ⟨b0, off + k, none⟩) hb0).trans (hc k (by omega))
      have hk1 : (k : Int) < (ws.length : Int) := by omega
      have hlb := lvTo_bd (k : Int) t hfd.out (Nat.le_refl rows.length)
      have htm := pw_term (hw.out k hlt) hlb
      have hbd := Hbd.out k hk
      have Hb := hide hb
      have hn : ∀ n, (wr.drewN n).cell? ⟨b0, off + k, none⟩ = some (.int .i64 (gt ws k)) := fun _ => hck
      have hS := hide (fun (wq : World) (hq : Nx wr wq) => H.out.below (hb.trans hq))
      clear hc hb Hx
      go_wp2_with fail
      go_region_with (go_at_call 31; refine (spec_level _ _ _ _ _ (hS.out _ (by first | exact Below.refl _ _ | exact Nx.drew (Below.refl _ _))) hfd.out Ht.out).mono ?_; rintro e w1 ⟨rfl, b1⟩; have c1 := (b1.cell (p := ⟨b0, off + k, none⟩) (Nat.lt_of_lt_of_le hb0 Hb.out.size)); have hb := (by first | exact Hb.out.trans b1 | exact Hb.out.trans_drew b1 : Nx w w1); clear b1)
      all_goals
        go_wp2_with fail
        go_roundw
        case rel => exact ⟨k + 1, by omega, by go_num, rfl, hb⟩
        case measure => simp [intOf]; omega
    · obtain rfl : k = 8 := by omega
      have hbd := Hbd.out 8 (by omega)
      go_wp2_with fail
      go_ret
      exact ⟨rfl, hb⟩

end Go.Proofs.Ytiibegilolijlaa
