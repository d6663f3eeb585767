/- HasShortcuts: impl. -/
import Derived.Test.YtemijekdcifncaaMap
import Derived.WalkKit
import Derived.ProofKit
import Derived.Handy
import Derived.OpenShut
import Derived.ShutString
import Derived.ChangeOld
import Derived.Below
import Derived.BigQuiet
import Derived.Deep.QuietTactic
import Derived.Deep.Draws
import Derived.Deep.DeepCutAuto
import Derived.Deep.DeepFit
import Derived.Deep.LoopGhost
import Derived.Outline
import Derived.WalkSpells
import Derived.WalkLawsBesides
import Derived.WalkSmall
import Derived.Laws.OwnMore
import Derived.OneCell
import Derived.Laws.Rows
import Derived.Maps.AppendAt
import Derived.StillTailTactics
import Derived.Lib.SmallJoins
import Derived.Deep.RegionWith
import Derived.Deep.RegionHeld3
import Derived.RegionTactic
import Derived.Deep.Matrix
import Derived.Deep.Fields
import Derived.ChangeSame
namespace Go.Proofs.Ytemijekdcifncaa
open Go.RowKit

/-- a way around is shorter. -/
def shortAt (rows : List (List Int)) (i j k : Nat) : Bool := decide (g2 rows i j + g2 rows j k < g2 rows i k)
def anyShort (rows : List (List Int)) : Bool := (List.range rows.length).any fun i => (List.range rows.length).any fun j => (List.range rows.length).any fun k => shortAt rows i j k
def hasShort (rows : List (List Int)) : Bool := mapOk rows && anyShort rows
theorem anyShort_true {rows : List (List Int)} {i j k : Nat} (hi : i < rows.length) (hj : j < rows.length) (hk : k < rows.length) (h : g2 rows i j + g2 rows j k < g2 rows i k) : anyShort rows = true := by
  simp only [anyShort, List.any_eq_true, List.mem_range, shortAt, decide_eq_true_eq]
  exact ⟨i, hi, j, hj, k, hk, h⟩
theorem anyShort_false {rows : List (List Int)} (h : ∀ i j k, i < rows.length → j < rows.length → k < rows.length → g2 rows i k ≤ g2 rows i j + g2 rows j k) : anyShort rows = false := by
  rw [Bool.eq_false_iff]
  intro ht
  simp only [anyShort, List.any_eq_true, List.mem_range, shortAt, decide_eq_true_eq] at ht
  obtain ⟨i, hi, j, hj, k, hk, h1⟩ := ht
  have := h i j k hi hj hk
  omega
theorem MapP.bd {rows : List (List Int)} (h : MapP rows) : ∀ i k, i < rows.length → k < rows.length → 0 ≤ g2 rows i k ∧ g2 rows i k ≤ 1000 := fun i k hi hk => inR_iff.1 (h.2.2 i k hi hk).1
theorem MapP.len {rows : List (List Int)} (h : MapP rows) : 2 ≤ rows.length ∧ rows.length ≤ 7 := by have := inR_iff.1 h.1; omega

set_option maxRecDepth 100000 in
set_option maxHeartbeats 4000000 in
theorem implQ_HasShortcuts (v : Value) (rows : List (List Int)) (w : World) (h : RdM w v rows) (hl : OkM rows) :
    Calls Try.prog 22 #[v] w fun e w' => e = .returned (.bool (hasShort rows)) ∧ ∃ m, w' = w.drewN m := by
  have hv := hide h
  obtain ⟨A, c, rfl, hx⟩ := h
  have hn := hl.1
  clear hx
  have hcall := hide (implQ_MapOk _ rows w hv.out hl)
  go_enter Try.func22, Try.ntmps22
  go_wp2_with (go_at_call 19; fail)
  refine hcall.out.mono ?_
  rintro e w1 ⟨rfl, m0, rfl⟩
  clear hcall
  cases h1 : mapOk rows with
  | false =>
    have hf := hide (show hasShort rows = false from by simp [hasShort, h1])
    go_wp2_with fail
    go_ret
    exact ⟨ret_bool hf.out.symm, _, rfl⟩
  | true =>
    have hP := mapOk_iff.1 h1
    have hf := hide (show hasShort rows = anyShort rows from by simp [hasShort, h1])
    have hlen := hP.len
    obtain ⟨b, o, c1, rb, ro, rc, e1, hr1, hr2⟩ := hv.out.sq rfl hP.2.1 (by omega)
    injection e1 with e2 e3 e4
    subst e2 e4
    clear e3
    have Hr1 := hide hr1
    have Hr2 := hide hr2
    have Hbd := hide hP.bd
    clear hr1 hr2 h1 hP
    go_wp2_with fail
    go_loopw [11] (fun i wr => ∃ k m : Nat, k ≤ rows.length ∧ i = .int .i64 k ∧ wr = w.drewN m ∧ Hid (∀ a, a < k → ∀ b c, b < rows.length → c < rows.length → g2 rows a c ≤ g2 rows a b + g2 rows b c)) (fun i _ => rows.length - (intOf i).toNat)
    case atStart => exact ⟨0, m0, Nat.zero_le _, rfl, rfl, fun j hj => absurd hj (by omega)⟩
    case round =>
      obtain ⟨i, m, hi, rfl, rfl, hdi⟩ := hrel
      by_cases hil : i < rows.length
      · go_wp2_with fail
        go_loopw [16] (fun q wr => ∃ k m : Nat, k ≤ rows.length ∧ q = .int .i64 k ∧ wr = w.drewN m ∧ Hid (∀ b, b < k → ∀ c, c < rows.length → g2 rows i c ≤ g2 rows i b + g2 rows b c)) (fun i _ => rows.length - (intOf i).toNat)
        case atStart => exact ⟨0, m, Nat.zero_le _, rfl, rfl, fun j hj => absurd hj (by omega)⟩
        case round =>
          obtain ⟨j, m, hj, rfl, rfl, hdj⟩ := hrel
          by_cases hjl : j < rows.length
          · go_wp2_with fail
            go_loopw [21] (fun q wr => ∃ k m : Nat, k ≤ rows.length ∧ q = .int .i64 k ∧ wr = w.drewN m ∧ Hid (∀ c, c < k → g2 rows i c ≤ g2 rows i j + g2 rows j c)) (fun i _ => rows.length - (intOf i).toNat)
            case atStart => exact ⟨0, m, Nat.zero_le _, rfl, rfl, fun j hj => absurd hj (by omega)⟩
            case round =>
              obtain ⟨k, m, hk, rfl, rfl, hdk⟩ := hrel
              by_cases hkl : k < rows.length
              · have ci := Hr1.out i hil
                have cj := Hr1.out j hjl
                have cij := Hr2.out i j hil hjl
                have cjk := Hr2.out j k hjl hkl
                have cik := Hr2.out i k hil hkl
                have bij := Hbd.out i j hil hjl
                have bjk := Hbd.out j k hjl hkl
                have hib : (i : Int) < (rows.length : Int) := by omega
                have hjb : (j : Int) < (rows.length : Int) := by omega
                have hkb : (k : Int) < (rows.length : Int) := by omega
                by_cases hs : g2 rows i j + g2 rows j k < g2 rows i k
                · have hf2 := hide (hf.out.trans (anyShort_true hil hjl hkl hs))
                  generalize g2 rows i j = x at *
                  generalize g2 rows j k = y at *
                  generalize g2 rows i k = z at *
                  have hwr := IntWalk.i64_in (x + y) (by omega)
                  go_wp2_with fail
                  go_quiet (fail)
                  go_wp2
                  go_ret
                  exact ⟨ret_bool hf2.out.symm, _, (by first | rfl | (rw [World.drewN_drewN]))⟩
                · have R : Hid (∀ c, c < k + 1 → g2 rows i c ≤ g2 rows i j + g2 rows j c) := fun x hx => by
                    rcases Nat.lt_or_ge x k with h | h
                    · exact hdk.out x h
                    · obtain rfl : x = k := by omega
                      omega
                  generalize g2 rows i j = x at *
                  generalize g2 rows j k = y at *
                  generalize g2 rows i k = z at *
                  have hwr := IntWalk.i64_in (x + y) (by omega)
                  go_wp2_with fail
                  go_quiet (fail)
                  go_wp2
                  go_roundw
                  case rel => exact ⟨k + 1, _, by omega, by go_num, rfl, R⟩
                  case measure => simp [intOf]; omega
              · obtain rfl : k = rows.length := by omega
                have R : Hid (∀ b, b < j + 1 → ∀ c, c < rows.length → g2 rows i c ≤ g2 rows i b + g2 rows b c) := fun x hx => by
                  rcases Nat.lt_or_ge x j with h | h
                  · exact hdj.out x h
                  · obtain rfl : x = j := by omega
                    exact hdk.out
                go_wp2_with fail
                go_roundw
                case rel => exact ⟨j + 1, _, by omega, by go_num, rfl, R⟩
                case measure => simp [intOf]; omega
          · obtain rfl : j = rows.length := by omega
            have R : Hid (∀ a, a < i + 1 → ∀ b c, b < rows.length → c < rows.length → g2 rows a c ≤ g2 rows a b + g2 rows b c) := fun x hx => by
              rcases Nat.lt_or_ge x i with h | h
              · exact hdi.out x h
              · obtain rfl : x = i := by omega
                exact fun b c hb hc => hdj.out b hb c hc
            go_wp2_with fail
            go_roundw
            case rel => exact ⟨i + 1, _, by omega, by go_num, rfl, R⟩
            case measure => simp [intOf]; omega
      · obtain rfl : i = rows.length := by omega
        have hf2 := hide (hf.out.trans (anyShort_false fun a b c ha hb hc => hdi.out a ha b c hb hc))
        go_wp2_with fail
        go_ret
        exact ⟨ret_bool hf2.out.symm, _, rfl⟩
theorem impl_HasShortcuts (v : Value) (rows : List (List Int)) (w : World) (h : RdM w v rows) (hl : OkM rows) :
    Calls Try.prog 22 #[v] w fun e w' => e = .returned (.bool (hasShort rows)) ∧ Nx w w' := calls_nx (implQ_HasShortcuts v rows w h hl)

end Go.Proofs.Ytemijekdcifncaa
