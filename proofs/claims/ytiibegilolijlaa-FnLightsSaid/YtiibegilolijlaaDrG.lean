/- Drawn fades and watts. -/
import Derived.Test.YtiibegilolijlaaDrF
import Derived.WalkKit
import Derived.ProofKit
import Derived.Handy
import Derived.OpenShut
import Derived.ShutString
import Derived.ChangeOld
import Derived.Below
import Derived.BigQuiet
import Derived.Deep.QuietTactic
import Derived.Deep.Draws
import Derived.Deep.DeepCutAuto
import Derived.Deep.DeepFit
import Derived.Deep.LoopGhost
import Derived.Outline
import Derived.WalkSpells
import Derived.WalkLawsBesides
import Derived.WalkSmall
import Derived.Laws.OwnMore
import Derived.OneCell
import Derived.Laws.Rows
import Derived.Maps.AppendAt
import Derived.StillTailTactics
import Derived.Lib.SmallJoins
import Derived.Deep.RegionWith
import Derived.Deep.RegionHeld3
import Derived.RegionTactic
import Derived.Deep.Matrix
import Derived.Deep.Fields
import Derived.ChangeSame
namespace Go.Proofs.Ytiibegilolijlaa
open Go.RowKit

theorem push_ne {u q : Value} {H : Nat} (h : ∀ k, u.ownBlock = some k → k < H) (h' : ∀ k, q.ownBlock = some k → H ≤ k) : u.ownBlock = none ∨ u.ownBlock ≠ q.ownBlock := by
  cases hu : u.ownBlock with
  | none => exact .inl rfl
  | some a =>
    refine .inr fun e => ?_
    have h1 := h a hu
    have h2 := h' a e.symm
    omega
set_option maxHeartbeats 1000000 in
theorem DrawFades_any (v : Value) (zs : List Int) (w : World) (hr : RdB w v zs) (hl : zs.length ≤ 1048576) :
    Calls Try.prog 17 #[v] w fun e w' => ∃ u q, e = .returned (.tuple #[u, q]) ∧ ∃ rows ws, (OwS w' w.heap.size u rows ∧ OwI w' w.heap.size q ws ∧ fadesOk rows = true ∧ rows.length ≤ 7 ∧ ws.length = 8 ∧ (∀ k, k < ws.length → 0 ≤ gt ws k ∧ gt ws k ≤ 950)) ∧ Nx w w' := by
  go_enter Try.func17, Try.ntmps17
  go_wp2_with (go_at_call 33; fail)
  refine (l01New_any v zs w hr hl).mono ?_
  rintro e w1 ⟨rfl, hc1, hb1⟩
  have hz1 := hb1.size
  have HC := hide hc1
  have HB := hide hb1
  clear hc1 hb1
  go_wp2_with (go_at_call 34; fail)
  refine (l18List_any w v zs w.heap.size w1 hr hl HB.out HC.out).mono ?_
  rintro e w2 ⟨u, rfl, rows, ho, hok, hn, hc, hb⟩
  have NA := Nx.made w2 (.cells #[] 3)
  have HB2 := hide (hb.trans NA)
  have HC2 := hide (hc.below NA)
  have HO2 := hide ((ho.mono hz1).below NA)
  have HI2 := hide (OwI.made0 w2)
  have HOK := hide hok
  have hul := hide (fun k (hk : u.ownBlock = some k) => (ho.lt k hk).2)
  have hgw : w.heap.size < w2.heap.size := hc.lt
  have hs3 : w2.heap.size ≤ (w2.alloc (.cells #[] 3)).heap.size := NA.size
  clear ho hok hc hb NA HC HB
  go_wp2_with fail
  generalize World.alloc _ _ = w3 at HB2 HC2 HO2 HI2 hs3 ⊢
  generalize hHs : w2.heap.size = Hs at HI2 hs3 hgw hul ⊢
  clear hHs
  go_loopw [6, 7] (fun q i wr => ∃ (j : Nat) (ws : List Int), j ≤ 8 ∧ i = .int .i64 (j : Int) ∧ ws.length = j ∧ OwI wr Hs q ws ∧ OwS wr w.heap.size u rows ∧ Hid (∀ k, k < ws.length → 0 ≤ gt ws k ∧ gt ws k ≤ 950) ∧ Cur w wr w.heap.size v zs.length ∧ Nx w wr ∧ Hs ≤ wr.heap.size) (fun _ i _ => 8 - (intOf i).toNat)
  case atStart => exact ⟨0, [], by omega, rfl, rfl, HI2.out, HO2.out, fun k hk => absurd hk (by simp), HC2.out, HB2.out, hs3⟩
  case round =>
    clear HI2 HO2 HB2 HC2 hs3
    obtain ⟨j, ws, hj, rfl, hwl, hownI, hown, hbd, hc, hb, hz⟩ := hrel
    have Hwl := hide hwl
    have HI := hide hownI
    have HO := hide hown
    have HC := hide hc
    have HB := hide hb
    clear hwl hownI hown hc hb
    by_cases hjt : j < 8
    · have hji : (j : Int) < 8 := by omega
      go_wp2_with (go_at_call 35; fail)
      refine (l01Below_any w v zs w.heap.size 20 _ hr hl HB.out HC.out (by omega) (by omega)).mono ?_
      rintro e wb ⟨x, rfl, hx, hc', hg'⟩
      have HB4 := hide (HB.out.grownAt hg' (Nat.le_refl _))
      have HI4 := hide (HI.out.kept hg' (HC.out.rowI HI.out))
      have HO4 := hide (HO.out.keptL hg' (HO.out.cur HC.out))
      have HC4 := hide hc'
      have hz4 : Hs ≤ wb.heap.size := Nat.le_trans hz hg'.size
      clear hc' hg' HC HI HB HO
      have hl5 : ws.length ≤ 16777216 := by have := Hwl.out; omega
      go_wp2_with (at_builtin; refine wpList_push rfl (.tmp 17) (.tmp 21) rfl wb Hs _ ws (50 * x) rfl rfl HI4.out hl5 hz4 ?_; intro v1 we hown1 hg1 _; have hb5 := HB4.out.pushed HI4.out (Nat.le_of_lt hgw) hg1; have hc5 := HC4.out.kept hg1 (Ne.symm (HC4.out.row HI4.out (by decide))); have hz5 := Nat.le_trans hz4 hg1.size; have hm5 := HO4.out.kept hg1 (push_ne hul.out (OwI.base HI4.out)))
      go_roundw
      case rel => exact ⟨j + 1, ws ++ [50 * x], by omega, by go_num, by simp [Hwl.out], hown1, hm5, fun k hk => by
        rw [List.length_append, List.length_singleton] at hk
        rcases Nat.lt_or_ge k ws.length with h | h
        · rw [gt_append_left h]; exact hbd.out k h
        · obtain rfl : k = ws.length := by omega
          rw [gt_snoc]; omega, hc5, hb5, hz5⟩
      case measure => simp [intOf]; omega
    · obtain rfl : j = 8 := by omega
      have F := hide (show OwS wr w.heap.size u rows ∧ OwI wr w.heap.size u6 ws ∧ fadesOk rows = true ∧ rows.length ≤ 7 ∧ ws.length = 8 ∧ (∀ k, k < ws.length → 0 ≤ gt ws k ∧ gt ws k ≤ 950) from ⟨HO.out, HI.out.mono (by omega), HOK.out, hn, Hwl.out, hbd.out⟩)
      go_wp2_with fail
      go_ret2
      exact ⟨_, _, rfl, rows, ws, F.out, HB.out⟩

/-- the number that the law takes out of the bytes. -/
def atV (zs : List Int) (i : Int) : Int := if zs.length = 0 then 0 else gt zs ((i * 5 + 1) % (zs.length : Int)).toNat
theorem atV_bd {w : World} {v : Value} {zs : List Int} (h : RdB w v zs) (i : Int) : 0 ≤ atV zs i ∧ atV zs i ≤ 255 := by
  unfold atV
  split
  · omega
  · rename_i h0
    obtain ⟨A, c, rfl, hx⟩ := h
    obtain ⟨b0, off, rfl, hb0, hc⟩ := hx (by omega)
    have hm0 : 0 ≤ (i * 5 + 1) % (zs.length : Int) := Int.emod_nonneg _ (by omega)
    have hm1 : (i * 5 + 1) % (zs.length : Int) < (zs.length : Int) := Int.emod_lt_of_pos _ (by omega)
    exact (hc _ (show ((i * 5 + 1) % (zs.length : Int)).toNat < zs.length by omega)).2
set_option maxHeartbeats 1000000 in
theorem at_det (v : Value) (zs : List Int) (i : Int) (w : World) (h : RdB w v zs) (hl : zs.length ≤ 1048576) (i0 : 0 ≤ i ∧ i ≤ 1000) : Calls Try.prog 18 #[v, .int .i64 i] w fun e w' => e = .returned (.int .i64 (atV zs i)) ∧ w = w' := by
  have HV := hide (show atV zs i = if zs.length = 0 then 0 else gt zs ((i * 5 + 1) % (zs.length : Int)).toNat from rfl)
  rw [HV.out]
  obtain ⟨A, c, rfl, hx⟩ := h
  by_cases h0 : zs.length = 0
  · have e0 : ((zs.length : Int) == 0) = true := by simp [h0]
    rw [if_pos h0]
    clear hx h0
    go_enter Try.func18, Try.ntmps18
    go_wp2
    go_ret
    exact ⟨rfl, rfl⟩
  · have e0 : ((zs.length : Int) == 0) = false := by simp [h0]
    obtain ⟨b0, off, rfl, hb0, hc⟩ := hx (by omega)
    have hm0 : 0 ≤ (i * 5 + 1) % (zs.length : Int) := Int.emod_nonneg _ (by omega)
    have hm1 : (i * 5 + 1) % (zs.length : Int) < (zs.length : Int) := Int.emod_lt_of_pos _ (by omega)
    have hq : ((i * 5 + 1) % (zs.length : Int)).toNat < zs.length := by omega
    have hck := (hc _ hq).1
    have hbd := (hc _ hq).2
    rw [if_neg h0]
    clear hc hx h0 hq
    generalize gt zs ((i * 5 + 1) % (zs.length : Int)).toNat = y at hck hbd ⊢
    have hl1 : (zs.length : Int) ≤ 1048576 := by omega
    have hl0 : 0 < (zs.length : Int) := by omega
    go_enter Try.func18, Try.ntmps18
    go_wp2_with fail
    go_ret
    exact ⟨rfl, rfl⟩

end Go.Proofs.Ytiibegilolijlaa
