/- Contracts of the small helpers. -/
import Derived.Test.YtkjclpbemdilbaaBase
import Derived.WalkKit
import Derived.ProofKit
import Derived.Handy
import Derived.OpenShut
import Derived.ShutString
import Derived.ChangeOld
import Derived.Below
import Derived.BigQuiet
import Derived.Deep.QuietTactic
import Derived.Deep.Draws
import Derived.Deep.DeepCutAuto
import Derived.Deep.DeepFit
import Derived.Deep.LoopGhost
import Derived.Outline
import Derived.WalkSpells
import Derived.WalkLawsBesides
import Derived.WalkSmall
import Derived.Laws.OwnMore
import Derived.OneCell
import Derived.Laws.Rows
import Derived.Maps.AppendAt
import Derived.StillTailTactics
import Derived.Lib.SmallJoins
import Derived.Deep.RegionWith
import Derived.Deep.RegionHeld3
import Derived.RegionTactic
import Derived.Deep.Matrix
import Derived.Deep.Fields
import Derived.ChangeSame
namespace Go.Proofs.Ytkjclpbemdilbaa
open Go.RowKit

set_option maxHeartbeats 400000 in
theorem within_any (n a b : Int) (w : World) : Calls Try.prog 37 #[.int .i64 n, .int .i64 a, .int .i64 b] w fun e w' => e = .returned (.bool (inR n a b)) ∧ w = w' := by
  by_cases h1 : a ≤ n
  · have hb : inR n a b = decide (n ≤ b) := by simp [inR, h1]
    rw [hb]
    go_enter Try.func37, Try.ntmps37
    go_wp2
    go_ret
    exact ⟨rfl, rfl⟩
  · have hb : inR n a b = false := by simp [inR, h1]
    rw [hb]
    go_enter Try.func37, Try.ntmps37
    go_wp2
    go_ret
    exact ⟨rfl, rfl⟩

set_option maxHeartbeats 400000 in
theorem l01In_any (n a b : Int) (w : World) : Calls Try.prog 35 #[.int .i64 n, .int .i64 a, .int .i64 b] w fun e w' => e = .returned (.bool (inR n a b)) ∧ w = w' := by
  by_cases h1 : a ≤ n
  · have hb : inR n a b = decide (n ≤ b) := by simp [inR, h1]
    rw [hb]
    go_enter Try.func35, Try.ntmps35
    go_wp2
    go_ret
    exact ⟨rfl, rfl⟩
  · have hb : inR n a b = false := by simp [inR, h1]
    rw [hb]
    go_enter Try.func35, Try.ntmps35
    go_wp2
    go_ret
    exact ⟨rfl, rfl⟩

set_option maxHeartbeats 400000 in
theorem allWithin_any (v : Value) (zs : List Int) (a b : Int) (w : World) (h : RdI w v zs) (hl : zs.length ≤ 1048576) :
    Calls Try.prog 43 #[v, .int .i64 a, .int .i64 b] w fun e w' => e = .returned (.bool (allW a b zs)) ∧ w = w' := by
  obtain ⟨A, c, rfl, hx⟩ := h
  go_enter Try.func43, Try.ntmps43
  go_wp2_with fail
  go_loop [11] (fun i => ∃ k : Nat, k ≤ zs.length ∧ i = .int .i64 k ∧ Hid (∀ j, j < k → inR (gt zs j) a b = true)) (fun i => zs.length - (intOf i).toNat)
  case atStart => exact ⟨0, Nat.zero_le _, rfl, fun j hj => absurd hj (by omega)⟩
  case round =>
    obtain ⟨k, hk, rfl, hall⟩ := hrel
    by_cases hlt : k < zs.length
    · obtain ⟨b0, off, rfl, hb0, hc⟩ := hx (by omega)
      have hck := hc k hlt
      clear hc hx
      cases hin : inR (gt zs k) a b with
      | true =>
        go_wp2_with (go_at_call 37; refine (within_any _ _ _ _).mono ?_; rintro e w' ⟨rfl, rfl⟩)
        go_round
        case rel => exact ⟨k + 1, by omega, by go_num, fun j hj => by
          rcases Nat.lt_or_ge j k with h | h
          · exact hall.out j h
          · obtain rfl : j = k := by omega
            exact hin⟩
        case measure => simp [intOf]; omega
      | false =>
        have hf := hide (allW_false hlt hin)
        go_wp2_with (go_at_call 37; refine (within_any _ _ _ _).mono ?_; rintro e w' ⟨rfl, rfl⟩)
        go_ret
        exact ⟨ret_bool hf.out.symm, rfl⟩
    · obtain rfl : k = zs.length := by omega
      have hf := hide (allW_of hall.out)
      go_wp2_with fail
      go_ret
      exact ⟨ret_bool hf.out.symm, rfl⟩

set_option maxHeartbeats 400000 in
theorem toIntS_any (v : Value) (zs : List Int) (w : World) (h : RdI w v zs) (hl : zs.length ≤ 1048576) :
    Calls Try.prog 29 #[v] w fun e w' => ∃ u, e = .returned u ∧ OwI w' w.heap.size u zs ∧ Nx w w' := by
  obtain ⟨A, c, rfl, hx⟩ := h
  obtain ⟨i0, hi, hz0, hz1, hz2⟩ := info_parts intInfo
  go_enter Try.func29, Try.ntmps29
  go_wp2_with (at_make; refine wpList_make_full _ rfl _ _ 36 rfl w.heap.size 3 i0 (.int .i64 0) 1 Try.underlying36 hi hz0 hz1 .i64 .i64 _ _ zs.length rfl rfl rfl rfl ?c1 ?c2 ?c3 ?_)
  case c1 => rw [hz2]; omega
  case c2 => unfold maxLen; omega
  case c3 => exact Nat.le_refl _
  intro w1 hown hg
  have hown0 : OwN w1 w.heap.size (.slice (some ⟨w.heap.size, 0, none⟩) zs.length zs.length) zs.length (zs.take 0 ++ List.replicate (zs.length - 0) 0) := by
    unfold OwN
    have e : (madeCells #[Value.int IntKind.i64 0] zs.length).toList = (zs.take 0 ++ List.replicate (zs.length - 0) 0).map (Value.int .i64) := by rw [toList_madeCells_one]; simp
    rw [← e]; exact hown
  have hb0 : Nx w w1 := (Below.refl _ _).grown hg (Nat.le_refl _) (by intro k hk; cases hk)
  clear hown hg
  go_wp2_with fail
  go_loopw [4] (fun i wr => ∃ k : Nat, k ≤ zs.length ∧ i = .int .i64 k ∧ OwN wr w.heap.size (.slice (some ⟨w.heap.size, 0, none⟩) zs.length zs.length) zs.length (zs.take k ++ List.replicate (zs.length - k) 0) ∧ Nx w wr) (fun i _ => zs.length - (intOf i).toNat)
  case atStart => exact ⟨0, Nat.zero_le _, rfl, hown0, hb0⟩
  case round =>
    obtain ⟨k, hk, rfl, hown, hb⟩ := hrel
    by_cases hlt : k < zs.length
    · obtain ⟨b0, off, rfl, hb0, hc⟩ := hx (by omega)
      have hck : wr.cell? ⟨b0, off + k, none⟩ = some (.int .i64 (gt zs k)) := (hb.cell (p := ⟨b0, off + k, none⟩) hb0).trans (hc k hlt)
      have hst := hown.cellAt hlt
      have hfr := hown.frozenAt k
      have R : OwN (wr.setCell ⟨w.heap.size, k, none⟩ (.int .i64 (gt zs k))) w.heap.size (.slice (some ⟨w.heap.size, 0, none⟩) zs.length zs.length) zs.length (zs.take (k + 1) ++ List.replicate (zs.length - (k + 1)) 0) := by
        rw [← fill_set hlt]; exact (hown.stored k _).1
      have Rb : Nx w (wr.setCell ⟨w.heap.size, k, none⟩ (.int .i64 (gt zs k))) := hb.setCell (Nat.le_refl _) _
      have R' := hide R
      have Rb' := hide Rb
      clear hc hx R Rb hown hown0 hb
      go_wp2
      go_roundw
      case rel => exact ⟨k + 1, by omega, by go_num, R'.out, Rb'.out⟩
      case measure => simp [intOf]; omega
    · obtain rfl : k = zs.length := by omega
      have R := hide hown
      have Rb := hide hb
      clear hown hown0 hb hx
      go_wp2_with fail
      go_ret
      exact ⟨_, rfl, by have := (unhide R).toI; simpa using this, unhide Rb⟩

set_option maxHeartbeats 400000 in
theorem eqIntS_same (v u : Value) (zs : List Int) (w : World) (h : RdI w v zs) (h' : RdI w u zs) (hl : zs.length ≤ 1048576) :
    Calls Try.prog 30 #[v, u] w fun e w' => e = .returned (.bool true) ∧ Nx w w' := by
  obtain ⟨A, c, rfl, hx⟩ := h
  obtain ⟨A', c', rfl, hx'⟩ := h'
  go_enter Try.func30, Try.ntmps30
  go_wp2_with fail
  go_loopw [5] (fun i wr => ∃ k m : Nat, k ≤ zs.length ∧ i = .int .i64 k ∧ wr = w.drewN m) (fun i _ => zs.length - (intOf i).toNat)
  case atStart => exact ⟨0, 0, Nat.zero_le _, rfl, rfl⟩
  case round =>
    obtain ⟨k, m, hk, rfl, rfl⟩ := hrel
    by_cases hlt : k < zs.length
    · obtain ⟨b0, off, rfl, hb0, hc⟩ := hx (by omega)
      obtain ⟨b1, off1, rfl, hb1, hc1⟩ := hx' (by omega)
      have hck := hc k hlt
      have hck1 := hc1 k hlt
      clear hc hx hc1 hx'
      go_wp2_with fail
      go_quiet (fail)
      go_wp2
      go_roundw
      case rel => exact ⟨k + 1, _, by omega, by go_num, rfl⟩
      case measure => simp [intOf]; omega
    · obtain rfl : k = zs.length := by omega
      clear hx hx'
      go_wp2_with fail
      go_ret
      exact ⟨rfl, below_drewN (Below.refl _ _) _⟩

set_option maxHeartbeats 400000 in
theorem markIntS_any (v : Value) (zs : List Int) (k : Int) (B : Nat) (w : World) (h : OwI w B v zs) (hl : zs.length ≤ 1048576) (hk0 : 0 ≤ k) (hk1 : k ≤ 1099511627776) :
    Calls Try.prog 32 #[v, .int .i64 k] w fun e w' => e = .returned (.int .i64 (k + zs.length)) ∧ OwI w' B v (marks k zs.length) ∧ w.grownBy w' v.ownBlock := by
  obtain ⟨A, c, rfl, hx, _⟩ := h.open_
  go_enter Try.func32, Try.ntmps32
  go_wp2_with fail
  go_loopw [1, 5] (fun q i wr => ∃ j : Nat, j ≤ zs.length ∧ i = .int .i64 j ∧ q = .int .i64 (k + j) ∧ OwN wr B (.slice A zs.length c) zs.length (marks k j ++ zs.drop j) ∧ w.grownBy wr (Value.slice A zs.length c).ownBlock) (fun _ i _ => zs.length - (intOf i).toNat)
  case atStart => exact ⟨0, Nat.zero_le _, rfl, by simp, h, World.grownBy.refl _ _⟩
  case round =>
    obtain ⟨j, hj, rfl, rfl, hown, hg⟩ := hrel
    by_cases hlt : j < zs.length
    · obtain ⟨g, rfl⟩ := hx (by omega)
      have hst := hown.cellAt hlt
      have hfr := hown.frozenAt j
      have R := hide (hown.stored j (k + j)).1
      rw [mark_set hlt] at R
      have Rb := hide (grownBy_trans hg (hown.stored j (k + j)).2)
      clear hx hown hg h
      go_wp2
      go_roundw
      case rel => exact ⟨j + 1, by omega, by go_num, by go_num, R.out, Rb.out⟩
      case measure => simp [intOf]; omega
    · obtain rfl : j = zs.length := by omega
      have R := hide hown
      have Rb := hide hg
      clear hown hg hx h
      go_wp2_with fail
      go_ret
      exact ⟨rfl, by have := (unhide R).toI; simp only [List.drop_length, List.append_nil] at this; unfold OwI at this ⊢; exact this, unhide Rb⟩

set_option maxHeartbeats 400000 in
theorem heldIntS_marks (v : Value) (n : Nat) (k : Int) (w : World) (h : RdI w v (marks k n)) (hl : n ≤ 1048576) (hk0 : 0 ≤ k) (hk1 : k ≤ 1099511627776) :
    Calls Try.prog 45 #[v, .int .i64 k] w fun e w' => e = .returned (.int .i64 (k + n)) ∧ Nx w w' := by
  obtain ⟨A, c, rfl, hx⟩ := h
  rw [marks_length] at hx ⊢
  go_enter Try.func45, Try.ntmps45
  go_wp2_with fail
  go_loopw [1, 5] (fun q i wr => ∃ j m : Nat, j ≤ n ∧ i = .int .i64 j ∧ q = .int .i64 (k + j) ∧ wr = w.drewN m) (fun _ i _ => n - (intOf i).toNat)
  case atStart => exact ⟨0, 0, Nat.zero_le _, rfl, by simp, rfl⟩
  case round =>
    obtain ⟨j, m, hj, rfl, rfl, rfl⟩ := hrel
    by_cases hlt : j < n
    · obtain ⟨b0, off, rfl, hb0, hc⟩ := hx (by omega)
      have hck := hc j hlt
      rw [gt_marks hlt] at hck
      clear hc hx
      go_wp2_with fail
      first | go_quiet (fail) | skip
      go_wp2
      go_roundw
      case rel => exact ⟨j + 1, _, by omega, by go_num, by go_num, rfl⟩
      case measure => simp [intOf]; omega
    · obtain rfl : j = n := by omega
      clear hx
      go_wp2_with fail
      go_ret
      exact ⟨rfl, below_drewN (Below.refl _ _) _⟩

theorem own_alloc {w : World} {B : Nat} {v : Value} {zs : List Int} (h : OwI w B v zs) (o : Obj) : OwI (w.alloc o) B v zs := World.ownsRow.alloc h o
theorem grownBy_of_alloc {w w' : World} {o : Obj} {row : Option Nat} (h : (w.alloc o).grownBy w' row) : w.grownBy w' row := grownBy_trans (World.grownBy_alloc w o row) h

/-- append of one number to a row of the program's own. -/
theorem wpList_push {ops : Array Oper} {rest : List Oper} {o : Oper} {a : Act} {Q : Exit → Act → World → Prop} (hgd : o.guard = none) (s x : Operand)
    (ho : o.op = .call { callee := .builtin .append, args := #[s, x], argTypes := #[36, 36] })
    (w : World) (B : Nat) (v : Value) (xs : List Int) (n : Int) (hs : a.eval s = v) (hx : a.eval x = .slice (some ⟨w.heap.size, 0, none⟩) 1 1)
    (hown : OwI w B v xs) (hl : xs.length ≤ 16777216) (hB : B ≤ w.heap.size)
    (h : ∀ v' w', OwI w' B v' (xs ++ [n]) → w.grownBy w' v.ownBlock → (v'.ownBlock = v.ownBlock ∨ v'.ownBlock = some (w.heap.size + 1)) → wpList Try.prog ops Q rest (a.put o.dst v') w') :
    wpList Try.prog ops Q (o :: rest) a (w.alloc (.cells #[.int .i64 n] 3)) := by
  obtain ⟨i0, hi, hz0, hz1, hz2⟩ := info_parts intInfo
  refine wpList_append_own_at (P := Try.prog) (w.alloc (.cells #[.int .i64 n] 3)) hgd s x 36 ho B 3 i0 (.int .i64 0) 1 8 Try.underlying36 hi hz0 hz1 hz2 rfl (by decide) v xs.length (xs.map (Value.int .i64)) hs (own_alloc hown _) ⟨w.heap.size, 0, none⟩ 1 1 [.int .i64 n] hx rfl (cell_one_new _ _ _) ?_ ?_ ?_ ?_ ?_
  · intro u hu; simp at hu; subst hu; rfl
  · unfold maxLen; omega
  · omega
  · simp; omega
  · intro v' w' hown' hg _ hat
    refine h v' w' ?_ (grownBy_of_alloc hg) ?_
    · unfold OwI
      rw [List.length_append, List.map_append]
      exact hown'
    · rcases hat with e | e
      · exact .inl e
      · exact .inr (by rw [e]; simp)

theorem Nx.pushed {w0 w w' : World} {v : Value} {xs : List Int} {B : Nat} (hb : Nx w0 w) (hown : OwI w B v xs) (hB : w0.heap.size ≤ B) (hg : w.grownBy w' v.ownBlock) : Nx w0 w' := hb.only hown hg hB

theorem OwI.made0 (w : World) : OwI (w.alloc (.cells #[] 3)) w.heap.size (.slice (some ⟨w.heap.size, 0, none⟩) 0 0) [] :=
  World.ownsRow_made w #[] 0 (Nat.le_refl _) (by unfold maxLen; omega) rfl
/-- the same where the walk spells the heap's size by another name. -/
theorem wpList_pushH {ops : Array Oper} {rest : List Oper} {o : Oper} {a : Act} {Q : Exit → Act → World → Prop} (hgd : o.guard = none) (s x : Operand)
    (ho : o.op = .call { callee := .builtin .append, args := #[s, x], argTypes := #[36, 36] })
    (w : World) (B H : Nat) (hH : w.heap.size = H) (v : Value) (xs : List Int) (n : Int) (hs : a.eval s = v) (hx : a.eval x = .slice (some ⟨H, 0, none⟩) 1 1)
    (hown : OwI w B v xs) (hl : xs.length ≤ 16777216) (hB : B ≤ w.heap.size)
    (h : ∀ v' w', OwI w' B v' (xs ++ [n]) → w.grownBy w' v.ownBlock → (v'.ownBlock = v.ownBlock ∨ v'.ownBlock = some (H + 1)) → wpList Try.prog ops Q rest (a.put o.dst v') w') :
    wpList Try.prog ops Q (o :: rest) a (w.alloc (.cells #[.int .i64 n] 3)) := by
  subst hH
  exact wpList_push hgd s x ho w B v xs n hs hx hown hl hB h

end Go.Proofs.Ytkjclpbemdilbaa
