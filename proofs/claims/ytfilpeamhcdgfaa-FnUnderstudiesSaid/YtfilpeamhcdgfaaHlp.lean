/- Contracts of the small helpers. -/
import Derived.Test.YtfilpeamhcdgfaaBase
import Derived.WalkKit
import Derived.ProofKit
import Derived.Handy
import Derived.OpenShut
import Derived.ShutString
import Derived.ChangeOld
import Derived.Below
import Derived.BigQuiet
import Derived.Deep.QuietTactic
import Derived.Deep.Draws
import Derived.Deep.DeepCutAuto
import Derived.Deep.DeepFit
import Derived.Deep.LoopGhost
import Derived.Outline
import Derived.WalkSpells
import Derived.WalkLawsBesides
import Derived.WalkSmall
import Derived.Laws.OwnMore
import Derived.OneCell
import Derived.Laws.Rows
import Derived.Maps.AppendAt
import Derived.StillTailTactics
import Derived.Lib.SmallJoins
import Derived.Deep.RegionWith
import Derived.Deep.RegionHeld3
import Derived.RegionTactic
import Derived.Deep.Matrix
import Derived.Deep.Fields
import Derived.ChangeSame
namespace Go.Proofs.Ytfilpeamhcdgfaa
open Go.RowKit

set_option maxHeartbeats 400000 in
theorem within_any (n a b : Int) (w : World) : Calls Try.prog 41 #[.int .i64 n, .int .i64 a, .int .i64 b] w fun e w' => e = .returned (.bool (inR n a b)) ∧ w = w' := by
  by_cases h1 : a ≤ n
  · have hb : inR n a b = decide (n ≤ b) := by simp [inR, h1]
    rw [hb]
    go_enter Try.func41, Try.ntmps41
    go_wp2
    go_ret
    exact ⟨rfl, rfl⟩
  · have hb : inR n a b = false := by simp [inR, h1]
    rw [hb]
    go_enter Try.func41, Try.ntmps41
    go_wp2
    go_ret
    exact ⟨rfl, rfl⟩

set_option maxHeartbeats 400000 in
theorem l01In_any (n a b : Int) (w : World) : Calls Try.prog 49 #[.int .i64 n, .int .i64 a, .int .i64 b] w fun e w' => e = .returned (.bool (inR n a b)) ∧ w = w' := by
  by_cases h1 : a ≤ n
  · have hb : inR n a b = decide (n ≤ b) := by simp [inR, h1]
    rw [hb]
    go_enter Try.func49, Try.ntmps49
    go_wp2
    go_ret
    exact ⟨rfl, rfl⟩
  · have hb : inR n a b = false := by simp [inR, h1]
    rw [hb]
    go_enter Try.func49, Try.ntmps49
    go_wp2
    go_ret
    exact ⟨rfl, rfl⟩

set_option maxHeartbeats 400000 in
theorem allWithin_any (v : Value) (zs : List Int) (a b : Int) (w : World) (h : RdI w v zs) (hl : zs.length ≤ 1048576) :
    Calls Try.prog 59 #[v, .int .i64 a, .int .i64 b] w fun e w' => e = .returned (.bool (allW a b zs)) ∧ w = w' := by
  obtain ⟨A, c, rfl, hx⟩ := h
  go_enter Try.func59, Try.ntmps59
  go_wp2_with fail
  go_loop [11] (fun i => ∃ k : Nat, k ≤ zs.length ∧ i = .int .i64 k ∧ Hid (∀ j, j < k → inR (gt zs j) a b = true)) (fun i => zs.length - (intOf i).toNat)
  case atStart => exact ⟨0, Nat.zero_le _, rfl, fun j hj => absurd hj (by omega)⟩
  case round =>
    obtain ⟨k, hk, rfl, hall⟩ := hrel
    by_cases hlt : k < zs.length
    · obtain ⟨b0, off, rfl, hb0, hc⟩ := hx (by omega)
      have hck := hc k hlt
      clear hc hx
      cases hin : inR (gt zs k) a b with
      | true =>
        go_wp2_with (go_at_call 41; refine (within_any _ _ _ _).mono ?_; rintro e w' ⟨rfl, rfl⟩)
        go_round
        case rel => exact ⟨k + 1, by omega, by go_num, fun j hj => by
          rcases Nat.lt_or_ge j k with h | h
          · exact hall.out j h
          · obtain rfl : j = k := by omega
            exact hin⟩
        case measure => simp [intOf]; omega
      | false =>
        have hf := hide (allW_false hlt hin)
        go_wp2_with (go_at_call 41; refine (within_any _ _ _ _).mono ?_; rintro e w' ⟨rfl, rfl⟩)
        go_ret
        exact ⟨ret_bool hf.out.symm, rfl⟩
    · obtain rfl : k = zs.length := by omega
      have hf := hide (allW_of hall.out)
      go_wp2_with fail
      go_ret
      exact ⟨ret_bool hf.out.symm, rfl⟩

set_option maxHeartbeats 400000 in
theorem toIntS_any (v : Value) (zs : List Int) (w : World) (h : RdI w v zs) (hl : zs.length ≤ 1048576) :
    Calls Try.prog 9 #[v] w fun e w' => ∃ u, e = .returned u ∧ OwI w' w.heap.size u zs ∧ Nx w w' := by
  obtain ⟨A, c, rfl, hx⟩ := h
  obtain ⟨i0, hi, hz0, hz1, hz2⟩ := info_parts intInfo
  go_enter Try.func9, Try.ntmps9
  go_wp2_with (at_make; refine wpList_make_full _ rfl _ _ 23 rfl w.heap.size 3 i0 (.int .i64 0) 1 Try.underlying23 hi hz0 hz1 .i64 .i64 _ _ zs.length rfl rfl rfl rfl ?c1 ?c2 ?c3 ?_)
  case c1 => rw [hz2]; omega
  case c2 => unfold maxLen; omega
  case c3 => exact Nat.le_refl _
  intro w1 hown hg
  have hown0 : OwN w1 w.heap.size (.slice (some ⟨w.heap.size, 0, none⟩) zs.length zs.length) zs.length (zs.take 0 ++ List.replicate (zs.length - 0) 0) := by
    unfold OwN
    have e : (madeCells #[Value.int IntKind.i64 0] zs.length).toList = (zs.take 0 ++ List.replicate (zs.length - 0) 0).map (Value.int .i64) := by rw [toList_madeCells_one]; simp
    rw [← e]; exact hown
  have hb0 : Nx w w1 := (Below.refl _ _).grown hg (Nat.le_refl _) (by intro k hk; cases hk)
  clear hown hg
  go_wp2_with fail
  go_loopw [4] (fun i wr => ∃ k : Nat, k ≤ zs.length ∧ i = .int .i64 k ∧ OwN wr w.heap.size (.slice (some ⟨w.heap.size, 0, none⟩) zs.length zs.length) zs.length (zs.take k ++ List.replicate (zs.length - k) 0) ∧ Nx w wr) (fun i _ => zs.length - (intOf i).toNat)
  case atStart => exact ⟨0, Nat.zero_le _, rfl, hown0, hb0⟩
  case round =>
    obtain ⟨k, hk, rfl, hown, hb⟩ := hrel
    by_cases hlt : k < zs.length
    · obtain ⟨b0, off, rfl, hb0, hc⟩ := hx (by omega)
      have hck : wr.cell? ⟨b0, off + k, none⟩ = some (.int .i64 (gt zs k)) := (hb.cell (p := ⟨b0, off + k, none⟩) hb0).trans (hc k hlt)
      have hst := hown.cellAt hlt
      have hfr := hown.frozenAt k
      have R : OwN (wr.setCell ⟨w.heap.size, k, none⟩ (.int .i64 (gt zs k))) w.heap.size (.slice (some ⟨w.heap.size, 0, none⟩) zs.length zs.length) zs.length (zs.take (k + 1) ++ List.replicate (zs.length - (k + 1)) 0) := by
        rw [← fill_set hlt]; exact (hown.stored k _).1
      have Rb : Nx w (wr.setCell ⟨w.heap.size, k, none⟩ (.int .i64 (gt zs k))) := hb.setCell (Nat.le_refl _) _
      have R' := hide R
      have Rb' := hide Rb
      clear hc hx R Rb hown hown0 hb
      go_wp2
      go_roundw
      case rel => exact ⟨k + 1, by omega, by go_num, R'.out, Rb'.out⟩
      case measure => simp [intOf]; omega
    · obtain rfl : k = zs.length := by omega
      have R := hide hown
      have Rb := hide hb
      clear hown hown0 hb hx
      go_wp2_with fail
      go_ret
      exact ⟨_, rfl, by have := (unhide R).toI; simpa using this, unhide Rb⟩

set_option maxHeartbeats 400000 in
theorem eqIntS_same (v u : Value) (zs : List Int) (w : World) (h : RdI w v zs) (h' : RdI w u zs) (hl : zs.length ≤ 1048576) :
    Calls Try.prog 11 #[v, u] w fun e w' => e = .returned (.bool true) ∧ Nx w w' := by
  obtain ⟨A, c, rfl, hx⟩ := h
  obtain ⟨A', c', rfl, hx'⟩ := h'
  go_enter Try.func11, Try.ntmps11
  go_wp2_with fail
  go_loopw [5] (fun i wr => ∃ k m : Nat, k ≤ zs.length ∧ i = .int .i64 k ∧ wr = w.drewN m) (fun i _ => zs.length - (intOf i).toNat)
  case atStart => exact ⟨0, 0, Nat.zero_le _, rfl, rfl⟩
  case round =>
    obtain ⟨k, m, hk, rfl, rfl⟩ := hrel
    by_cases hlt : k < zs.length
    · obtain ⟨b0, off, rfl, hb0, hc⟩ := hx (by omega)
      obtain ⟨b1, off1, rfl, hb1, hc1⟩ := hx' (by omega)
      have hck := hc k hlt
      have hck1 := hc1 k hlt
      clear hc hx hc1 hx'
      go_wp2_with fail
      go_quiet (fail)
      go_wp2
      go_roundw
      case rel => exact ⟨k + 1, _, by omega, by go_num, rfl⟩
      case measure => simp [intOf]; omega
    · obtain rfl : k = zs.length := by omega
      clear hx hx'
      go_wp2_with fail
      go_ret
      exact ⟨rfl, below_drewN (Below.refl _ _) _⟩

set_option maxHeartbeats 400000 in
theorem markIntS_any (v : Value) (zs : List Int) (k : Int) (B : Nat) (w : World) (h : OwI w B v zs) (hl : zs.length ≤ 1048576) (hk0 : 0 ≤ k) (hk1 : k ≤ 1099511627776) :
    Calls Try.prog 14 #[v, .int .i64 k] w fun e w' => e = .returned (.int .i64 (k + zs.length)) ∧ OwI w' B v (marks k zs.length) ∧ w.grownBy w' v.ownBlock := by
  obtain ⟨A, c, rfl, hx, _⟩ := h.open_
  go_enter Try.func14, Try.ntmps14
  go_wp2_with fail
  go_loopw [1, 5] (fun q i wr => ∃ j : Nat, j ≤ zs.length ∧ i = .int .i64 j ∧ q = .int .i64 (k + j) ∧ OwN wr B (.slice A zs.length c) zs.length (marks k j ++ zs.drop j) ∧ w.grownBy wr (Value.slice A zs.length c).ownBlock) (fun _ i _ => zs.length - (intOf i).toNat)
  case atStart => exact ⟨0, Nat.zero_le _, rfl, by simp, h, World.grownBy.refl _ _⟩
  case round =>
    obtain ⟨j, hj, rfl, rfl, hown, hg⟩ := hrel
    by_cases hlt : j < zs.length
    · obtain ⟨g, rfl⟩ := hx (by omega)
      have hst := hown.cellAt hlt
      have hfr := hown.frozenAt j
      have R := hide (hown.stored j (k + j)).1
      rw [mark_set hlt] at R
      have Rb := hide (grownBy_trans hg (hown.stored j (k + j)).2)
      clear hx hown hg h
      go_wp2
      go_roundw
      case rel => exact ⟨j + 1, by omega, by go_num, by go_num, R.out, Rb.out⟩
      case measure => simp [intOf]; omega
    · obtain rfl : j = zs.length := by omega
      have R := hide hown
      have Rb := hide hg
      clear hown hg hx h
      go_wp2_with fail
      go_ret
      exact ⟨rfl, by have := (unhide R).toI; simp only [List.drop_length, List.append_nil] at this; unfold OwI at this ⊢; exact this, unhide Rb⟩

set_option maxHeartbeats 400000 in
theorem heldIntS_marks (v : Value) (n : Nat) (k : Int) (w : World) (h : RdI w v (marks k n)) (hl : n ≤ 1048576) (hk0 : 0 ≤ k) (hk1 : k ≤ 1099511627776) :
    Calls Try.prog 15 #[v, .int .i64 k] w fun e w' => e = .returned (.int .i64 (k + n)) ∧ Nx w w' := by
  obtain ⟨A, c, rfl, hx⟩ := h
  rw [marks_length] at hx ⊢
  go_enter Try.func15, Try.ntmps15
  go_wp2_with fail
  go_loopw [1, 5] (fun q i wr => ∃ j m : Nat, j ≤ n ∧ i = .int .i64 j ∧ q = .int .i64 (k + j) ∧ wr = w.drewN m) (fun _ i _ => n - (intOf i).toNat)
  case atStart => exact ⟨0, 0, Nat.zero_le _, rfl, by simp, rfl⟩
  case round =>
    obtain ⟨j, m, hj, rfl, rfl, rfl⟩ := hrel
    by_cases hlt : j < n
    · obtain ⟨b0, off, rfl, hb0, hc⟩ := hx (by omega)
      have hck := hc j hlt
      rw [gt_marks hlt] at hck
      clear hc hx
      go_wp2_with fail
      first | go_quiet (fail) | skip
      go_wp2
      go_roundw
      case rel => exact ⟨j + 1, _, by omega, by go_num, by go_num, rfl⟩
      case measure => simp [intOf]; omega
    · obtain rfl : j = n := by omega
      clear hx
      go_wp2_with fail
      go_ret
      exact ⟨rfl, below_drewN (Below.refl _ _) _⟩

theorem own_alloc {w : World} {B : Nat} {v : Value} {zs : List Int} (h : OwI w B v zs) (o : Obj) : OwI (w.alloc o) B v zs := World.ownsRow.alloc h o
theorem grownBy_of_alloc {w w' : World} {o : Obj} {row : Option Nat} (h : (w.alloc o).grownBy w' row) : w.grownBy w' row := grownBy_trans (World.grownBy_alloc w o row) h

/-- append of one number to a row of the program's own. -/
theorem wpList_push {ops : Array Oper} {rest : List Oper} {o : Oper} {a : Act} {Q : Exit → Act → World → Prop} (hgd : o.guard = none) (s x : Operand)
    (ho : o.op = .call { callee := .builtin .append, args := #[s, x], argTypes := #[23, 23] })
    (w : World) (B : Nat) (v : Value) (xs : List Int) (n : Int) (hs : a.eval s = v) (hx : a.eval x = .slice (some ⟨w.heap.size, 0, none⟩) 1 1)
    (hown : OwI w B v xs) (hl : xs.length ≤ 16777216) (hB : B ≤ w.heap.size)
    (h : ∀ v' w', OwI w' B v' (xs ++ [n]) → w.grownBy w' v.ownBlock → (v'.ownBlock = v.ownBlock ∨ v'.ownBlock = some (w.heap.size + 1)) → wpList Try.prog ops Q rest (a.put o.dst v') w') :
    wpList Try.prog ops Q (o :: rest) a (w.alloc (.cells #[.int .i64 n] 3)) := by
  obtain ⟨i0, hi, hz0, hz1, hz2⟩ := info_parts intInfo
  refine wpList_append_own_at (P := Try.prog) (w.alloc (.cells #[.int .i64 n] 3)) hgd s x 23 ho B 3 i0 (.int .i64 0) 1 8 Try.underlying23 hi hz0 hz1 hz2 rfl (by decide) v xs.length (xs.map (Value.int .i64)) hs (own_alloc hown _) ⟨w.heap.size, 0, none⟩ 1 1 [.int .i64 n] hx rfl (cell_one_new _ _ _) ?_ ?_ ?_ ?_ ?_
  · intro u hu; simp at hu; subst hu; rfl
  · unfold maxLen; omega
  · omega
  · simp; omega
  · intro v' w' hown' hg _ hat
    refine h v' w' ?_ (grownBy_of_alloc hg) ?_
    · unfold OwI
      rw [List.length_append, List.map_append]
      exact hown'
    · rcases hat with e | e
      · exact .inl e
      · exact .inr (by rw [e]; simp)

theorem Nx.pushed {w0 w w' : World} {v : Value} {xs : List Int} {B : Nat} (hb : Nx w0 w) (hown : OwI w B v xs) (hB : w0.heap.size ≤ B) (hg : w.grownBy w' v.ownBlock) : Nx w0 w' := hb.only hown hg hB

theorem OwI.made0 (w : World) : OwI (w.alloc (.cells #[] 3)) w.heap.size (.slice (some ⟨w.heap.size, 0, none⟩) 0 0) [] :=
  World.ownsRow_made w #[] 0 (Nat.le_refl _) (by unfold maxLen; omega) rfl
/-- the same where the walk spells the heap's size by another name. -/
theorem wpList_pushH {ops : Array Oper} {rest : List Oper} {o : Oper} {a : Act} {Q : Exit → Act → World → Prop} (hgd : o.guard = none) (s x : Operand)
    (ho : o.op = .call { callee := .builtin .append, args := #[s, x], argTypes := #[23, 23] })
    (w : World) (B H : Nat) (hH : w.heap.size = H) (v : Value) (xs : List Int) (n : Int) (hs : a.eval s = v) (hx : a.eval x = .slice (some ⟨H, 0, none⟩) 1 1)
    (hown : OwI w B v xs) (hl : xs.length ≤ 16777216) (hB : B ≤ w.heap.size)
    (h : ∀ v' w', OwI w' B v' (xs ++ [n]) → w.grownBy w' v.ownBlock → (v'.ownBlock = v.ownBlock ∨ v'.ownBlock = some (H + 1)) → wpList Try.prog ops Q rest (a.put o.dst v') w') :
    wpList Try.prog ops Q (o :: rest) a (w.alloc (.cells #[.int .i64 n] 3)) := by
  subst hH
  exact wpList_push hgd s x ho w B v xs n hs hx hown hl hB h

/-- Two slices of the program's own that lie in different blocks. -/
def Apart (a b : Value) : Prop := ∀ g, a.ownBlock = some g → b.ownBlock ≠ some g
theorem Apart.symm {a b : Value} (h : Apart a b) : Apart b a := fun g hb ha => h g ha hb
theorem Apart.none_left (b : Value) : Apart (.slice none 0 0) b := fun g h => by simp [Value.ownBlock] at h
theorem Apart.ne {a b : Value} (h : Apart a b) : a.ownBlock = none ∨ a.ownBlock ≠ b.ownBlock := by
  cases e : a.ownBlock with
  | none => exact .inl rfl
  | some g => exact .inr fun h' => h g e h'.symm

theorem owns_below {w w' : World} {B : Nat} {e : TypeId} {size n : Nat} {v : Value} {xs : List Value} (h : w.ownsRow B e size v n xs) (hb : Nx w w') : w'.ownsRow B e size v n xs := by
  obtain ⟨h1, h2⟩ := h
  refine ⟨h1, ?_⟩
  rcases h2 with h2 | ⟨g, cap, cur, hv, hB, hg, h3⟩
  · exact .inl h2
  · exact .inr ⟨g, cap, cur, hv, hB, (hb.block g (lt_of_block hg)).trans hg, h3⟩

theorem owns_mono {w : World} {B B' : Nat} {e : TypeId} {size n : Nat} {v : Value} {xs : List Value} (h : w.ownsRow B e size v n xs) (hB : B' ≤ B) : w.ownsRow B' e size v n xs := by
  obtain ⟨h1, h2⟩ := h
  refine ⟨h1, ?_⟩
  rcases h2 with h2 | ⟨g, cap, cur, hv, hb, h3⟩
  · exact .inl h2
  · exact .inr ⟨g, cap, cur, hv, by omega, h3⟩
theorem OwI.oneCell {w : World} {B : Nat} {v : Value} {zs : List Int} (h : OwI w B v zs) : v.oneCell' = true := by
  rcases h.form with ⟨rfl, _⟩ | ⟨g, cap, rfl, _⟩ <;> rfl
theorem run_append_nil {P : Program} {w : World} {base n size : Nat} {e : TypeId} {v : Value} {xs : List Value} (t ty : TypeId) (i : TypeInfo) (ht : P.underlying t = some (.slice e)) (hi : P.info? e = some i)
    (hown : w.ownsRow base e size v n xs) (c : Nat) : (Builtin.append_ #[t, t] ty #[v, .slice none 0 c]).run P w = .ok v w := by
  rcases hown.2 with ⟨rfl, rfl⟩ | ⟨g, cap, cur, rfl, _, _, hnc, _⟩
  · simp [Builtin.append_, run_underlying ht, sizeOf, typeInfo, hi, Builtin.lenOf, Builtin.firstCells]
  · simp [Builtin.append_, run_underlying ht, sizeOf, typeInfo, hi, Builtin.lenOf, Builtin.firstCells, hnc, storeCells]
/-- append of all numbers of a slice to a row of the program's own. -/
theorem wpList_joinI {ops : Array Oper} {rest : List Oper} {o : Oper} {a : Act} {Q : Exit → Act → World → Prop} (hgd : o.guard = none) (s x : Operand)
    (ho : o.op = .call { callee := .builtin .append, args := #[s, x], argTypes := #[23, 23] })
    (w : World) (B : Nat) (v : Value) (xs : List Int) (u : Value) (zs : List Int) (hs : a.eval s = v) (hx : a.eval x = u)
    (hown : OwI w B v xs) (hr : RdI w u zs) (hl : xs.length + zs.length ≤ 16777216) (hB : B ≤ w.heap.size)
    (h : ∀ v' w', OwI w' B v' (xs ++ zs) → w.grownBy w' v.ownBlock → (v'.ownBlock = v.ownBlock ∨ v'.ownBlock = some w.heap.size) → wpList Try.prog ops Q rest (a.put o.dst v') w') :
    wpList Try.prog ops Q (o :: rest) a w := by
  obtain ⟨i0, hi, hz0, hz1, hz2⟩ := info_parts intInfo
  obtain ⟨A, c, rfl, hc⟩ := hr
  rcases A with _ | ad
  · have hz : zs = [] := by
      by_cases h0 : 0 < zs.length
      · obtain ⟨b, off, e, _⟩ := hc h0
        cases e
      · exact List.eq_nil_of_length_eq_zero (by omega)
    subst hz
    refine wpList_plain hgd fun K hK => ?_
    have hrun := run_append_nil (P := Try.prog) 23 o.type i0 Try.underlying23 hi hown c
    unfold Oper.wp execOp
    simp only [ho, resolve, invoke, builtin, Sem.run_bind, Sem.run_pure, Result.andThen_ok, List.map_toArray, List.map_cons, List.map_nil, hs, hx, List.length_nil, hrun]
    exact hK _ _ (h v w (by simpa using hown) (World.grownBy.refl w _) (.inl rfl))
  · have hcells : ∀ j u, (zs.map (Value.int .i64))[j]? = some u → w.cell? (ad.add j) = some u := by
      intro j u hu
      by_cases h0 : 0 < zs.length
      · obtain ⟨b, off, e, _, hc'⟩ := hc h0
        cases e
        have hj : j < zs.length := by
          rcases Nat.lt_or_ge j zs.length with h1 | h1
          · exact h1
          · rw [List.getElem?_eq_none (by simpa using h1)] at hu; cases hu
        rw [add_off, hc' j hj, ← gt_map zs j hj, hu]
      · have hz : zs = [] := List.eq_nil_of_length_eq_zero (by omega)
        subst hz
        simp at hu
    refine wpList_append_own_at (P := Try.prog) w hgd s x 23 ho B 3 i0 (.int .i64 0) 1 8 Try.underlying23 hi hz0 hz1 hz2 rfl (by decide) v xs.length (xs.map (Value.int .i64)) hs hown ad zs.length c (zs.map (Value.int .i64)) hx (by simp) hcells ?_ ?_ ?_ hB ?_
    · intro u hu
      obtain ⟨z, _, rfl⟩ := List.mem_map.1 hu
      rfl
    · unfold maxLen; omega
    · omega
    · intro v' w' hown' hg _ hat
      refine h v' w' ?_ hg hat
      unfold OwI
      rw [List.length_append, List.map_append]
      exact hown'

/-- Everything but the blocks from lo on and below hi is as it was. -/
structure Outb (lo hi : Nat) (w w' : World) : Prop where
  os : w'.os = w.os
  tape : w'.tape = w.tape
  output : w'.output = w.output
  size : w.heap.size ≤ w'.heap.size
  block : ∀ b, b < w.heap.size → b < lo ∨ hi ≤ b → w'.heap[b]? = w.heap[b]?
theorem Outb.refl (lo hi : Nat) (w : World) : Outb lo hi w w := ⟨rfl, rfl, rfl, Nat.le_refl _, fun _ _ _ => rfl⟩
theorem Outb.grown {lo hi : Nat} {w w1 w' : World} (h : Outb lo hi w w1) {row : Option Nat} (hg : w1.grownBy w' row) (hr : ∀ g, row = some g → lo ≤ g ∧ g < hi) : Outb lo hi w w' :=
  ⟨hg.os.trans h.os, hg.tape.trans h.tape, hg.output.trans h.output, Nat.le_trans h.size hg.size, fun b hb ho => (hg.block b (Nat.lt_of_lt_of_le hb h.size) (fun e => by have := hr b e.symm; omega)).trans (h.block b hb ho)⟩
theorem Nx.outb {w0 w w' : World} {lo hi : Nat} (h : Nx w0 w) (k : Outb lo hi w w') (hl : w0.heap.size ≤ lo) : Nx w0 w' :=
  ⟨k.os.trans h.os, k.tape.trans h.tape, k.output.trans h.output, Nat.le_trans h.size k.size, fun b hb => (k.block b (Nat.lt_of_lt_of_le hb h.size) (.inl (by omega))).trans (h.block b hb)⟩
theorem owns_block {w w' : World} {B : Nat} {e : TypeId} {size n : Nat} {v : Value} {xs : List Value} (h : w.ownsRow B e size v n xs) (hb : ∀ g, v.ownBlock = some g → w'.heap[g]? = w.heap[g]?) : w'.ownsRow B e size v n xs := by
  obtain ⟨h1, h2⟩ := h
  refine ⟨h1, ?_⟩
  rcases h2 with h2 | ⟨g, cap, cur, hv, hB, hg, h3⟩
  · exact .inl h2
  · exact .inr ⟨g, cap, cur, hv, hB, (hb g (by rw [hv]; rfl)).trans hg, h3⟩
/-- A slice of the program's own in a block from B on and below H. -/
def OwIH (w : World) (B H : Nat) (v : Value) (zs : List Int) : Prop := OwI w B v zs ∧ ∀ g, v.ownBlock = some g → g < H
theorem OwI.toH {w : World} {B : Nat} {v : Value} {zs : List Int} (h : OwI w B v zs) : OwIH w B w.heap.size v zs := ⟨h, fun _ hg => (own_lt h hg).2⟩
theorem OwIH.below {w w' : World} {B H : Nat} {v : Value} {zs : List Int} (h : OwIH w B H v zs) (hb : Nx w w') : OwIH w' B H v zs := ⟨h.1.below hb, h.2⟩
theorem OwIH.outb {w w' : World} {B H lo hi : Nat} {v : Value} {zs : List Int} (h : OwIH w B H v zs) (k : Outb lo hi w w') (ha : H ≤ lo ∨ hi ≤ B) : OwIH w' B H v zs :=
  ⟨owns_block h.1 fun g hg => by
    have h1 := own_lt h.1 hg
    have h2 := h.2 g hg
    exact k.block g h1.2 (by omega), h.2⟩
theorem OwIH.grownBy {w w' : World} {B H : Nat} {v : Value} {zs ys : List Int} (h : OwIH w B H v zs) (h' : OwI w' B v ys) (hg : w.grownBy w' v.ownBlock) : OwIH w' B H v ys ∧ Outb B H w w' :=
  ⟨⟨h', h.2⟩, (Outb.refl _ _ _).grown hg fun g hg => ⟨(own_lt h.1 hg).1, h.2 g hg⟩⟩
theorem OwIH.reads {w : World} {B H : Nat} {v : Value} {zs : List Int} (h : OwIH w B H v zs) : RdI w v zs := h.1.reads

set_option maxHeartbeats 1000000 in
theorem copyOf_any (v : Value) (zs : List Int) (w : World) (h : RdI w v zs) (hl : zs.length ≤ 1048576) :
    Calls Try.prog 54 #[v] w fun e w' => ∃ u, e = .returned u ∧ OwI w' w.heap.size u zs ∧ Nx w w' := by
  have hv := h
  obtain ⟨A, c, rfl, hx⟩ := h
  clear hx
  have ho := OwI.made0 w
  have hb := Nx.made w (.cells #[] 3)
  have hv1 := hv.below hb
  go_enter Try.func54, Try.ntmps54
  go_wp2_with (at_builtin; refine wpList_joinI rfl (.tmp 3) (.tmp 4) rfl _ w.heap.size _ [] _ zs rfl rfl ho hv1 (by simp; omega) (by simp) ?_; intro v1 w1 hown1 hg1 hat1; have hb1 := hb.only ho hg1 (Nat.le_refl _))
  go_ret
  exact ⟨_, rfl, hown1, hb1⟩

end Go.Proofs.Ytfilpeamhcdgfaa
