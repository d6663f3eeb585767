/- put, isStrict, indexOf. -/
import Derived.Test.YtfilpeamhcdgfaaHlp
import Derived.WalkKit
import Derived.ProofKit
import Derived.Handy
import Derived.OpenShut
import Derived.ShutString
import Derived.ChangeOld
import Derived.Below
import Derived.BigQuiet
import Derived.Deep.QuietTactic
import Derived.Deep.Draws
import Derived.Deep.DeepCutAuto
import Derived.Deep.DeepFit
import Derived.Deep.LoopGhost
import Derived.Outline
import Derived.WalkSpells
import Derived.WalkLawsBesides
import Derived.WalkSmall
import Derived.Laws.OwnMore
import Derived.OneCell
import Derived.Laws.Rows
import Derived.Maps.AppendAt
import Derived.StillTailTactics
import Derived.Lib.SmallJoins
import Derived.Deep.RegionWith
import Derived.Deep.RegionHeld3
import Derived.RegionTactic
import Derived.Deep.Matrix
import Derived.Deep.Fields
import Derived.ChangeSame
namespace Go.Proofs.Ytfilpeamhcdgfaa
open Go.RowKit

/-- a number put into an ascending list. -/
def putL : List Int → Int → List Int
  | [], n => [n]
  | x :: xs, n => if n ≤ x then n :: x :: xs else x :: putL xs n
theorem putL_length (zs : List Int) (n : Int) : (putL zs n).length = zs.length + 1 := by
  induction zs with
  | nil => rfl
  | cons x xs ih => unfold putL; split <;> simp [ih]
/-- before the place is found. -/
theorem putL_before {zs : List Int} {n : Int} (h : ∀ k, k < zs.length → gt zs k < n) : putL zs n = zs ++ [n] := by
  induction zs with
  | nil => rfl
  | cons x xs ih =>
    have h0 := h 0 (by simp)
    have hx : gt (x :: xs) 0 = x := rfl
    unfold putL
    rw [if_neg (by omega), ih (fun k hk => by have := h (k + 1) (by simp; omega); simpa [gt] using this)]
    rfl
theorem putL_append {xs ys : List Int} {n : Int} (h : ∀ k, k < xs.length → gt xs k < n) : putL (xs ++ ys) n = xs ++ putL ys n := by
  induction xs with
  | nil => rfl
  | cons x xs ih =>
    have h0 := h 0 (by simp)
    have hx : gt (x :: xs) 0 = x := rfl
    rw [List.cons_append, putL, if_neg (by omega), ih (fun k hk => by have := h (k + 1) (by simp; omega); simpa [gt] using this)]
    rfl
theorem gt_take {zs : List Int} {j k : Nat} (h : j < k) : gt (zs.take k) j = gt zs j := by unfold gt; simp [h]
theorem drop_gt {zs : List Int} {k : Nat} (h : k < zs.length) : zs.drop k = gt zs k :: zs.drop (k + 1) := by rw [gt_getElem h]; exact List.drop_eq_getElem_cons h
theorem putL_at {zs : List Int} {n : Int} {k : Nat} (hk : k < zs.length) (h : ∀ j, j < k → gt zs j < n) (hn : n ≤ gt zs k) : putL zs n = zs.take k ++ n :: zs.drop k := by
  have e : zs = zs.take k ++ zs.drop k := (List.take_append_drop k zs).symm
  have hp : putL (zs.take k ++ zs.drop k) n = zs.take k ++ putL (zs.drop k) n := putL_append fun j hj => by
    rw [List.length_take] at hj; rw [gt_take (by omega)]; exact h j (by omega)
  rw [List.take_append_drop] at hp
  rw [hp, drop_gt hk, putL, if_pos hn]
/-- what 'put' has laid out after k rounds: nothing put yet, or put at place m. -/
def putTo (zs : List Int) (n : Int) (k : Nat) : Option Nat → List Int
  | none => zs.take k
  | some m => zs.take m ++ n :: (zs.take k).drop m
theorem putTo_length_le (zs : List Int) (n : Int) (k : Nat) (o : Option Nat) (hk : k ≤ zs.length) : (putTo zs n k o).length ≤ 2 * zs.length + 2 := by
  cases o with
  | none => simp [putTo]; omega
  | some m => simp [putTo]; omega
theorem putTo_none_step {zs : List Int} {n : Int} {k : Nat} (hk : k < zs.length) : putTo zs n k none ++ [gt zs k] = putTo zs n (k + 1) none := (take_gt hk).symm
theorem putTo_some_step {zs : List Int} {n : Int} {k m : Nat} (hk : k < zs.length) (hm : m ≤ k) : putTo zs n k (some m) ++ [gt zs k] = putTo zs n (k + 1) (some m) := by
  simp only [putTo]
  rw [take_gt hk, List.drop_append_of_le_length (by simp; omega)]
  simp
theorem putTo_put_step {zs : List Int} {n : Int} {k : Nat} (hk : k < zs.length) : (putTo zs n k none ++ [n]) ++ [gt zs k] = putTo zs n (k + 1) (some k) := by
  simp only [putTo]
  have hl : (zs.take k).length = k := by simp; omega
  rw [take_gt hk, List.drop_append_of_le_length (by omega), List.drop_of_length_le (by omega)]
  simp
theorem putTo_end_none {zs : List Int} {n : Int} (h : ∀ j, j < zs.length → gt zs j < n) : putTo zs n zs.length none ++ [n] = putL zs n := by
  rw [putL_before h]; simp [putTo]
theorem putTo_end_some {zs : List Int} {n : Int} {m : Nat} (hm : m < zs.length) (h : ∀ j, j < m → gt zs j < n) (hn : n ≤ gt zs m) : putTo zs n zs.length (some m) = putL zs n := by
  rw [putL_at hm h hn]; simp [putTo]
/-- where 'put' stands. -/
def putAt (zs : List Int) (n : Int) (k : Nat) : Option Nat → Prop
  | none => ∀ j, j < k → gt zs j < n
  | some m => m < k ∧ (∀ j, j < m → gt zs j < n) ∧ n ≤ gt zs m

set_option maxHeartbeats 1000000 in
theorem put_any (v : Value) (zs : List Int) (n : Int) (w : World) (h : RdI w v zs) (hl : zs.length ≤ 1048576) :
    Calls Try.prog 44 #[v, .int .i64 n] w fun e w' => ∃ u, e = .returned u ∧ OwI w' w.heap.size u (putL zs n) ∧ Nx w w' := by
  obtain ⟨A, c, rfl, hx⟩ := h
  go_enter Try.func44, Try.ntmps44
  go_wp2_with fail
  go_loopw [5, 6, 12] (fun u d i wr => ∃ (k : Nat) (o : Option Nat), k ≤ zs.length ∧ i = .int .i64 k ∧ d = .bool o.isSome ∧ Hid (putAt zs n k o) ∧ OwI wr w.heap.size u (putTo zs n k o) ∧ Nx w wr) (fun _ _ i _ => zs.length - (intOf i).toNat)
  case atStart => exact ⟨0, none, Nat.zero_le _, rfl, rfl, fun j hj => absurd hj (by omega), OwI.made0 w, Nx.made w _⟩
  case round =>
    obtain ⟨k, o, hk, rfl, rfl, hat, hown, hb⟩ := hrel
    have hlen := putTo_length_le zs n k o hk
    have hsz := hb.size
    by_cases hlt : k < zs.length
    · obtain ⟨b0, off, rfl, hb0, hc⟩ := hx (by omega)
      have hck : wr.cell? ⟨b0, off + k, none⟩ = some (.int .i64 (gt zs k)) := (hb.cell (p := ⟨b0, off + k, none⟩) hb0).trans (hc k hlt)
      clear hc hx
      cases o with
      | none =>
        by_cases hn : n ≤ gt zs k
        · go_wp2_with (first
            | (at_builtin; refine wpList_push rfl (.tmp 23) (.tmp 25) rfl wr w.heap.size _ (putTo zs n k none) n rfl rfl hown (by omega) hsz ?_; intro v1 w1 hown1 hg1 _; have hb1 := hb.pushed hown (Nat.le_refl _) hg1; have hsz1 := hb1.size)
            | (at_builtin; refine wpList_push rfl (.tmp 27) (.tmp 29) rfl w1 w.heap.size _ (putTo zs n k none ++ [n]) (gt zs k) rfl rfl hown1 (by rw [List.length_append]; simp; omega) hsz1 ?_; intro v2 w2 hown2 hg2 _; have hb2 := hb1.pushed hown1 (Nat.le_refl _) hg2))
          go_roundw
          case rel => exact ⟨k + 1, some k, by omega, by go_num, rfl, ⟨by omega, hat.out, hn⟩, by rw [← putTo_put_step hlt]; exact hown2, hb2⟩
          case measure => simp [intOf]; omega
        · go_wp2_with (at_builtin; refine wpList_push rfl (.tmp 27) (.tmp 29) rfl wr w.heap.size _ (putTo zs n k none) (gt zs k) rfl rfl hown (by omega) hsz ?_; intro v1 w1 hown1 hg1 _; have hb1 := hb.pushed hown (Nat.le_refl _) hg1)
          go_roundw
          case rel => exact ⟨k + 1, none, by omega, by go_num, rfl, fun j hj => by
            rcases Nat.lt_or_ge j k with h | h
            · exact hat.out j h
            · obtain rfl : j = k := by omega
              omega, by rw [← putTo_none_step hlt]; exact hown1, hb1⟩
          case measure => simp [intOf]; omega
      | some m =>
        have hm := hat.out.1
        go_wp2_with (at_builtin; refine wpList_push rfl (.tmp 27) (.tmp 29) rfl wr w.heap.size _ (putTo zs n k (some m)) (gt zs k) rfl rfl hown (by omega) hsz ?_; intro v1 w1 hown1 hg1 _; have hb1 := hb.pushed hown (Nat.le_refl _) hg1)
        go_roundw
        case rel => exact ⟨k + 1, some m, by omega, by go_num, rfl, ⟨by omega, hat.out.2⟩, by rw [← putTo_some_step hlt (by omega)]; exact hown1, hb1⟩
        case measure => simp [intOf]; omega
    · obtain rfl : k = zs.length := by omega
      clear hx
      cases o with
      | none =>
        go_wp2_with (at_builtin; refine wpList_push rfl (.tmp 34) (.tmp 36) rfl wr w.heap.size _ (putTo zs n zs.length none) n rfl rfl hown (by omega) hsz ?_; intro v1 w1 hown1 hg1 _; have hb1 := hb.pushed hown (Nat.le_refl _) hg1)
        go_ret
        exact ⟨_, rfl, by rw [← putTo_end_none hat.out]; exact hown1, hb1⟩
      | some m =>
        go_wp2_with fail
        go_ret
        exact ⟨_, rfl, by rw [← putTo_end_some hat.out.1 hat.out.2.1 hat.out.2.2]; exact hown, hb⟩

/-- the numbers rise strictly and lie from a to b. -/
def strictL (a b : Int) (zs : List Int) : Bool := ((List.range zs.length).all fun k => decide (k = 0) || decide (gt zs (k - 1) < gt zs k)) && allW a b zs
theorem strictL_false1 {a b : Int} {zs : List Int} {k : Nat} (hk : k < zs.length) (h0 : 0 < k) (h : gt zs k ≤ gt zs (k - 1)) : strictL a b zs = false := by
  rw [Bool.eq_false_iff]
  intro ht
  simp only [strictL, Bool.and_eq_true, List.all_eq_true, List.mem_range, Bool.or_eq_true, decide_eq_true_eq] at ht
  have := ht.1 k hk
  omega
theorem strictL_of {a b : Int} {zs : List Int} (h : ∀ k, k < zs.length → 0 < k → gt zs (k - 1) < gt zs k) : strictL a b zs = allW a b zs := by
  have : ((List.range zs.length).all fun k => decide (k = 0) || decide (gt zs (k - 1) < gt zs k)) = true := by
    simp only [List.all_eq_true, List.mem_range, Bool.or_eq_true, decide_eq_true_eq]
    intro k hk
    by_cases h0 : k = 0
    · exact .inl h0
    · exact .inr (h k hk (by omega))
  simp [strictL, this]
set_option maxHeartbeats 2000000 in
theorem isStrict_any (v : Value) (zs : List Int) (a b : Int) (w : World) (h : RdI w v zs) (hl : zs.length ≤ 1048576) :
    Calls Try.prog 55 #[v, .int .i64 a, .int .i64 b] w fun e w' => e = .returned (.bool (strictL a b zs)) ∧ ∃ m, w' = w.drewN m := by
  have hv := hide h
  obtain ⟨A, c, rfl, hx⟩ := h
  go_enter Try.func55, Try.ntmps55
  go_wp2_with fail
  go_loopw [10] (fun i wr => ∃ k m : Nat, k ≤ zs.length ∧ i = .int .i64 k ∧ wr = w.drewN m ∧ Hid (∀ j, j < k → 0 < j → gt zs (j - 1) < gt zs j)) (fun i _ => zs.length - (intOf i).toNat)
  case atStart => exact ⟨0, 0, Nat.zero_le _, rfl, rfl, fun j hj => absurd hj (by omega)⟩
  case round =>
    obtain ⟨k, m, hk, rfl, rfl, hall⟩ := hrel
    by_cases hlt : k < zs.length
    · obtain ⟨b0, off, rfl, hb0, hc⟩ := hx (by omega)
      have hkb : (k : Int) < (zs.length : Int) := by omega
      by_cases h0 : 0 < k
      · have hck := hc k hlt
        have hcj := hc (k - 1) (by omega)
        clear hc hx
        have gk : decide ((0 : Int) < (k : Int)) = true := decide_eq_true (by omega)
        have hwr := IntWalk.i64_in ((k : Int) - 1) (by omega)
        have hto : ((k : Int) - 1).toNat = k - 1 := by omega
        have hkc : (k : Int) - 1 < (zs.length : Int) := by omega
        by_cases hs : gt zs k ≤ gt zs (k - 1)
        · have hf := hide (strictL_false1 (a := a) (b := b) hlt h0 hs)
          generalize gt zs k = x at *
          generalize gt zs (k - 1) = y at *
          go_wp2_with fail
          go_quiet (fail)
          go_wp2
          go_ret
          exact ⟨ret_bool hf.out.symm, _, World.drewN_drewN _ _ _⟩
        · have R : Hid (∀ j, j < k + 1 → 0 < j → gt zs (j - 1) < gt zs j) := fun j hj hj0 => by
            rcases Nat.lt_or_ge j k with h | h
            · exact hall.out j h hj0
            · obtain rfl : j = k := by omega
              omega
          generalize gt zs k = x at *
          generalize gt zs (k - 1) = y at *
          go_wp2_with fail
          go_quiet (fail)
          go_wp2
          go_roundw
          case rel => exact ⟨k + 1, _, by omega, by go_num, rfl, R⟩
          case measure => simp [intOf]; omega
      · have R : Hid (∀ j, j < k + 1 → 0 < j → gt zs (j - 1) < gt zs j) := fun j hj hj0 => by omega
        have gk : decide ((0 : Int) < (k : Int)) = false := decide_eq_false (by omega)
        clear hc hx
        go_wp2_with fail
        go_quiet (fail)
        go_wp2
        go_roundw
        case rel => exact ⟨k + 1, _, by omega, by go_num, rfl, R⟩
        case measure => simp [intOf]; omega
    · obtain rfl : k = zs.length := by omega
      have hf := hide (strictL_of (a := a) (b := b) hall.out)
      clear hx
      go_wp2_with (go_at_call 59; refine (allWithin_any _ _ _ _ _ (hv.out.below (Nx.drewN (Below.refl _ _) _)) hl).mono ?_; rintro e w' ⟨rfl, rfl⟩)
      go_ret
      exact ⟨ret_bool hf.out.symm, _, rfl⟩

theorem mem_gt {zs : List Int} {x : Int} : x ∈ zs ↔ ∃ k, k < zs.length ∧ gt zs k = x := by
  constructor
  · intro h
    obtain ⟨k, hk, e⟩ := List.getElem_of_mem h
    exact ⟨k, hk, by rw [gt_getElem hk, e]⟩
  · rintro ⟨k, hk, rfl⟩
    exact gt_mem hk
/-- the first place of a number, -1 if there is none. -/
def idxL (zs : List Int) (n : Int) : Int := match (List.range zs.length).find? fun k => decide (gt zs k = n) with
  | some k => (k : Int)
  | none => -1
theorem idxL_at {zs : List Int} {n : Int} {k : Nat} (hk : k < zs.length) (h : gt zs k = n) (h2 : ∀ j, j < k → gt zs j ≠ n) : idxL zs n = k := by
  have : (List.range zs.length).find? (fun k => decide (gt zs k = n)) = some k := List.find?_range_eq_some.2 ⟨by simpa using h, by simpa using hk, fun j hj => by simpa using h2 j hj⟩
  unfold idxL
  rw [this]
theorem idxL_none {zs : List Int} {n : Int} (h2 : ∀ j, j < zs.length → gt zs j ≠ n) : idxL zs n = -1 := by
  have : (List.range zs.length).find? (fun k => decide (gt zs k = n)) = none := List.find?_range_eq_none.2 fun j hj => by simpa using h2 j hj
  unfold idxL
  rw [this]
theorem idxL_neg {zs : List Int} {n : Int} : idxL zs n < 0 ↔ ¬ n ∈ zs := by
  constructor
  · intro h hm
    obtain ⟨k, hk, e⟩ := mem_gt.1 hm
    unfold idxL at h
    cases hf : (List.range zs.length).find? (fun k => decide (gt zs k = n)) with
    | none =>
      have := List.find?_range_eq_none.1 hf k hk
      simp [e] at this
    | some j => rw [hf] at h; simp at h; omega
  · intro h
    rw [idxL_none fun j hj e => h (mem_gt.2 ⟨j, hj, e⟩)]
    omega
set_option maxHeartbeats 1000000 in
theorem indexOf_any (v : Value) (zs : List Int) (n : Int) (w : World) (h : RdI w v zs) (hl : zs.length ≤ 1048576) :
    Calls Try.prog 43 #[v, .int .i64 n] w fun e w' => e = .returned (.int .i64 (idxL zs n)) ∧ w = w' := by
  obtain ⟨A, c, rfl, hx⟩ := h
  go_enter Try.func43, Try.ntmps43
  go_wp2_with fail
  go_loop [9] (fun i => ∃ k : Nat, k ≤ zs.length ∧ i = .int .i64 k ∧ Hid (∀ j, j < k → gt zs j ≠ n)) (fun i => zs.length - (intOf i).toNat)
  case atStart => exact ⟨0, Nat.zero_le _, rfl, fun j hj => absurd hj (by omega)⟩
  case round =>
    obtain ⟨k, hk, rfl, hall⟩ := hrel
    by_cases hlt : k < zs.length
    · obtain ⟨b0, off, rfl, hb0, hc⟩ := hx (by omega)
      have hck := hc k hlt
      clear hc hx
      by_cases e : gt zs k = n
      · have hf := hide (idxL_at hlt e hall.out)
        have e1 : (gt zs k == n) = true := by simpa using e
        clear e
        go_wp2_with fail
        go_ret
        exact ⟨ret_int hf.out.symm, rfl⟩
      · have e1 : (gt zs k == n) = false := by simpa using e
        go_wp2_with fail
        go_round
        case rel => exact ⟨k + 1, by omega, by go_num, fun j hj => by
          rcases Nat.lt_or_ge j k with h | h
          · exact hall.out j h
          · obtain rfl : j = k := by omega
            exact e⟩
        case measure => simp [intOf]; omega
    · obtain rfl : k = zs.length := by omega
      have hf := hide (idxL_none hall.out)
      clear hx
      go_wp2_with fail
      go_ret
      exact ⟨ret_int hf.out.symm, rfl⟩

end Go.Proofs.Ytfilpeamhcdgfaa
