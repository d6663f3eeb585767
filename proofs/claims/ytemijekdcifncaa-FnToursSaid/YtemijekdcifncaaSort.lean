/- put and sorted. -/
import Derived.Test.YtemijekdcifncaaMap
import Derived.WalkKit
import Derived.ProofKit
import Derived.Handy
import Derived.OpenShut
import Derived.ShutString
import Derived.ChangeOld
import Derived.Below
import Derived.BigQuiet
import Derived.Deep.QuietTactic
import Derived.Deep.Draws
import Derived.Deep.DeepCutAuto
import Derived.Deep.DeepFit
import Derived.Deep.LoopGhost
import Derived.Outline
import Derived.WalkSpells
import Derived.WalkLawsBesides
import Derived.WalkSmall
import Derived.Laws.OwnMore
import Derived.OneCell
import Derived.Laws.Rows
import Derived.Maps.AppendAt
import Derived.StillTailTactics
import Derived.Lib.SmallJoins
import Derived.Deep.RegionWith
import Derived.Deep.RegionHeld3
import Derived.RegionTactic
import Derived.Deep.Matrix
import Derived.Deep.Fields
import Derived.ChangeSame
namespace Go.Proofs.Ytemijekdcifncaa
open Go.RowKit

/-- a number put into an ascending list. -/
def putL : List Int → Int → List Int
  | [], n => [n]
  | x :: xs, n => if n ≤ x then n :: x :: xs else x :: putL xs n
theorem putL_length (zs : List Int) (n : Int) : (putL zs n).length = zs.length + 1 := by
  induction zs with
  | nil => rfl
  | cons x xs ih => unfold putL; split <;> simp [ih]
/-- before the place is found. -/
theorem putL_before {zs : List Int} {n : Int} (h : ∀ k, k < zs.length → gt zs k < n) : putL zs n = zs ++ [n] := by
  induction zs with
  | nil => rfl
  | cons x xs ih =>
    have h0 := h 0 (by simp)
    have hx : gt (x :: xs) 0 = x := rfl
    unfold putL
    rw [if_neg (by omega), ih (fun k hk => by have := h (k + 1) (by simp; omega); simpa [gt] using this)]
    rfl
theorem putL_append {xs ys : List Int} {n : Int} (h : ∀ k, k < xs.length → gt xs k < n) : putL (xs ++ ys) n = xs ++ putL ys n := by
  induction xs with
  | nil => rfl
  | cons x xs ih =>
    have h0 := h 0 (by simp)
    have hx : gt (x :: xs) 0 = x := rfl
    rw [List.cons_append, putL, if_neg (by omega), ih (fun k hk => by have := h (k + 1) (by simp; omega); simpa [gt] using this)]
    rfl
theorem gt_take {zs : List Int} {j k : Nat} (h : j < k) : gt (zs.take k) j = gt zs j := by unfold gt; simp [h]
theorem drop_gt {zs : List Int} {k : Nat} (h : k < zs.length) : zs.drop k = gt zs k :: zs.drop (k + 1) := by rw [gt_getElem h]; exact List.drop_eq_getElem_cons h
theorem putL_at {zs : List Int} {n : Int} {k : Nat} (hk : k < zs.length) (h : ∀ j, j < k → gt zs j < n) (hn : n ≤ gt zs k) : putL zs n = zs.take k ++ n :: zs.drop k := by
  have e : zs = zs.take k ++ zs.drop k := (List.take_append_drop k zs).symm
  have hp : putL (zs.take k ++ zs.drop k) n = zs.take k ++ putL (zs.drop k) n := putL_append fun j hj => by
    rw [List.length_take] at hj; rw [gt_take (by omega)]; exact h j (by omega)
  rw [List.take_append_drop] at hp
  rw [hp, drop_gt hk, putL, if_pos hn]
/-- what 'put' has laid out after k rounds: nothing put yet, or put at place m. -/
def putTo (zs : List Int) (n : Int) (k : Nat) : Option Nat → List Int
  | none => zs.take k
  | some m => zs.take m ++ n :: (zs.take k).drop m
theorem putTo_length_le (zs : List Int) (n : Int) (k : Nat) (o : Option Nat) (hk : k ≤ zs.length) : (putTo zs n k o).length ≤ 2 * zs.length + 2 := by
  cases o with
  | none => simp [putTo]; omega
  | some m => simp [putTo]; omega
theorem putTo_none_step {zs : List Int} {n : Int} {k : Nat} (hk : k < zs.length) : putTo zs n k none ++ [gt zs k] = putTo zs n (k + 1) none := (take_gt hk).symm
theorem putTo_some_step {zs : List Int} {n : Int} {k m : Nat} (hk : k < zs.length) (hm : m ≤ k) : putTo zs n k (some m) ++ [gt zs k] = putTo zs n (k + 1) (some m) := by
  simp only [putTo]
  rw [take_gt hk, List.drop_append_of_le_length (by simp; omega)]
  simp
theorem putTo_put_step {zs : List Int} {n : Int} {k : Nat} (hk : k < zs.length) : (putTo zs n k none ++ [n]) ++ [gt zs k] = putTo zs n (k + 1) (some k) := by
  simp only [putTo]
  have hl : (zs.take k).length = k := by simp; omega
  rw [take_gt hk, List.drop_append_of_le_length (by omega), List.drop_of_length_le (by omega)]
  simp
theorem putTo_end_none {zs : List Int} {n : Int} (h : ∀ j, j < zs.length → gt zs j < n) : putTo zs n zs.length none ++ [n] = putL zs n := by
  rw [putL_before h]; simp [putTo]
theorem putTo_end_some {zs : List Int} {n : Int} {m : Nat} (hm : m < zs.length) (h : ∀ j, j < m → gt zs j < n) (hn : n ≤ gt zs m) : putTo zs n zs.length (some m) = putL zs n := by
  rw [putL_at hm h hn]; simp [putTo]
/-- where 'put' stands. -/
def putAt (zs : List Int) (n : Int) (k : Nat) : Option Nat → Prop
  | none => ∀ j, j < k → gt zs j < n
  | some m => m < k ∧ (∀ j, j < m → gt zs j < n) ∧ n ≤ gt zs m

set_option maxHeartbeats 1000000 in
theorem put_any (v : Value) (zs : List Int) (n : Int) (w : World) (h : RdI w v zs) (hl : zs.length ≤ 1048576) :
    Calls Try.prog 46 #[v, .int .i64 n] w fun e w' => ∃ u, e = .returned u ∧ OwI w' w.heap.size u (putL zs n) ∧ Nx w w' := by
  obtain ⟨A, c, rfl, hx⟩ := h
  go_enter Try.func46, Try.ntmps46
  go_wp2_with fail
  go_loopw [5, 6, 12] (fun u d i wr => ∃ (k : Nat) (o : Option Nat), k ≤ zs.length ∧ i = .int .i64 k ∧ d = .bool o.isSome ∧ Hid (putAt zs n k o) ∧ OwI wr w.heap.size u (putTo zs n k o) ∧ Nx w wr) (fun _ _ i _ => zs.length - (intOf i).toNat)
  case atStart => exact ⟨0, none, Nat.zero_le _, rfl, rfl, fun j hj => absurd hj (by omega), OwI.made0 w, Nx.made w _⟩
  case round =>
    obtain ⟨k, o, hk, rfl, rfl, hat, hown, hb⟩ := hrel
    have hlen := putTo_length_le zs n k o hk
    have hsz := hb.size
    by_cases hlt : k < zs.length
    · obtain ⟨b0, off, rfl, hb0, hc⟩ := hx (by omega)
      have hck : wr.cell? ⟨b0, off + k, none⟩ = some (.int .i64 (gt zs k)) := (hb.cell (p := ⟨b0, off + k, none⟩) hb0).trans (hc k hlt)
      clear hc hx
      cases o with
      | none =>
        by_cases hn : n ≤ gt zs k
        · go_wp2_with (first
            | (at_builtin; refine wpList_push rfl (.tmp 23) (.tmp 25) rfl wr w.heap.size _ (putTo zs n k none) n rfl rfl hown (by omega) hsz ?_; intro v1 w1 hown1 hg1 _; have hb1 := hb.pushed hown (Nat.le_refl _) hg1; have hsz1 := hb1.size)
            | (at_builtin; refine wpList_push rfl (.tmp 27) (.tmp 29) rfl w1 w.heap.size _ (putTo zs n k none ++ [n]) (gt zs k) rfl rfl hown1 (by rw [List.length_append]; simp; omega) hsz1 ?_; intro v2 w2 hown2 hg2 _; have hb2 := hb1.pushed hown1 (Nat.le_refl _) hg2))
          go_roundw
          case rel => exact ⟨k + 1, some k, by omega, by go_num, rfl, ⟨by omega, hat.out, hn⟩, by rw [← putTo_put_step hlt]; exact hown2, hb2⟩
          case measure => simp [intOf]; omega
        · go_wp2_with (at_builtin; refine wpList_push rfl (.tmp 27) (.tmp 29) rfl wr w.heap.size _ (putTo zs n k none) (gt zs k) rfl rfl hown (by omega) hsz ?_; intro v1 w1 hown1 hg1 _; have hb1 := hb.pushed hown (Nat.le_refl _) hg1)
          go_roundw
          case rel => exact ⟨k + 1, none, by omega, by go_num, rfl, fun j hj => by
            rcases Nat.lt_or_ge j k with h | h
            · exact hat.out j h
            · obtain rfl : j = k := by omega
              omega, by rw [← putTo_none_step hlt]; exact hown1, hb1⟩
          case measure => simp [intOf]; omega
      | some m =>
        have hm := hat.out.1
        go_wp2_with (at_builtin; refine wpList_push rfl (.tmp 27) (.tmp 29) rfl wr w.heap.size _ (putTo zs n k (some m)) (gt zs k) rfl rfl hown (by omega) hsz ?_; intro v1 w1 hown1 hg1 _; have hb1 := hb.pushed hown (Nat.le_refl _) hg1)
        go_roundw
        case rel => exact ⟨k + 1, some m, by omega, by go_num, rfl, ⟨by omega, hat.out.2⟩, by rw [← putTo_some_step hlt (by omega)]; exact hown1, hb1⟩
        case measure => simp [intOf]; omega
    · obtain rfl : k = zs.length := by omega
      clear hx
      cases o with
      | none =>
        go_wp2_with (at_builtin; refine wpList_push rfl (.tmp 34) (.tmp 36) rfl wr w.heap.size _ (putTo zs n zs.length none) n rfl rfl hown (by omega) hsz ?_; intro v1 w1 hown1 hg1 _; have hb1 := hb.pushed hown (Nat.le_refl _) hg1)
        go_ret
        exact ⟨_, rfl, by rw [← putTo_end_none hat.out]; exact hown1, hb1⟩
      | some m =>
        go_wp2_with fail
        go_ret
        exact ⟨_, rfl, by rw [← putTo_end_some hat.out.1 hat.out.2.1 hat.out.2.2]; exact hown, hb⟩

/-- numbers in ascending order. -/
def sortL (zs : List Int) : List Int := zs.foldl putL []
theorem sortL_snoc (zs : List Int) (x : Int) : sortL (zs ++ [x]) = putL (sortL zs) x := by simp [sortL]
theorem sortL_length (zs : List Int) : (sortL zs).length = zs.length := by
  have : ∀ (l acc : List Int), (l.foldl putL acc).length = acc.length + l.length := by
    intro l
    induction l with
    | nil => intro acc; simp
    | cons x xs ih => intro acc; rw [List.foldl_cons, ih, putL_length, List.length_cons]; omega
  simpa [sortL] using this zs []

set_option maxHeartbeats 1000000 in
theorem sorted_any (v : Value) (zs : List Int) (w : World) (h : RdI w v zs) (hl : zs.length ≤ 1048576) :
    Calls Try.prog 40 #[v] w fun e w' => ∃ u, e = .returned u ∧ OwI w' w.heap.size u (sortL zs) ∧ Nx w w' := by
  obtain ⟨A, c, rfl, hx⟩ := h
  go_enter Try.func40, Try.ntmps40
  go_wp2_with fail
  go_loopw [3, 9] (fun u i wr => ∃ k : Nat, k ≤ zs.length ∧ i = .int .i64 k ∧ OwI wr w.heap.size u (sortL (zs.take k)) ∧ Nx w wr) (fun _ i _ => zs.length - (intOf i).toNat)
  case atStart => exact ⟨0, Nat.zero_le _, rfl, OwI.made0 w, Nx.made w _⟩
  case round =>
    obtain ⟨k, hk, rfl, hown, hb⟩ := hrel
    have hlen : (sortL (zs.take k)).length ≤ 1048576 := by rw [sortL_length, List.length_take]; omega
    have hsz := hb.size
    by_cases hlt : k < zs.length
    · obtain ⟨b0, off, rfl, hb0, hc⟩ := hx (by omega)
      have hck : wr.cell? ⟨b0, off + k, none⟩ = some (.int .i64 (gt zs k)) := (hb.cell (p := ⟨b0, off + k, none⟩) hb0).trans (hc k hlt)
      have hstep := hide (sortL_snoc (zs.take k) (gt zs k))
      rw [← take_gt hlt] at hstep
      clear hc hx
      go_wp2_with (go_at_call 46; refine (put_any _ _ _ _ hown.reads hlen).mono ?_; rintro e w1 ⟨v1, rfl, hown1, hb1⟩)
      go_roundw
      case rel => exact ⟨k + 1, by omega, by go_num, by rw [hstep.out]; exact hown1.mono hsz, hb.trans hb1⟩
      case measure => simp [intOf]; omega
    · obtain rfl : k = zs.length := by omega
      clear hx
      go_wp2_with fail
      go_ret
      exact ⟨_, rfl, by have := hown; rw [List.take_length] at this; exact this, hb⟩

theorem putL_perm (zs : List Int) (n : Int) : (putL zs n).Perm (n :: zs) := by
  induction zs with
  | nil => exact List.Perm.refl _
  | cons x xs ih =>
    unfold putL
    split
    · exact List.Perm.refl _
    · exact (List.Perm.cons x ih).trans (List.Perm.swap n x xs)
theorem putL_asc {zs : List Int} (h : zs.Pairwise (· ≤ ·)) (n : Int) : (putL zs n).Pairwise (· ≤ ·) := by
  induction zs with
  | nil => simp [putL]
  | cons x xs ih =>
    rw [List.pairwise_cons] at h
    unfold putL
    split
    · rename_i hn
      rw [List.pairwise_cons]
      refine ⟨fun y hy => ?_, List.pairwise_cons.2 h⟩
      rcases List.mem_cons.1 hy with rfl | hy
      · exact hn
      · have := h.1 y hy; omega
    · rename_i hn
      rw [List.pairwise_cons]
      refine ⟨fun y hy => ?_, ih h.2⟩
      rcases List.mem_cons.1 ((putL_perm xs n).mem_iff.1 hy) with rfl | hy
      · omega
      · exact h.1 y hy
theorem sortL_perm (zs : List Int) : (sortL zs).Perm zs := by
  have : ∀ (l acc : List Int), (l.foldl putL acc).Perm (acc ++ l) := by
    intro l
    induction l with
    | nil => intro acc; simp
    | cons x xs ih =>
      intro acc
      rw [List.foldl_cons]
      refine (ih (putL acc x)).trans ?_
      refine ((putL_perm acc x).append_right xs).trans ?_
      simpa using (List.perm_middle (a := x) (l₁ := acc) (l₂ := xs)).symm
  simpa [sortL] using this zs []
theorem sortL_asc (zs : List Int) : (sortL zs).Pairwise (· ≤ ·) := by
  have : ∀ (l acc : List Int), acc.Pairwise (· ≤ ·) → (l.foldl putL acc).Pairwise (· ≤ ·) := by
    intro l
    induction l with
    | nil => intro acc h; exact h
    | cons x xs ih => intro acc h; exact ih _ (putL_asc h x)
  exact this zs [] List.Pairwise.nil
theorem asc_gt {zs : List Int} (h : zs.Pairwise (· ≤ ·)) {i j : Nat} (hij : i ≤ j) (hj : j < zs.length) : gt zs i ≤ gt zs j := by
  rw [gt_getElem (by omega), gt_getElem hj]
  rcases Nat.lt_or_ge i j with h1 | h1
  · exact List.pairwise_iff_getElem.1 h i j (by omega) hj h1
  · obtain rfl : i = j := by omega
    exact Int.le_refl _
theorem perm_bd {a b : Int} {zs ys : List Int} (hp : ys.Perm zs) (h : allW a b zs = true) {k : Nat} (hk : k < ys.length) : a ≤ gt ys k ∧ gt ys k ≤ b := by
  have hm : gt ys k ∈ zs := hp.mem_iff.1 (gt_mem hk)
  exact inR_iff.1 (List.all_eq_true.1 h _ hm)

end Go.Proofs.Ytemijekdcifncaa
