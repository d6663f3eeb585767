/- Contracts of MixLevels. -/
import Derived.Test.YtjifdheaeopdfaaPut
import Derived.WalkKit
import Derived.ProofKit
import Derived.Handy
import Derived.OpenShut
import Derived.ShutString
import Derived.ChangeOld
import Derived.Below
import Derived.BigQuiet
import Derived.Deep.QuietTactic
import Derived.Deep.Draws
import Derived.Deep.DeepCutAuto
import Derived.Deep.DeepFit
import Derived.Deep.LoopGhost
import Derived.Outline
import Derived.WalkSpells
import Derived.WalkLawsBesides
import Derived.WalkSmall
import Derived.Laws.OwnMore
import Derived.OneCell
import Derived.Laws.Rows
import Derived.Maps.AppendAt
import Derived.StillTailTactics
import Derived.Lib.SmallJoins
import Derived.Deep.RegionWith
import Derived.Deep.RegionHeld3
import Derived.RegionTactic
import Derived.Deep.Matrix
import Derived.Deep.Fields
import Derived.ChangeSame
namespace Go.Proofs.Ytjifdheaeopdfaa
open Go.RowKit

/-- the magnitude. -/
def absI (n : Int) : Int := if 0 ≤ n then n else -n
theorem absI_max (n : Int) : absI n = max n (-n) := by unfold absI; split <;> omega
set_option maxHeartbeats 400000 in
theorem size_any (n : Int) (w : World) (h0 : -1000000000000 ≤ n) (h1 : n ≤ 1000000000000) : Calls Try.prog 54 #[.int .i64 n] w fun e w' => e = .returned (.int .i64 (absI n)) ∧ w = w' := by
  have hf := hide (absI_max n)
  go_enter Try.func54, Try.ntmps54
  go_wp2
  all_goals go_ret
  all_goals exact ⟨ret_int (by rw [hf.out]; omega), rfl⟩

theorem OwN.open_ {w : World} {B n : Nat} {v : Value} {zs : List Int} (h : OwN w B v n zs) (hn : 0 < n) : ∃ g c, v = .slice (some ⟨g, 0, none⟩) n c := by
  have hl := h.len
  subst hl
  rcases (OwN.toI h).form with ⟨rfl, rfl⟩ | ⟨g, cap, rfl, _⟩
  · simp at hn
  · exact ⟨g, cap, rfl⟩

theorem gt_reverse {zs : List Int} {k : Nat} (h : k < zs.length) : gt zs.reverse k = gt zs (zs.length - 1 - k) := by
  rw [gt_getElem (by simpa using h), gt_getElem (by omega), List.getElem_reverse]

theorem putL_perm (zs : List Int) (n : Int) : (putL zs n).Perm (n :: zs) := by
  induction zs with
  | nil => exact List.Perm.refl _
  | cons x xs ih =>
    unfold putL
    split
    · exact List.Perm.refl _
    · exact (List.Perm.cons x ih).trans (List.Perm.swap n x xs)
theorem putL_asc {zs : List Int} (h : zs.Pairwise (· ≤ ·)) (n : Int) : (putL zs n).Pairwise (· ≤ ·) := by
  induction zs with
  | nil => simp [putL]
  | cons x xs ih =>
    rw [List.pairwise_cons] at h
    unfold putL
    split
    · rename_i hn
      rw [List.pairwise_cons]
      refine ⟨fun y hy => ?_, List.pairwise_cons.2 h⟩
      rcases List.mem_cons.1 hy with rfl | hy
      · exact hn
      · have := h.1 y hy; omega
    · rename_i hn
      rw [List.pairwise_cons]
      refine ⟨fun y hy => ?_, ih h.2⟩
      rcases List.mem_cons.1 ((putL_perm xs n).mem_iff.1 hy) with rfl | hy
      · omega
      · exact h.1 y hy
theorem sortL_perm (zs : List Int) : (sortL zs).Perm zs := by
  have : ∀ (l acc : List Int), (l.foldl putL acc).Perm (acc ++ l) := by
    intro l
    induction l with
    | nil => intro acc; simp
    | cons x xs ih =>
      intro acc
      rw [List.foldl_cons]
      refine (ih (putL acc x)).trans ?_
      refine ((putL_perm acc x).append_right xs).trans ?_
      simpa using (List.perm_middle (a := x) (l₁ := acc) (l₂ := xs)).symm
  simpa [sortL] using this zs []
theorem sortL_asc (zs : List Int) : (sortL zs).Pairwise (· ≤ ·) := by
  have : ∀ (l acc : List Int), acc.Pairwise (· ≤ ·) → (l.foldl putL acc).Pairwise (· ≤ ·) := by
    intro l
    induction l with
    | nil => intro acc h; exact h
    | cons x xs ih => intro acc h; exact ih _ (putL_asc h x)
  exact this zs [] List.Pairwise.nil
theorem asc_gt {zs : List Int} (h : zs.Pairwise (· ≤ ·)) {i j : Nat} (hij : i ≤ j) (hj : j < zs.length) : gt zs i ≤ gt zs j := by
  rw [gt_getElem (by omega), gt_getElem hj]
  rcases Nat.lt_or_ge i j with h1 | h1
  · exact List.pairwise_iff_getElem.1 h i j (by omega) hj h1
  · obtain rfl : i = j := by omega
    exact Int.le_refl _
theorem perm_bd {a b : Int} {zs ys : List Int} (hp : ys.Perm zs) (h : allW a b zs = true) {k : Nat} (hk : k < ys.length) : a ≤ gt ys k ∧ gt ys k ≤ b := by
  have hm : gt ys k ∈ zs := hp.mem_iff.1 (gt_mem hk)
  exact inR_iff.1 (List.all_eq_true.1 h _ hm)

/-- one sound more. -/
def mixStep (now x : Int) : Int := if now - x ≤ 1 then now + 3 else if now - x ≤ 3 then now + 2 else if now - x ≤ 9 then now + 1 else now
theorem mixStep_bd (a b : Int) : a ≤ mixStep a b ∧ mixStep a b ≤ a + 3 := by unfold mixStep; split; omega; split; omega; split <;> omega
/-- the first k of falling levels mixed. -/
def mixTo (l : List Int) : Nat → Int
  | 0 => gt l 0
  | 1 => gt l 0
  | k + 2 => mixStep (mixTo l (k + 1)) (gt l (k + 1))
theorem mixTo_step (l : List Int) (k : Nat) (hk : 1 ≤ k) : mixTo l (k + 1) = mixStep (mixTo l k) (gt l k) := by
  obtain ⟨j, rfl⟩ : ∃ j, k = j + 1 := ⟨k - 1, by omega⟩
  rfl
theorem mixTo_bd (l : List Int) (k : Nat) (hk : 1 ≤ k) : gt l 0 ≤ mixTo l k ∧ mixTo l k ≤ gt l 0 + 3 * ((k : Int) - 1) := by
  induction k with
  | zero => omega
  | succ k ih =>
    by_cases h : k = 0
    · subst h; simp [mixTo]
    · have := ih (by omega)
      rw [mixTo_step l k (by omega)]
      have := mixStep_bd (mixTo l k) (gt l k)
      omega

/-- falling order. -/
def fallL (zs : List Int) : List Int := (sortL zs).reverse
theorem fallL_length (zs : List Int) : (fallL zs).length = zs.length := by simp [fallL, sortL_length]
theorem fallL_snoc (zs : List Int) (x : Int) : fallL (zs ++ [x]) = (putL (fallL zs).reverse x).reverse := by simp [fallL, sortL_snoc]
theorem fallL_head {zs : List Int} {k : Nat} (hk : k < zs.length) : gt (fallL zs) k ≤ gt (fallL zs) 0 := by
  have hl := sortL_length zs
  unfold fallL
  rw [gt_reverse (by omega), gt_reverse (by omega)]
  exact asc_gt (sortL_asc zs) (by omega) (by omega)
theorem fallL_bd {a b : Int} {zs : List Int} (h : allW a b zs = true) {k : Nat} (hk : k < zs.length) : a ≤ gt (fallL zs) k ∧ gt (fallL zs) k ≤ b :=
  perm_bd ((List.reverse_perm _).trans (sortL_perm zs)) h (by rw [← fallL, fallL_length]; exact hk)
/-- the place of a number in falling order, found from the end. -/
theorem fall_ins {l : List Int} {x : Int} {p : Nat} (hp : p ≤ l.length) (h : ∀ j, p ≤ j → j < l.length → gt l j < x) (h0 : p = 0 ∨ x ≤ gt l (p - 1)) :
    (putL l.reverse x).reverse = l.take p ++ x :: l.drop p := by
  have e : l.reverse = (l.drop p).reverse ++ (l.take p).reverse := by rw [← List.reverse_append, List.take_append_drop]
  rw [e, putL_append]
  · rcases Nat.eq_zero_or_pos p with rfl | hpos
    · simp [putL]
    · have hx : x ≤ gt l (p - 1) := by rcases h0 with h | h; omega; exact h
      have ht : l.take p = l.take (p - 1) ++ [gt l (p - 1)] := by
        have := take_gt (zs := l) (k := p - 1) (by omega)
        rwa [show p - 1 + 1 = p from by omega] at this
      rw [ht]
      simp only [List.reverse_append, List.reverse_cons, List.reverse_nil, List.nil_append, List.singleton_append]
      rw [putL, if_pos hx]
      simp
  · intro k hk
    simp at hk
    rw [gt_reverse (by simpa using hk)]
    have hlen : (l.drop p).length = l.length - p := by simp
    have : gt (l.drop p) ((l.drop p).length - 1 - k) = gt l (p + (l.length - p - 1 - k)) := by
      unfold gt; simp [hlen]
    rw [this]
    exact h _ (by omega) (by omega)
theorem shift_set {l : List Int} {q : Nat} {y : Int} (hq : q < l.length) : (l.take (q + 1) ++ y :: l.drop (q + 1)).set (q + 1) (gt l q) = l.take q ++ gt l q :: l.drop q := by
  have hl : (l.take (q + 1)).length = q + 1 := by simp; omega
  have := set_step (done := l.take (q + 1)) (rest := l.drop (q + 1)) (x := gt l q) (y := y)
  rw [hl] at this
  rw [this, take_gt hq, drop_gt hq]
  simp
theorem place_set {l : List Int} {p : Nat} {x y : Int} (hp : p ≤ l.length) : (l.take p ++ y :: l.drop p).set p x = l.take p ++ x :: l.drop p := by
  have hl : (l.take p).length = p := by simp; omega
  have := set_step (done := l.take p) (rest := l.drop p) (x := x) (y := y)
  rw [hl] at this
  rw [this]; simp
theorem hole_gt {l : List Int} {q : Nat} {y : Int} (hq : q < l.length) : gt (l.take (q + 1) ++ y :: l.drop (q + 1)) q = gt l q := by
  rw [gt_append_left (by simp; omega), gt_take (by omega)]

/-- what MixLevels answers. -/
def mixAll (zs : List Int) : Int := if inR (zs.length : Int) 1 10 && allW 0 120 zs then mixTo (fallL zs) zs.length else -1

set_option maxHeartbeats 400000 in
theorem mixed_any (a b : Int) (w : World) (h0 : 0 ≤ b) (h1 : b ≤ a) (h2 : a ≤ 1000) : Calls Try.prog 47 #[.int .i64 a, .int .i64 b] w fun e w' => e = .returned (.int .i64 (mixStep a b)) ∧ w = w' := by
  have ha : absI (a - b) = a - b := by unfold absI; rw [if_pos (by omega)]
  have hs := size_any (a - b)
  rw [ha] at hs
  clear ha
  by_cases c1 : a - b ≤ 1
  · have hf := hide (show mixStep a b = a + 3 from by unfold mixStep; rw [if_pos c1])
    go_enter Try.func47, Try.ntmps47
    go_wp2_with (go_at_call 54; refine (hs _ (by omega) (by omega)).mono ?_; rintro e w' ⟨rfl, rfl⟩)
    all_goals go_ret
    all_goals exact ⟨ret_int hf.out.symm, rfl⟩
  · by_cases c2 : a - b ≤ 3
    · have hf := hide (show mixStep a b = a + 2 from by unfold mixStep; rw [if_neg c1, if_pos c2])
      go_enter Try.func47, Try.ntmps47
      go_wp2_with (go_at_call 54; refine (hs _ (by omega) (by omega)).mono ?_; rintro e w' ⟨rfl, rfl⟩)
      all_goals go_ret
      all_goals exact ⟨ret_int hf.out.symm, rfl⟩
    · by_cases c3 : a - b ≤ 9
      · have hf := hide (show mixStep a b = a + 1 from by unfold mixStep; rw [if_neg c1, if_neg c2, if_pos c3])
        go_enter Try.func47, Try.ntmps47
        go_wp2_with (go_at_call 54; refine (hs _ (by omega) (by omega)).mono ?_; rintro e w' ⟨rfl, rfl⟩)
        all_goals go_ret
        all_goals exact ⟨ret_int hf.out.symm, rfl⟩
      · have hf := hide (show mixStep a b = a from by unfold mixStep; rw [if_neg c1, if_neg c2, if_neg c3])
        go_enter Try.func47, Try.ntmps47
        go_wp2_with (go_at_call 54; refine (hs _ (by omega) (by omega)).mono ?_; rintro e w' ⟨rfl, rfl⟩)
        all_goals go_ret
        all_goals exact ⟨ret_int hf.out.symm, rfl⟩

set_option maxHeartbeats 1000000 in
theorem impl_MixLevels (v : Value) (zs : List Int) (w : World) (h : RdI w v zs) (hl : zs.length ≤ 1048576) :
    Calls Try.prog 25 #[v] w fun e w' => e = .returned (.int .i64 (mixAll zs)) ∧ Nx w w' := by
  have hv := h
  obtain ⟨A, c, rfl, hx⟩ := h
  clear hx
  cases h1 : inR (zs.length : Int) 1 10 with
  | false =>
    have hf := hide (show mixAll zs = -1 from by simp [mixAll, h1])
    go_enter Try.func25, Try.ntmps25
    go_wp2_with (go_at_call 42; refine (within_any _ _ _ _).mono ?_; rintro e w' ⟨rfl, rfl⟩)
    go_ret
    exact ⟨ret_int hf.out.symm, Below.refl _ _⟩
  | true =>
    cases h2 : allW 0 120 zs with
    | false =>
      have hf := hide (show mixAll zs = -1 from by simp [mixAll, h2])
      go_enter Try.func25, Try.ntmps25
      go_wp2_with (first | (go_at_call 42; refine (within_any _ _ _ _).mono ?_; rintro e w' ⟨rfl, rfl⟩) | (go_at_call 44; refine (allWithin_any _ _ _ _ _ hv hl).mono ?_; rintro e w' ⟨rfl, rfl⟩))
      go_ret
      exact ⟨ret_int hf.out.symm, Below.refl _ _⟩
    | true =>
      have hf := hide (show mixAll zs = mixTo (fallL zs) zs.length from by simp [mixAll, h1, h2])
      have hn := inR_iff.1 h1
      have hn1 : 1 ≤ zs.length := by omega
      have hn2 : zs.length ≤ 10 := by omega
      clear hn
      go_enter Try.func25, Try.ntmps25
      go_wp2_with (first | (go_at_call 42; refine (within_any _ _ _ _).mono ?_; rintro e w' ⟨rfl, rfl⟩) | (go_at_call 44; refine (allWithin_any _ _ _ _ _ hv hl).mono ?_; rintro e w' ⟨rfl, rfl⟩) | (go_at_call 46; fail))
      refine (sorted_any _ _ _ hv hl).mono ?_
      rintro e w1 ⟨u, rfl, hown, hb⟩
      have hownN : OwN w1 w.heap.size u zs.length (sortL zs) := by have := hown.toN; rw [sortL_length] at this; exact this
      obtain ⟨g, cg, rfl⟩ := hownN.open_ (by omega)
      have hlast := hownN.cellAt (j := zs.length - 1) (by omega)
      have hbd : ∀ k, k < zs.length → 0 ≤ gt (fallL zs) k ∧ gt (fallL zs) k ≤ 120 := fun k hk => fallL_bd h2 hk
      have hrev : ∀ k, k < zs.length → gt (fallL zs) k = gt (sortL zs) (zs.length - 1 - k) := fun k hk => by unfold fallL; rw [gt_reverse (by rw [sortL_length]; exact hk), sortL_length]
      have e0 := hide (hrev 0 (by omega))
      have Hbd := hide hbd
      have Hrev := hide hrev
      have hcell : Hid (∀ j, j < zs.length → w1.cell? ⟨g, j, none⟩ = some (.int .i64 (gt (sortL zs) j))) := fun j hj => hownN.cellAt hj
      have Hb := hide hb
      clear hbd hrev hown hownN hb h1 h2 hv
      go_wp2_with fail
      go_loop [4, 5] (fun o i => ∃ j : Nat, 1 ≤ j ∧ j ≤ zs.length ∧ i = .int .i64 ((zs.length : Int) - 1 - j) ∧ o = .int .i64 (mixTo (fallL zs) j)) (fun _ i => (intOf i + 1).toNat)
      case atStart => exact ⟨1, by omega, by omega, by go_num, by simp only [mixTo]; rw [e0.out]; rfl⟩
      case round =>
        obtain ⟨j, hj1, hj2, rfl, rfl⟩ := hrel
        by_cases hlt : j < zs.length
        · have hck := hcell.out (zs.length - 1 - j) (by omega)
          have ex := Hrev.out j hlt
          rw [← ex] at hck
          clear ex
          have b1 := Hbd.out j hlt
          have b0 := Hbd.out 0 (by omega)
          have bm := mixTo_bd (fallL zs) j hj1
          have bh := fallL_head (zs := zs) hlt
          have hst := hide (mixTo_step (fallL zs) j hj1)
          have hidx : ((zs.length : Int) - 1 - (j : Int)).toNat = zs.length - 1 - j := by omega
          go_wp2_with (go_at_call 47; refine (mixed_any _ _ _ (by omega) (by omega) (by omega)).mono ?_; rintro e w' ⟨rfl, rfl⟩)
          go_round
          case rel => exact ⟨j + 1, by omega, by omega, by go_num, by rw [hst.out]⟩
          case measure => simp [intOf]; omega
        · obtain rfl : j = zs.length := by omega
          go_wp2_with fail
          go_ret
          exact ⟨ret_int hf.out.symm, unhide Hb⟩

set_option maxHeartbeats 1000000 in
theorem falling_any (v : Value) (zs : List Int) (w : World) (h : RdI w v zs) (hl : zs.length ≤ 1048576) :
    Calls Try.prog 45 #[v] w fun e w' => ∃ u, e = .returned u ∧ OwI w' w.heap.size u (fallL zs) ∧ Nx w w' := by
  obtain ⟨A, c, rfl, hx⟩ := h
  go_enter Try.func45, Try.ntmps45
  go_wp2_with fail
  go_loopw [3, 4] (fun u i wr => ∃ k : Nat, k ≤ zs.length ∧ i = .int .i64 k ∧ OwI wr w.heap.size u (fallL (zs.take k)) ∧ Nx w wr) (fun _ i _ => zs.length - (intOf i).toNat)
  case atStart => exact ⟨0, Nat.zero_le _, rfl, OwI.made0 w, Nx.made w _⟩
  case round =>
    obtain ⟨k, hk, rfl, hown, hb⟩ := hrel
    have hsz := hb.size
    by_cases hlt : k < zs.length
    · obtain ⟨b0, off, rfl, hb0, hc⟩ := hx (by omega)
      have hck0 := hc k hlt
      clear hc hx
      have hLk : (fallL (zs.take k)).length = k := by rw [fallL_length, List.length_take]; omega
      have hstep : Hid (fallL (zs.take (k + 1)) = (putL (fallL (zs.take k)).reverse (gt zs k)).reverse) := by
        show fallL (zs.take (k + 1)) = _
        rw [take_gt hlt, fallL_snoc]
      generalize fallL (zs.take k) = L at hown hLk hstep
      obtain ⟨A3, c3, rfl, hA3, _⟩ := hown.open_
      have hck : wr.cell? ⟨b0, off + k, none⟩ = some (.int .i64 (gt zs k)) := (hb.cell (p := ⟨b0, off + k, none⟩) hb0).trans hck0
      have HL := hide hLk
      clear hLk hA3
      obtain ⟨wo, rfl⟩ : ∃ wo : World, wo = wr := ⟨_, rfl⟩
      go_wp2_with (at_builtin; refine wpList_push rfl (.tmp 15) (.tmp 20) rfl wo w.heap.size _ L (gt zs k) rfl rfl hown (by have := HL.out; omega) hsz ?_; intro v1 w1 hown1 hg1 _; have hb1 := hb.pushed hown (Nat.le_refl _) hg1)
      have hownN : OwN w1 w.heap.size v1 (k + 1) (L.take k ++ gt zs k :: L.drop k) := by
        have := hown1.toN
        have hL := HL.out
        rw [List.length_append, hL, ← List.take_of_length_le (Nat.le_of_eq hL)] at this
        rw [List.drop_of_length_le (Nat.le_of_eq hL)]
        exact this
      obtain ⟨g, cg, hv1⟩ := hownN.open_ (by omega)
      subst hv1
      have hL := HL.out
      rw [hL]
      clear hown1 hg1 hown hck hb hL
      go_loopw [5] (fun at_ wi => ∃ (p : Nat) (y : Int), p ≤ k ∧ at_ = .int .i64 p ∧ OwN wi w.heap.size (.slice (some ⟨g, 0, none⟩) (k + 1) cg) (k + 1) (L.take p ++ y :: L.drop p) ∧ Nx w wi ∧ Hid (∀ j, p ≤ j → j < L.length → gt L j < gt zs k)) (fun at_ _ => (intOf at_).toNat)
      case atStart => exact ⟨k, gt zs k, Nat.le_refl _, rfl, hownN, hb1, fun j h1 h2 => absurd h2 (by have := HL.out; omega)⟩
      case round =>
        clear hownN hb1
        obtain ⟨p, y, hp, rfl, hown, hb, hless⟩ := hrel
        have hck : wr.cell? ⟨b0, off + k, none⟩ = some (.int .i64 (gt zs k)) := (hb.cell (p := ⟨b0, off + k, none⟩) hb0).trans hck0
        by_cases hp0 : 0 < p
        · obtain ⟨q, rfl⟩ : ∃ q, p = q + 1 := ⟨p - 1, by omega⟩
          have hqL : q < L.length := by have := HL.out; omega
          have hcq := hown.cellAt (j := q) (by omega)
          rw [hole_gt hqL] at hcq
          have hst := hown.cellAt (j := q + 1) (by omega)
          have hfr := hown.frozenAt (q + 1)
          by_cases hl : gt L q < gt zs k
          · have R := (hown.stored (q + 1) (gt L q)).1
            rw [shift_set hqL] at R
            have R' := hide R
            have Rb := hide (fun nq : Nat => (below_drewN hb nq).setCell (p := ⟨g, q + 1, none⟩) (OwN.block hown).1 (.int .i64 (gt L q)))
            have hless' : Hid (∀ j, q ≤ j → j < L.length → gt L j < gt zs k) := fun j h1 h2 => by
              rcases Nat.lt_or_ge q j with h | h
              · exact hless.out j (by omega) h2
              · obtain rfl : j = q := by omega
                exact hl
            clear R hown hb hqL
            go_wp2_with fail
            go_quiet (fail)
            go_wp2
            go_roundw
            case rel => exact ⟨q, gt L q, by omega, by go_num, R'.out, Rb.out _, hless'⟩
            case measure => simp [intOf] <;> omega
          · have R := (hown.stored (q + 1) (gt zs k)).1
            rw [place_set (by omega)] at R
            have R' := hide R
            have Rb := hide (fun nq : Nat => (below_drewN hb nq).setCell (p := ⟨g, q + 1, none⟩) (OwN.block hown).1 (.int .i64 (gt zs k)))
            have hfin := hide (fall_ins (l := L) (x := gt zs k) (p := q + 1) (by omega) hless.out (.inr (by simp only [Nat.add_sub_cancel]; omega)))
            clear R hown hb hqL
            go_wp2_with fail
            go_quiet (fail)
            go_wp2
            go_roundw
            case rel => exact ⟨k + 1, by omega, by go_num, by rw [hstep.out, hfin.out]; exact OwN.toI R'.out, Rb.out _⟩
            case measure => simp [intOf] <;> omega
        · obtain rfl : p = 0 := by omega
          have hst := hown.cellAt (j := 0) (by omega)
          have hfr := hown.frozenAt 0
          have R := (hown.stored 0 (gt zs k)).1
          rw [place_set (by omega)] at R
          have R' := hide R
          have Rb := hide (fun nq : Nat => (below_drewN hb nq).setCell (p := ⟨g, 0, none⟩) (OwN.block hown).1 (.int .i64 (gt zs k)))
          have hfin := hide (fall_ins (l := L) (x := gt zs k) (p := 0) (by omega) hless.out (.inl rfl))
          clear R hown hb hp0
          go_wp2_with fail
          go_quiet (fail)
          go_wp2
          go_roundw
          case rel => exact ⟨k + 1, by omega, by go_num, by rw [hstep.out, hfin.out]; exact OwN.toI R'.out, Rb.out _⟩
          case measure => simp [intOf] <;> omega
    · obtain rfl : k = zs.length := by omega
      clear hx
      go_wp2_with fail
      go_ret
      exact ⟨_, rfl, by have := hown; rw [List.take_length] at this; exact this, hb⟩

set_option maxHeartbeats 1000000 in
theorem spec_MixLevels (v : Value) (zs : List Int) (w : World) (h : RdI w v zs) (hl : zs.length ≤ 1048576) :
    Calls Try.prog 24 #[v] w fun e w' => e = .returned (.int .i64 (mixAll zs)) ∧ Nx w w' := by
  have hv := h
  obtain ⟨A, c, rfl, hx⟩ := h
  cases h1 : inR (zs.length : Int) 1 10 with
  | false =>
    have hf := hide (show mixAll zs = -1 from by simp [mixAll, h1])
    go_enter Try.func24, Try.ntmps24
    go_wp2_with (go_at_call 41; refine (l01In_any _ _ _ _).mono ?_; rintro e w' ⟨rfl, rfl⟩)
    go_ret
    exact ⟨ret_int hf.out.symm, Below.refl _ _⟩
  | true =>
    have hn := inR_iff.1 h1
    have hn1 : 1 ≤ zs.length := by omega
    have hn2 : zs.length ≤ 10 := by omega
    clear hn
    have H1 := hide h1
    go_enter Try.func24, Try.ntmps24
    go_wp2_with (go_at_call 41; refine (l01In_any _ _ _ _).mono ?_; rintro e w' ⟨rfl, rfl⟩)
    go_loop [3] (fun i => ∃ k : Nat, k ≤ zs.length ∧ i = .int .i64 k ∧ Hid (∀ j, j < k → inR (gt zs j) 0 120 = true)) (fun i => zs.length - (intOf i).toNat)
    case atStart => exact ⟨0, Nat.zero_le _, rfl, fun j hj => absurd hj (by omega)⟩
    case round =>
      obtain ⟨k, hk, rfl, hall⟩ := hrel
      by_cases hlt : k < zs.length
      · obtain ⟨b0, off, rfl, hb0, hc⟩ := hx (by omega)
        have hck := hc k hlt
        clear hc hx
        cases hin : inR (gt zs k) 0 120 with
        | true =>
          go_wp2_with (go_at_call 41; refine (l01In_any _ _ _ _).mono ?_; rintro e w' ⟨rfl, rfl⟩)
          go_round
          case rel => exact ⟨k + 1, by omega, by go_num, fun j hj => by
            rcases Nat.lt_or_ge j k with h | h
            · exact hall.out j h
            · obtain rfl : j = k := by omega
              exact hin⟩
          case measure => simp [intOf]; omega
        | false =>
          have hf := hide (show mixAll zs = -1 from by simp [mixAll, allW_false hlt hin])
          go_wp2_with (go_at_call 41; refine (l01In_any _ _ _ _).mono ?_; rintro e w' ⟨rfl, rfl⟩)
          go_ret
          exact ⟨ret_int hf.out.symm, Below.refl _ _⟩
      · obtain rfl : k = zs.length := by omega
        have h2 : allW 0 120 zs = true := allW_of hall.out
        have hf := hide (show mixAll zs = mixTo (fallL zs) zs.length from by simp [mixAll, H1.out, h2])
        have Hbd := hide (fun (k : Nat) (hk : k < zs.length) => fallL_bd h2 hk)
        clear h2 hx
        go_wp2_with (go_at_call 45; fail)
        refine (falling_any _ _ _ hv hl).mono ?_
        rintro e w1 ⟨u, rfl, hown, hb⟩
        have hownN : OwN w1 w.heap.size u zs.length (fallL zs) := by have := hown.toN; rw [fallL_length] at this; exact this
        obtain ⟨g, cg, rfl⟩ := hownN.open_ (by omega)
        have h0 := hownN.cellAt (j := 0) (by omega)
        have hcell : Hid (∀ j, j < zs.length → w1.cell? ⟨g, j, none⟩ = some (.int .i64 (gt (fallL zs) j))) := fun j hj => hownN.cellAt hj
        have Hb := hide hb
        clear hown hownN hb hv
        go_wp2_with fail
        go_loop [5, 6] (fun o i => ∃ j : Nat, 1 ≤ j ∧ j ≤ zs.length ∧ i = .int .i64 j ∧ o = .int .i64 (mixTo (fallL zs) j)) (fun _ i => zs.length - (intOf i).toNat)
        case atStart => exact ⟨1, by omega, by omega, rfl, rfl⟩
        case round =>
          obtain ⟨j, hj1, hj2, rfl, rfl⟩ := hrel
          by_cases hlt : j < zs.length
          · have hck := hcell.out j hlt
            have b1 := Hbd.out j hlt
            have b0 := Hbd.out 0 (by omega)
            have bm := mixTo_bd (fallL zs) j hj1
            by_cases c1 : mixTo (fallL zs) j - gt (fallL zs) j ≤ 1
            · have hst := hide (show mixTo (fallL zs) (j + 1) = mixTo (fallL zs) j + 3 from by rw [mixTo_step _ j hj1, mixStep, if_pos c1])
              go_wp2_with fail
              go_round
              case rel => exact ⟨j + 1, by omega, by omega, by go_num, by rw [hst.out]⟩
              case measure => simp [intOf]; omega
            · by_cases c2 : mixTo (fallL zs) j - gt (fallL zs) j ≤ 3
              · have hst := hide (show mixTo (fallL zs) (j + 1) = mixTo (fallL zs) j + 2 from by rw [mixTo_step _ j hj1, mixStep, if_neg c1, if_pos c2])
                go_wp2_with fail
                go_round
                case rel => exact ⟨j + 1, by omega, by omega, by go_num, by rw [hst.out]⟩
                case measure => simp [intOf]; omega
              · by_cases c3 : mixTo (fallL zs) j - gt (fallL zs) j ≤ 9
                · have hst := hide (show mixTo (fallL zs) (j + 1) = mixTo (fallL zs) j + 1 from by rw [mixTo_step _ j hj1, mixStep, if_neg c1, if_neg c2, if_pos c3])
                  go_wp2_with fail
                  go_round
                  case rel => exact ⟨j + 1, by omega, by omega, by go_num, by rw [hst.out]⟩
                  case measure => simp [intOf]; omega
                · have hst := hide (show mixTo (fallL zs) (j + 1) = mixTo (fallL zs) j from by rw [mixTo_step _ j hj1, mixStep, if_neg c1, if_neg c2, if_neg c3])
                  go_wp2_with fail
                  go_round
                  case rel => exact ⟨j + 1, by omega, by omega, by go_num, by rw [hst.out]⟩
                  case measure => simp [intOf]; omega
          · obtain rfl : j = zs.length := by omega
            go_wp2_with fail
            go_ret
            exact ⟨ret_int hf.out.symm, unhide Hb⟩

end Go.Proofs.Ytjifdheaeopdfaa
