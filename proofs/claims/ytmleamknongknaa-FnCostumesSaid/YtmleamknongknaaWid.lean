/- Widths: impl. -/
import Derived.Test.YtmleamknongknaaPut
import Derived.WalkKit
import Derived.ProofKit
import Derived.Handy
import Derived.OpenShut
import Derived.ShutString
import Derived.ChangeOld
import Derived.Below
import Derived.BigQuiet
import Derived.Deep.QuietTactic
import Derived.Deep.Draws
import Derived.Deep.DeepCutAuto
import Derived.Deep.DeepFit
import Derived.Deep.LoopGhost
import Derived.Outline
import Derived.WalkSpells
import Derived.WalkLawsBesides
import Derived.WalkSmall
import Derived.Laws.OwnMore
import Derived.OneCell
import Derived.Laws.Rows
import Derived.Maps.AppendAt
import Derived.StillTailTactics
import Derived.Lib.SmallJoins
import Derived.Deep.RegionWith
import Derived.Deep.RegionHeld3
import Derived.RegionTactic
import Derived.Deep.Matrix
import Derived.Deep.Fields
import Derived.ChangeSame
namespace Go.Proofs.Ytmleamknongknaa
open Go.RowKit

theorem putL_perm (zs : List Int) (n : Int) : (putL zs n).Perm (n :: zs) := by
  induction zs with
  | nil => exact List.Perm.refl _
  | cons x xs ih =>
    unfold putL
    split
    · exact List.Perm.refl _
    · exact (List.Perm.cons x ih).trans (List.Perm.swap n x xs)
theorem putL_asc {zs : List Int} (h : zs.Pairwise (· ≤ ·)) (n : Int) : (putL zs n).Pairwise (· ≤ ·) := by
  induction zs with
  | nil => simp [putL]
  | cons x xs ih =>
    rw [List.pairwise_cons] at h
    unfold putL
    split
    · rename_i hn
      rw [List.pairwise_cons]
      refine ⟨fun y hy => ?_, List.pairwise_cons.2 h⟩
      rcases List.mem_cons.1 hy with rfl | hy
      · exact hn
      · have := h.1 y hy; omega
    · rename_i hn
      rw [List.pairwise_cons]
      refine ⟨fun y hy => ?_, ih h.2⟩
      rcases List.mem_cons.1 ((putL_perm xs n).mem_iff.1 hy) with rfl | hy
      · omega
      · exact h.1 y hy
theorem sortL_perm (zs : List Int) : (sortL zs).Perm zs := by
  have : ∀ (l acc : List Int), (l.foldl putL acc).Perm (acc ++ l) := by
    intro l
    induction l with
    | nil => intro acc; simp
    | cons x xs ih =>
      intro acc
      rw [List.foldl_cons]
      refine (ih (putL acc x)).trans ?_
      refine ((putL_perm acc x).append_right xs).trans ?_
      simpa using (List.perm_middle (a := x) (l₁ := acc) (l₂ := xs)).symm
  simpa [sortL] using this zs []
theorem sortL_asc (zs : List Int) : (sortL zs).Pairwise (· ≤ ·) := by
  have : ∀ (l acc : List Int), acc.Pairwise (· ≤ ·) → (l.foldl putL acc).Pairwise (· ≤ ·) := by
    intro l
    induction l with
    | nil => intro acc h; exact h
    | cons x xs ih => intro acc h; exact ih _ (putL_asc h x)
  exact this zs [] List.Pairwise.nil
theorem asc_gt {zs : List Int} (h : zs.Pairwise (· ≤ ·)) {i j : Nat} (hij : i ≤ j) (hj : j < zs.length) : gt zs i ≤ gt zs j := by
  rw [gt_getElem (by omega), gt_getElem hj]
  rcases Nat.lt_or_ge i j with h1 | h1
  · exact List.pairwise_iff_getElem.1 h i j (by omega) hj h1
  · obtain rfl : i = j := by omega
    exact Int.le_refl _
theorem perm_bd {a b : Int} {zs ys : List Int} (hp : ys.Perm zs) (h : allW a b zs = true) {k : Nat} (hk : k < ys.length) : a ≤ gt ys k ∧ gt ys k ≤ b := by
  have hm : gt ys k ∈ zs := hp.mem_iff.1 (gt_mem hk)
  exact inR_iff.1 (List.all_eq_true.1 h _ hm)

/-- widths after k of the ascending numbers, and the last one. -/
def wTo (a : List Int) (e : Int) : Nat → List Int × Int
  | 0 => ([], 0)
  | k + 1 => if (wTo a e k).2 < gt a k then ((wTo a e k).1 ++ [gt a k + e], gt a k + e) else wTo a e k
theorem wTo_yes {a : List Int} {e : Int} {k : Nat} (h : (wTo a e k).2 < gt a k) : wTo a e (k + 1) = ((wTo a e k).1 ++ [gt a k + e], gt a k + e) := by simp only [wTo, if_pos h]
theorem wTo_no {a : List Int} {e : Int} {k : Nat} (h : ¬ (wTo a e k).2 < gt a k) : wTo a e (k + 1) = wTo a e k := by simp only [wTo, if_neg h]
theorem wTo_len (a : List Int) (e : Int) (k : Nat) : (wTo a e k).1.length ≤ k := by
  induction k with
  | zero => simp [wTo]
  | succ k ih =>
    simp only [wTo]
    split
    · simp
      omega
    · omega
theorem wTo_last (a : List Int) (e : Int) (k : Nat) : ((wTo a e k).1.length = 0 ∧ (wTo a e k).2 = 0) ∨ (0 < (wTo a e k).1.length ∧ gt (wTo a e k).1 ((wTo a e k).1.length - 1) = (wTo a e k).2) := by
  induction k with
  | zero => left; exact ⟨rfl, rfl⟩
  | succ k ih =>
    simp only [wTo]
    split
    · right
      have hs := gt_snoc (wTo a e k).1 (gt a k + e)
      simp only [List.length_append, List.length_singleton, Nat.add_sub_cancel]
      exact ⟨by omega, hs⟩
    · exact ih
theorem wTo_bd {a : List Int} {e : Int} (he : 0 ≤ e ∧ e ≤ 50) {k : Nat} (hk : k ≤ a.length) (ha : ∀ j, j < a.length → 1 ≤ gt a j ∧ gt a j ≤ 200) : 0 ≤ (wTo a e k).2 ∧ (wTo a e k).2 ≤ 250 := by
  induction k with
  | zero => simp [wTo]
  | succ k ih =>
    have := ih (by omega)
    have := ha k (by omega)
    simp only [wTo]
    split
    · show 0 ≤ gt a k + e ∧ gt a k + e ≤ 250
      omega
    · assumption
theorem wTo_skip {a : List Int} {e : Int} {k n : Nat} (hkn : k ≤ n) (h : ∀ i, k ≤ i → i < n → gt a i ≤ (wTo a e k).2) : wTo a e n = wTo a e k := by
  induction n with
  | zero => obtain rfl : k = 0 := by omega
            rfl
  | succ n ih =>
    rcases Nat.lt_or_ge n k with h1 | h1
    · obtain rfl : k = n + 1 := by omega
      rfl
    · have e1 := ih h1 fun i h2 h3 => h i h2 (by omega)
      have h4 := h n h1 (by omega)
      rw [wTo_no (by rw [e1]; omega), e1]
/-- numbers and an ease are ones. -/
def okC (zs : List Int) (e : Int) : Bool := decide (zs.length ≤ 30) && allW 1 200 zs && inR e 0 50
def widthsL (zs : List Int) (e : Int) : List Int := if okC zs e then (wTo (sortL zs) e zs.length).1 else []
def fewC (zs : List Int) (e : Int) : Int := if okC zs e then ((widthsL zs e).length : Int) else -1
theorem WidthsFor_len (zs : List Int) (e : Int) (h : zs.length ≤ 1048576) : (widthsL zs e).length ≤ 1048576 := by
  unfold widthsL
  split
  · have := wTo_len (sortL zs) e zs.length; omega
  · simp
/-- the least number above l among the first j, 0 if none. -/
def leastTo (l : Int) (zs : List Int) : Nat → Int
  | 0 => 0
  | j + 1 => if l < gt zs j ∧ (leastTo l zs j = 0 ∨ gt zs j < leastTo l zs j) then gt zs j else leastTo l zs j
theorem leastTo_spec {l : Int} {zs : List Int} (hl : 0 ≤ l) {j : Nat} :
    (leastTo l zs j = 0 ∧ ∀ i, i < j → gt zs i ≤ l) ∨ (l < leastTo l zs j ∧ (∃ i, i < j ∧ gt zs i = leastTo l zs j) ∧ ∀ i, i < j → l < gt zs i → leastTo l zs j ≤ gt zs i) := by
  induction j with
  | zero => left; exact ⟨rfl, fun i hi => absurd hi (by omega)⟩
  | succ j ih =>
    simp only [leastTo]
    rcases ih with ⟨h0, h1⟩ | ⟨h0, ⟨i0, hi0, hi1⟩, h1⟩
    · by_cases hc : l < gt zs j
      · rw [if_pos ⟨hc, .inl h0⟩]
        exact .inr ⟨hc, ⟨j, by omega, rfl⟩, fun i hi hli => by
          rcases Nat.lt_or_ge i j with h | h
          · have := h1 i h; omega
          · obtain rfl : i = j := by omega
            omega⟩
      · rw [if_neg (fun h => hc h.1)]
        exact .inl ⟨h0, fun i hi => by
          rcases Nat.lt_or_ge i j with h | h
          · exact h1 i h
          · obtain rfl : i = j := by omega
            omega⟩
    · by_cases hc : l < gt zs j ∧ (leastTo l zs j = 0 ∨ gt zs j < leastTo l zs j)
      · rw [if_pos hc]
        exact .inr ⟨hc.1, ⟨j, by omega, rfl⟩, fun i hi hli => by
          rcases Nat.lt_or_ge i j with h | h
          · have := h1 i h hli; omega
          · obtain rfl : i = j := by omega
            omega⟩
      · rw [if_neg hc]
        exact .inr ⟨h0, ⟨i0, by omega, hi1⟩, fun i hi hli => by
          rcases Nat.lt_or_ge i j with h | h
          · exact h1 i h hli
          · obtain rfl : i = j := by omega
            omega⟩
theorem mem_gt {zs : List Int} {x : Int} (h : x ∈ zs) : ∃ i, i < zs.length ∧ gt zs i = x := by
  obtain ⟨i, hi, rfl⟩ := List.getElem_of_mem h
  exact ⟨i, hi, gt_getElem hi⟩
/-- one round of the reference: the next width, or the end. -/
theorem next_none {zs : List Int} {e l : Int} {k : Nat} (hk : k ≤ zs.length) (hl : (wTo (sortL zs) e k).2 = l) (h : ∀ i, i < zs.length → gt zs i ≤ l) : wTo (sortL zs) e zs.length = wTo (sortL zs) e k :=
  wTo_skip hk fun i _ hi => by
    obtain ⟨q, hq, e1⟩ := mem_gt ((sortL_perm zs).mem_iff.1 (gt_mem (zs := sortL zs) (k := i) (by rw [sortL_length]; exact hi)))
    rw [hl, ← e1]
    exact h q hq
theorem next_some {zs : List Int} {e l m : Int} {k : Nat} (he : 0 ≤ e) (hl : (wTo (sortL zs) e k).2 = l) (hle : ∀ j, j < k → gt (sortL zs) j ≤ l)
    (h0 : l < m) (h1 : ∃ i, i < zs.length ∧ gt zs i = m) (h2 : ∀ i, i < zs.length → l < gt zs i → m ≤ gt zs i) :
    ∃ k', k' ≤ zs.length ∧ wTo (sortL zs) e k' = ((wTo (sortL zs) e k).1 ++ [m + e], m + e) ∧ ∀ j, j < k' → gt (sortL zs) j ≤ m + e := by
  have hlen := sortL_length zs
  obtain ⟨i, hi, hm⟩ := h1
  obtain ⟨q, hq, hqm⟩ := mem_gt ((sortL_perm zs).mem_iff.2 (gt_mem hi))
  rw [hlen] at hq
  have hqk : k ≤ q := by
    rcases Nat.lt_or_ge q k with h | h
    · have := hle q h; omega
    · exact h
  -- the first place from k on that lies above l
  have hex : ∀ d, k + d = q → ∃ p, k ≤ p ∧ p ≤ q ∧ l < gt (sortL zs) p ∧ ∀ j, k ≤ j → j < p → gt (sortL zs) j ≤ l := by
    have gen : ∀ d s, s + d = q → k ≤ s → (∀ j, k ≤ j → j < s → gt (sortL zs) j ≤ l) → ∃ p, k ≤ p ∧ p ≤ q ∧ l < gt (sortL zs) p ∧ ∀ j, k ≤ j → j < p → gt (sortL zs) j ≤ l := by
      intro d
      induction d with
      | zero => intro s hs hks hj; exact ⟨q, by omega, by omega, by omega, fun j a b => hj j a (by omega)⟩
      | succ d ih =>
        intro s hs hks hj
        by_cases hc : l < gt (sortL zs) s
        · exact ⟨s, hks, by omega, hc, hj⟩
        · exact ih (s + 1) (by omega) (by omega) fun j a b => by
            rcases Nat.lt_or_ge j s with h | h
            · exact hj j a h
            · obtain rfl : j = s := by omega
              omega
    intro d hd
    exact gen d k hd (Nat.le_refl _) fun j a b => absurd a (by omega)
  obtain ⟨p, hp1, hp2, hp3, hp4⟩ := hex (q - k) (by omega)
  have ep : gt (sortL zs) p = m := by
    have hle1 : gt (sortL zs) p ≤ gt (sortL zs) q := asc_gt (sortL_asc zs) hp2 (by omega)
    obtain ⟨r, hr, hre⟩ := mem_gt ((sortL_perm zs).mem_iff.1 (gt_mem (zs := sortL zs) (k := p) (by omega)))
    have := h2 r hr (by omega)
    omega
  have e1 : wTo (sortL zs) e p = wTo (sortL zs) e k := wTo_skip hp1 fun i a b => by rw [hl]; exact hp4 i a b
  refine ⟨p + 1, by omega, ?_, fun j hj => ?_⟩
  · rw [wTo_yes (by rw [e1, hl]; exact hp3), e1, ep]
  · have : gt (sortL zs) j ≤ gt (sortL zs) p := asc_gt (sortL_asc zs) (by omega) (by omega)
    omega

set_option maxHeartbeats 1000000 in
theorem impl_WidthsFor (v : Value) (zs : List Int) (e : Int) (w : World) (h : RdI w v zs) (hl : zs.length ≤ 1048576) (_ : I64 e) :
    Calls Try.prog 28 #[v, .int .i64 e] w fun en w' => ∃ u, en = .returned u ∧ OwI w' w.heap.size u (widthsL zs e) ∧ Nx w w' := by
  have hv := h
  obtain ⟨A, c, rfl, hx⟩ := h
  clear hx
  by_cases h1 : zs.length ≤ 30
  · cases h2 : allW 1 200 zs with
    | false =>
      have hf := hide (show widthsL zs e = [] from by simp [widthsL, okC, h2])
      go_enter Try.func28, Try.ntmps28
      go_wp2_with (first | (go_at_call 38; refine (within_any _ _ _ _).mono ?_; rintro e w' ⟨rfl, rfl⟩) | (go_at_call 37; refine (allWithin_any _ _ _ _ _ hv hl).mono ?_; rintro e w' ⟨rfl, rfl⟩))
      go_ret
      exact ⟨_, rfl, by rw [hf.out]; exact OwI.nil _ _, Below.refl _ _⟩
    | true =>
      cases h3 : inR e 0 50 with
      | false =>
        have hf := hide (show widthsL zs e = [] from by simp [widthsL, okC, h3])
        go_enter Try.func28, Try.ntmps28
        go_wp2_with (first | (go_at_call 38; refine (within_any _ _ _ _).mono ?_; rintro e w' ⟨rfl, rfl⟩) | (go_at_call 37; refine (allWithin_any _ _ _ _ _ hv hl).mono ?_; rintro e w' ⟨rfl, rfl⟩))
        go_ret
        exact ⟨_, rfl, by rw [hf.out]; exact OwI.nil _ _, Below.refl _ _⟩
      | true =>
        have hf := hide (show widthsL zs e = (wTo (sortL zs) e zs.length).1 from by simp [widthsL, okC, h1, h2, h3])
        have be := inR_iff.1 h3
        have ba := hide (fun k (hk : k < (sortL zs).length) => perm_bd (sortL_perm zs) h2 hk)
        have hsl := hide (sortL_length zs)
        go_enter Try.func28, Try.ntmps28
        go_wp2_with (first | (go_at_call 38; refine (within_any _ _ _ _).mono ?_; rintro e w' ⟨rfl, rfl⟩) | (go_at_call 37; refine (allWithin_any _ _ _ _ _ hv hl).mono ?_; rintro e w' ⟨rfl, rfl⟩) | (go_at_call 40; fail))
        refine (sorted_any _ _ _ (hv.below (Nx.made _ _)) hl).mono ?_
        rintro en w1 ⟨u, rfl, hown, hb1⟩
        have ho0 : OwI w1 w.heap.size (.slice (some ⟨w.heap.size, 0, none⟩) 0 0) [] := (OwI.made0 w).below hb1
        have hb0 : Nx w w1 := (Nx.made w _).trans hb1
        clear h2 h3 hv
        generalize sortL zs = a at *
        have ha30 : a.length ≤ 30 := by have := hsl.out; omega
        have hgb : ∀ g, u.ownBlock = some g → w.heap.size + 1 ≤ g ∧ g < w1.heap.size := fun g hg => by have := own_lt hown hg; simpa using this
        have hrd := hown.reads
        have hne0 : ∀ g, u.ownBlock = some g → (Value.slice (some ⟨w.heap.size, 0, none⟩) 0 0).ownBlock ≠ some g := fun g hg he => by
          have := hgb g hg; simp [Value.ownBlock] at he; omega
        have hkeep0 := hide hown
        obtain ⟨A2, c2, rfl, hx2⟩ := hrd
        have Hg := hide hgb
        clear hown hb1 hx2 hgb
        go_wp2_with fail
        go_loopw [5, 25] (fun o i wr => ∃ k : Nat, k ≤ a.length ∧ i = .int .i64 k ∧ OwI wr w.heap.size o (wTo a e k).1 ∧ Nx w wr ∧ Hid (OwI wr (w.alloc (.cells #[] 3)).heap.size (.slice A2 a.length c2) a) ∧ Hid (∀ g, (Value.slice A2 a.length c2).ownBlock = some g → o.ownBlock ≠ some g)) (fun _ i _ => a.length - (intOf i).toNat)
        case atStart => exact ⟨0, by omega, rfl, ho0, hb0, hkeep0, hne0⟩
        case round =>
          clear ho0 hb0 hkeep0 hne0
          obtain ⟨k, hk, rfl, hown, hb, hkp, hne⟩ := hrel
          have hsz := hb.size
          have hwl := wTo_len a e k
          by_cases hlt : k < a.length
          · have hrk := hkp.out.reads
            obtain ⟨A3, c3, e3, hx3⟩ := hrk
            injection e3 with e4 e5 e6
            subst e4
            clear e5 e6
            obtain ⟨b3, off3, rfl, _, hc3⟩ := hx3 (by omega)
            have hck := hc3 k hlt
            have bk := ba.out k hlt
            have bw := wTo_bd (a := a) be hk ba.out
            have hlast := wTo_last a e k
            have Hy := hide (fun h => wTo_yes (a := a) (e := e) (k := k) h)
            have Hn := hide (fun h => congrArg Prod.fst (wTo_no (a := a) (e := e) (k := k) h))
            clear hx3 hc3
            have hro := hown.reads
            obtain ⟨A5, c5, rfl, hx5⟩ := hro
            generalize (wTo a e k).1 = L at *
            generalize (wTo a e k).2 = l at *
            rcases hlast with ⟨hl0, hl1⟩ | ⟨hl0, hl1⟩
            · have hstep := hide (Hy.out (by omega))
              have d0 : ((L.length : Int) == 0) = true := by simp; exact List.eq_nil_of_length_eq_zero hl0
              have d1 : L.isEmpty = true := by simp; exact List.eq_nil_of_length_eq_zero hl0
              clear hl0 hl1 hx5
              go_wp2_with (at_builtin; refine wpList_push rfl (.tmp 42) (.tmp 46) rfl wr w.heap.size _ L (gt a k + e) rfl rfl hown (by omega) hsz ?_; intro v1 w2 hown1 hg1 hat1; have hb1 := hb.pushed hown (Nat.le_refl _) hg1)
              go_roundw
              case rel => exact ⟨k + 1, by omega, by go_num, by rw [hstep.out]; exact hown1, hb1, hkp.out.kept hg1 (by
                cases hob : (Value.slice (some ⟨b3, off3, none⟩) a.length c2).ownBlock with
                | none => exact .inl rfl
                | some g => exact .inr fun he => hne.out g hob he.symm), fun g hg he => by
                rcases hat1 with e1 | e1
                · rw [e1] at he; exact hne.out g hg he
                · rw [e1] at he
                  have := (own_lt hkp.out hg).2
                  injection he with he
                  omega⟩
              case measure => simp [intOf]; omega
            · have d0 : ((L.length : Int) == 0) = false := by simp; intro h; rw [h] at hl0; simp at hl0
              have d1 : L.isEmpty = false := by cases L with
                | nil => simp at hl0
                | cons _ _ => rfl
              obtain ⟨b5, off5, rfl, _, hc5⟩ := hx5 hl0
              have hcl := hc5 (L.length - 1) (by omega)
              rw [hl1] at hcl
              have hidx : ((L.length : Int) - 1).toNat = L.length - 1 := by omega
              clear hl1 hc5
              by_cases hgt : l < gt a k
              · have hstep := hide (Hy.out hgt)
                go_wp2_with (at_builtin; refine wpList_push rfl (.tmp 42) (.tmp 46) rfl wr w.heap.size _ L (gt a k + e) rfl rfl hown (by omega) hsz ?_; intro v1 w2 hown1 hg1 hat1; have hb1 := hb.pushed hown (Nat.le_refl _) hg1)
                go_roundw
                case rel => exact ⟨k + 1, by omega, by go_num, by rw [hstep.out]; exact hown1, hb1, hkp.out.kept hg1 (by
                  cases hob : (Value.slice (some ⟨b3, off3, none⟩) a.length c2).ownBlock with
                  | none => exact .inl rfl
                  | some g => exact .inr fun he => hne.out g hob he.symm), fun g hg he => by
                  rcases hat1 with e1 | e1
                  · rw [e1] at he; exact hne.out g hg he
                  · rw [e1] at he
                    have := (own_lt hkp.out hg).2
                    injection he with he
                    omega⟩
                case measure => simp [intOf]; omega
              · have hstep := hide (Hn.out hgt)
                go_wp2_with fail
                go_roundw
                case rel => exact ⟨k + 1, by omega, by go_num, by rw [hstep.out]; exact hown, hb, hkp, hne⟩
                case measure => simp [intOf]; omega
          · obtain rfl : k = a.length := by omega
            have hown' := hide hown
            clear hown
            go_wp2_with fail
            go_ret
            exact ⟨_, rfl, by rw [hf.out, ← hsl.out]; exact hown'.out, hb⟩
  · have hf := hide (show widthsL zs e = [] from by simp [widthsL, okC, h1])
    go_enter Try.func28, Try.ntmps28
    go_wp2_with (first | (go_at_call 38; refine (within_any _ _ _ _).mono ?_; rintro e w' ⟨rfl, rfl⟩) | (go_at_call 37; refine (allWithin_any _ _ _ _ _ hv hl).mono ?_; rintro e w' ⟨rfl, rfl⟩))
    go_ret
    exact ⟨_, rfl, by rw [hf.out]; exact OwI.nil _ _, Below.refl _ _⟩

end Go.Proofs.Ytmleamknongknaa
