/- BestTour: the plain law. -/
import Derived.Test.YtemijekdcifncaaNearI
import Derived.Test.YtemijekdcifncaaTourI
import Derived.Test.YtemijekdcifncaaShI
import Derived.Test.YtemijekdcifncaaCp
import Derived.WalkKit
import Derived.ProofKit
import Derived.Handy
import Derived.OpenShut
import Derived.ShutString
import Derived.ChangeOld
import Derived.Below
import Derived.BigQuiet
import Derived.Deep.QuietTactic
import Derived.Deep.Draws
import Derived.Deep.DeepCutAuto
import Derived.Deep.DeepFit
import Derived.Deep.LoopGhost
import Derived.Outline
import Derived.WalkSpells
import Derived.WalkLawsBesides
import Derived.WalkSmall
import Derived.Laws.OwnMore
import Derived.OneCell
import Derived.Laws.Rows
import Derived.Maps.AppendAt
import Derived.StillTailTactics
import Derived.Lib.SmallJoins
import Derived.Deep.RegionWith
import Derived.Deep.RegionHeld3
import Derived.RegionTactic
import Derived.Deep.Matrix
import Derived.Deep.Fields
import Derived.ChangeSame
namespace Go.Proofs.Ytemijekdcifncaa
open Go.RowKit

/-- A block that is known whole. -/
def Blk (w : World) (g : Nat) (t : TypeId) (cs : Array Value) : Prop := w.heap[g]? = some (.cells cs t (0, 0))
theorem Blk.lt {w : World} {g : Nat} {t : TypeId} {cs : Array Value} (h : Blk w g t cs) : g < w.heap.size := lt_of_block h
theorem Blk.cell {w : World} {g : Nat} {t : TypeId} {cs : Array Value} (h : Blk w g t cs) (i : Nat) : w.cell? ⟨g, i, none⟩ = cs[i]? := cell_of_row w g i cs t (0, 0) h
theorem Blk.frozen {w : World} {g : Nat} {t : TypeId} {cs : Array Value} (h : Blk w g t cs) (i : Nat) : w.frozen? ⟨g, i, none⟩ = false := by
  unfold Blk at h
  simp [World.frozen?, h]
theorem Blk.new (w : World) (t : TypeId) (cs : Array Value) : Blk (w.alloc (.cells cs t)) w.heap.size t cs := heap_alloc_new w _
theorem Blk.drew {w : World} {g : Nat} {t : TypeId} {cs : Array Value} (h : Blk w g t cs) : Blk w.drew g t cs := h
theorem Blk.drewN {w : World} {g : Nat} {t : TypeId} {cs : Array Value} (h : Blk w g t cs) (n : Nat) : Blk (w.drewN n) g t cs := h
theorem Blk.alloc {w : World} {g : Nat} {t : TypeId} {cs : Array Value} (h : Blk w g t cs) (o : Obj) : Blk (w.alloc o) g t cs := (Below.heap_alloc w o g h.lt).trans h
theorem Blk.set_ {w : World} {g : Nat} {t : TypeId} {cs : Array Value} (h : Blk w g t cs) (i : Nat) (u : Value) : Blk (w.setCell ⟨g, i, none⟩ u) g t (cs.setIfInBounds i u) := by
  unfold Blk at h ⊢
  simp [World.setCell, Array.getElem?_modify, h]
theorem Blk.far {w : World} {g : Nat} {t : TypeId} {cs : Array Value} (h : Blk w g t cs) {p : Addr} (hp : g ≠ p.block) (u : Value) : Blk (w.setCell p u) g t cs := (Below.heap_setCell w p u g hp).trans h
theorem Blk.below {w w' : World} {g : Nat} {t : TypeId} {cs : Array Value} (h : Blk w g t cs) (hb : Nx w w') : Blk w' g t cs := (hb.block g h.lt).trans h
theorem Blk.grown {w w' : World} {g : Nat} {t : TypeId} {cs : Array Value} {row : Option Nat} (h : Blk w g t cs) (hb : w.grownBy w' row) (hg : some g ≠ row) : Blk w' g t cs := (hb.block g h.lt hg).trans h

/-- the better one of what was found and a new tour. -/
def combB (st : Option (List Int × Int)) (r : List Int × Int) : Option (List Int × Int) :=
  match st with
  | none => some r
  | some p => if r.2 < p.2 then some r else some p
/-- the best of the towns 1 .. t that are not in the list, and of what was found before. -/
def foldB (S : Nat → List Int × Int) (head : List Int) (st : Option (List Int × Int)) : Nat → Option (List Int × Int)
  | 0 => st
  | t + 1 => if ((t + 1 : Nat) : Int) ∈ head then foldB S head st t else combB (foldB S head st t) (S (t + 1))
theorem foldB_skip {S : Nat → List Int × Int} {head : List Int} {st : Option (List Int × Int)} {t : Nat} (h : ((t + 1 : Nat) : Int) ∈ head) : foldB S head st (t + 1) = foldB S head st t := by rw [foldB, if_pos h]
theorem foldB_take {S : Nat → List Int × Int} {head : List Int} {st : Option (List Int × Int)} {t : Nat} (h : ¬ ((t + 1 : Nat) : Int) ∈ head) : foldB S head st (t + 1) = combB (foldB S head st t) (S (t + 1)) := by rw [foldB, if_neg h]
/-- the length of a tour. -/
def lenT (rows : List (List Int)) (T : List Int) : Int := wayTo rows T T.length + g2 rows (atTo T T.length) 0
/-- the best tour that begins so, and its length. -/
def srch (rows : List (List Int)) : Nat → List Int → List Int × Int
  | 0, head => (head, lenT rows head)
  | f + 1, head => (foldB (fun k => srch rows f (head ++ [(k : Int)])) head none (rows.length - 1)).getD ([], -1)
/-- the better one of two. -/
def combO (st : Option (List Int × Int)) (r : Option (List Int × Int)) : Option (List Int × Int) :=
  match r with
  | none => st
  | some p => combB st p
theorem combB_assoc (st : Option (List Int × Int)) (p r : List Int × Int) : combB (combB st p) r = combO st (combB (some p) r) := by
  cases st with
  | none => by_cases h : r.2 < p.2 <;> simp [combB, combO, h]
  | some q =>
    by_cases h1 : p.2 < q.2 <;> by_cases h2 : r.2 < p.2 <;> by_cases h3 : r.2 < q.2 <;> simp [combB, combO, h1, h2, h3] <;> omega
theorem foldB_from (S : Nat → List Int × Int) (head : List Int) (st : Option (List Int × Int)) (t : Nat) : foldB S head st t = combO st (foldB S head none t) := by
  induction t with
  | zero => rfl
  | succ t ih =>
    by_cases h : ((t + 1 : Nat) : Int) ∈ head
    · rw [foldB_skip h, foldB_skip h, ih]
    · rw [foldB_take h, foldB_take h, ih]
      cases foldB S head none t with
      | none => rfl
      | some p => exact combB_assoc st p _
theorem foldB_is {S : Nat → List Int × Int} {head : List Int} {t : Nat} :
    (foldB S head none t = none ∧ ∀ k, 1 ≤ k → k ≤ t → ((k : Nat) : Int) ∈ head) ∨
    ∃ r, foldB S head none t = some r ∧ (∃ k, 1 ≤ k ∧ k ≤ t ∧ ¬ ((k : Nat) : Int) ∈ head ∧ r = S k) ∧ ∀ k, 1 ≤ k → k ≤ t → ¬ ((k : Nat) : Int) ∈ head → r.2 ≤ (S k).2 := by
  induction t with
  | zero => exact .inl ⟨rfl, fun k h1 h2 => by omega⟩
  | succ t ih =>
    by_cases h : ((t + 1 : Nat) : Int) ∈ head
    · rw [foldB_skip h]
      rcases ih with ⟨e, hall⟩ | ⟨r, e, ⟨k, h1, h2, h3, h4⟩, hall⟩
      · refine .inl ⟨e, fun k h1 h2 => ?_⟩
        rcases Nat.lt_or_ge k (t + 1) with hk | hk
        · exact hall k h1 (by omega)
        · obtain rfl : k = t + 1 := by omega
          exact h
      · refine .inr ⟨r, e, ⟨k, h1, by omega, h3, h4⟩, fun k h1 h2 h3 => ?_⟩
        rcases Nat.lt_or_ge k (t + 1) with hk | hk
        · exact hall k h1 (by omega) h3
        · obtain rfl : k = t + 1 := by omega
          exact absurd h h3
    · rw [foldB_take h]
      rcases ih with ⟨e, hall⟩ | ⟨r, e, ⟨k, h1, h2, h3, h4⟩, hall⟩
      · rw [e]
        refine .inr ⟨_, rfl, ⟨t + 1, by omega, Nat.le_refl _, h, rfl⟩, fun k h1 h2 h3 => ?_⟩
        rcases Nat.lt_or_ge k (t + 1) with hk | hk
        · exact absurd (hall k h1 (by omega)) h3
        · obtain rfl : k = t + 1 := by omega
          exact Int.le_refl _
      · rw [e]
        by_cases hl : (S (t + 1)).2 < r.2
        · refine .inr ⟨S (t + 1), by simp only [combB]; rw [if_pos hl], ⟨t + 1, by omega, Nat.le_refl _, h, rfl⟩, fun k h1 h2 h3 => ?_⟩
          rcases Nat.lt_or_ge k (t + 1) with hk | hk
          · have := hall k h1 (by omega) h3; omega
          · obtain rfl : k = t + 1 := by omega
            exact Int.le_refl _
        · refine .inr ⟨r, by simp only [combB]; rw [if_neg hl], ⟨k, h1, by omega, h3, h4⟩, fun k h1 h2 h3 => ?_⟩
          rcases Nat.lt_or_ge k (t + 1) with hk | hk
          · exact hall k h1 (by omega) h3
          · obtain rfl : k = t + 1 := by omega
            omega
/-- a tour of n towns; the beginning of one. -/
def HeadT (n : Nat) (T : List Int) : Prop := (∀ x ∈ T, 1 ≤ x ∧ x ≤ (n : Int) - 1) ∧ T.Nodup
def TourT (n : Nat) (T : List Int) : Prop := T.length = n - 1 ∧ HeadT n T
theorem distL_nodup {zs : List Int} : distL zs = true ↔ zs.Nodup := distL_pair
theorem allW_all {a b : Int} {zs : List Int} : allW a b zs = true ↔ ∀ x ∈ zs, a ≤ x ∧ x ≤ b := by
  simp only [allW, List.all_eq_true, inR_iff]
theorem tourOk_T {n : Nat} {T : List Int} : tourOk n T = true ↔ TourT n T := by
  simp only [tourOk, TourT, HeadT, Bool.and_eq_true, decide_eq_true_eq, allW_all, distL_nodup]
theorem HeadT.snoc {n : Nat} {head : List Int} (h : HeadT n head) {k : Nat} (h1 : 1 ≤ k) (h2 : k ≤ n - 1) (h3 : ¬ ((k : Nat) : Int) ∈ head) : HeadT n (head ++ [(k : Int)]) := by
  refine ⟨fun x hx => ?_, ?_⟩
  · rcases List.mem_append.1 hx with hx | hx
    · exact h.1 x hx
    · simp at hx; omega
  · rw [List.nodup_append]
    refine ⟨h.2, by simp, fun a ha b hb => ?_⟩
    simp at hb
    subst hb
    exact fun e => h3 (e ▸ ha)
theorem HeadT.len {n : Nat} {head : List Int} (h : HeadT n head) : head.length ≤ n - 1 := by
  have := sub_length h.2 (ys := (List.range (n - 1)).map fun (i : Nat) => ((i + 1 : Nat) : Int)) (fun x hx => by
    have := h.1 x hx
    exact List.mem_map.2 ⟨(x - 1).toNat, List.mem_range.2 (by omega), by omega⟩)
  simpa using this
/-- what the search finds. -/
theorem srch_ok {rows : List (List Int)} : ∀ (f : Nat) (head : List Int), HeadT rows.length head → head.length + f = rows.length - 1 →
    TourT rows.length (srch rows f head).1 ∧ (srch rows f head).2 = lenT rows (srch rows f head).1 ∧ ∀ T, TourT rows.length T → head <+: T → (srch rows f head).2 ≤ lenT rows T := by
  intro f
  induction f with
  | zero =>
    intro head hh hl
    refine ⟨⟨by simpa [srch] using hl, hh⟩, rfl, fun T hT hp => ?_⟩
    have : head = T := hp.eq_of_length (by rw [hT.1]; simpa using hl)
    subst this
    exact Int.le_refl _
  | succ f ih =>
    intro head hh hl
    rcases foldB_is (S := fun k => srch rows f (head ++ [(k : Int)])) (head := head) (t := rows.length - 1) with ⟨_, hall⟩ | ⟨r, e, ⟨k, h1, h2, h3, h4⟩, hall⟩
    · obtain ⟨k, h1, h2, h3⟩ := some_free (out := head) (m := rows.length - 1) (by omega)
      exact absurd (hall k h1 h2) h3
    · have es : srch rows (f + 1) head = r := by rw [srch, e]; rfl
      rw [es]
      have hk := ih _ (hh.snoc h1 h2 h3) (by simp; omega)
      have h4' : r = srch rows f (head ++ [(k : Int)]) := h4
      rw [← h4'] at hk
      refine ⟨hk.1, hk.2.1, fun T hT hp => ?_⟩
      obtain ⟨S, rfl⟩ := hp
      have hS : S ≠ [] := by
        rintro rfl
        have := hT.1
        simp at this
        omega
      obtain ⟨x, S', rfl⟩ := List.exists_cons_of_ne_nil hS
      have hx := hT.2.1 x (by simp)
      have hn := hT.2.2
      rw [List.nodup_append] at hn
      have hxn : ¬ x ∈ head := fun hm => hn.2.2 x hm x (by simp) rfl
      obtain ⟨q, rfl⟩ := Int.eq_ofNat_of_zero_le (show 0 ≤ x by omega)
      have hq := ih _ (hh.snoc (k := q) (by omega) (by omega) hxn) (by simp; omega)
      have h5 : r.2 ≤ (srch rows f (head ++ [(q : Int)])).2 := hall q (by omega) (by omega) hxn
      have h6 := hq.2.2 (head ++ (q : Int) :: S') hT ⟨S', by simp⟩
      omega
/-- what the program's own search keeps. -/
theorem srch_fold {rows : List (List Int)} {f : Nat} {head : List Int} {st : Option (List Int × Int)} (hl : head.length + (f + 1) = rows.length - 1) :
    foldB (fun k => srch rows f (head ++ [(k : Int)])) head st (rows.length - 1) = combB st (srch rows (f + 1) head) := by
  rw [foldB_from]
  rcases foldB_is (S := fun k => srch rows f (head ++ [(k : Int)])) (head := head) (t := rows.length - 1) with ⟨_, hall⟩ | ⟨r, e, _⟩
  · obtain ⟨k, h1, h2, h3⟩ := some_free (out := head) (m := rows.length - 1) (by omega)
    exact absurd (hall k h1 h2) h3
  · rw [srch, e]; rfl
/-- the shortest tour. -/
def bestTour (rows : List (List Int)) : List Int := if mapOk rows then (srch rows (rows.length - 1) []).1 else []
theorem headT_nil (n : Nat) : HeadT n [] := ⟨fun x hx => by simp at hx, List.nodup_nil⟩
theorem best_ok {rows : List (List Int)} (h : mapOk rows = true) : TourT rows.length (bestTour rows) ∧ ∀ T, TourT rows.length T → lenT rows (bestTour rows) ≤ lenT rows T := by
  have := srch_ok (rows := rows) (rows.length - 1) [] (headT_nil _) (by simp)
  have e : bestTour rows = (srch rows (rows.length - 1) []).1 := by unfold bestTour; rw [if_pos h]
  rw [e]
  refine ⟨this.1, fun T hT => ?_⟩
  rw [← this.2.1]
  exact this.2.2 T hT (List.nil_prefix)
theorem tourLen_T {rows : List (List Int)} (h : mapOk rows = true) {T : List Int} (hT : TourT rows.length T) : tourLen rows T = lenT rows T := by
  unfold tourLen lenT
  rw [h, tourOk_T.2 hT]
  rfl
/-- sums over the first n. -/
def smF (f : Nat → Int) : Nat → Int
  | 0 => 0
  | n + 1 => smF f n + f n
theorem smF_congr {f g : Nat → Int} {n : Nat} (h : ∀ i, i < n → f i = g i) : smF f n = smF g n := by
  induction n with
  | zero => rfl
  | succ n ih => simp only [smF]; rw [ih fun i hi => h i (by omega), h n (by omega)]
theorem smF_head (f : Nat → Int) (n : Nat) : smF f (n + 1) = f 0 + smF (fun i => f (i + 1)) n := by
  induction n with
  | zero => simp [smF]
  | succ n ih => rw [smF, ih]; simp only [smF]; omega
theorem smF_rev (f : Nat → Int) (n : Nat) : smF (fun i => f (n - 1 - i)) n = smF f n := by
  induction n generalizing f with
  | zero => rfl
  | succ n ih =>
    rw [smF_head, smF, Nat.add_sub_cancel, Nat.sub_zero]
    rw [smF_congr (g := fun i => f (n - 1 - i)) fun i hi => by
      show f (n - (i + 1)) = f (n - 1 - i)
      rw [show n - (i + 1) = n - 1 - i from by omega], ih]
    omega
/-- the towns of a tour in turn, home at both ends. -/
def nodeT (T : List Int) (i : Nat) : Nat := if i ≤ T.length then atTo T i else 0
theorem lenT_smF (rows : List (List Int)) (T : List Int) : lenT rows T = smF (fun i => g2 rows (nodeT T i) (nodeT T (i + 1))) (T.length + 1) := by
  have key : ∀ k, k ≤ T.length → wayTo rows T k = smF (fun i => g2 rows (nodeT T i) (nodeT T (i + 1))) k := by
    intro k
    induction k with
    | zero => intro _; rfl
    | succ k ih =>
      intro hk
      simp only [wayTo, smF]
      rw [ih (by omega)]
      unfold nodeT
      rw [if_pos (by omega), if_pos (by omega)]
      rfl
  rw [smF, ← key _ (Nat.le_refl _)]
  unfold lenT nodeT
  rw [if_pos (Nat.le_refl _), if_neg (by omega)]
theorem nodeT_rev (T : List Int) {i : Nat} (hi : i ≤ T.length + 1) : nodeT T.reverse i = nodeT T (T.length + 1 - i) := by
  unfold nodeT
  rw [List.length_reverse]
  rcases Nat.eq_zero_or_pos i with h0 | h0
  · subst h0
    rw [if_pos (by omega), if_neg (by omega)]; rfl
  · by_cases hm : i = T.length + 1
    · subst hm
      rw [if_neg (by omega), Nat.sub_self, if_pos (by omega)]; rfl
    · rw [if_pos (by omega), if_pos (by omega)]
      obtain ⟨j, rfl⟩ : ∃ j, i = j + 1 := ⟨i - 1, by omega⟩
      rw [show T.length + 1 - (j + 1) = (T.length - 1 - j) + 1 from by omega]
      simp only [atTo]
      rw [gt_reverse (by omega)]
theorem nodeT_lt {n : Nat} {T : List Int} (hn : 0 < n) (h : HeadT n T) (i : Nat) : nodeT T i < n := by
  unfold nodeT
  split
  · cases i with
    | zero => exact hn
    | succ i =>
      have := h.1 _ (gt_mem (zs := T) (k := i) (by omega))
      simp only [atTo]
      omega
  · exact hn
theorem lenT_rev {rows : List (List Int)} (h : MapP rows) {T : List Int} (hT : HeadT rows.length T) : lenT rows T.reverse = lenT rows T := by
  have hn := mapP_len h
  rw [lenT_smF, lenT_smF, List.length_reverse]
  rw [← smF_rev]
  refine smF_congr fun i hi => ?_
  simp only [Nat.add_sub_cancel]
  rw [nodeT_rev T (by omega), nodeT_rev T (by omega)]
  rw [show T.length + 1 - (T.length - i) = i + 1 from by omega, show T.length + 1 - (T.length - i + 1) = i from by omega]
  exact (h.2.2 _ _ (nodeT_lt (by omega) hT _) (nodeT_lt (by omega) hT _)).2.1
theorem lenT_tri {rows : List (List Int)} (h : MapP rows) (ht : ∀ i j k, i < rows.length → j < rows.length → k < rows.length → g2 rows i k ≤ g2 rows i j + g2 rows j k)
    {T : List Int} (hT : HeadT rows.length T) {k : Nat} (hk : (k : Int) ∈ T) : 2 * g2 rows 0 k ≤ lenT rows T := by
  have hn := mapP_len h
  have hlt := nodeT_lt (n := rows.length) (by omega) hT
  have hzero : g2 rows 0 0 = 0 := (h.2.2 0 0 (by omega) (by omega)).2.2 rfl
  have up : ∀ i, i ≤ T.length + 1 → g2 rows 0 (nodeT T i) ≤ smF (fun i => g2 rows (nodeT T i) (nodeT T (i + 1))) i := by
    intro i
    induction i with
    | zero => intro _; show g2 rows 0 0 ≤ 0; omega
    | succ i ih =>
      intro hi
      have := ih (by omega)
      have := ht 0 (nodeT T i) (nodeT T (i + 1)) (by omega) (hlt _) (hlt _)
      simp only [smF]
      omega
  have down : ∀ d i, i + d = T.length + 1 → g2 rows (nodeT T i) 0 + smF (fun i => g2 rows (nodeT T i) (nodeT T (i + 1))) i ≤ lenT rows T := by
    intro d
    induction d with
    | zero =>
      intro i hi
      obtain rfl : i = T.length + 1 := by omega
      rw [lenT_smF]
      have : nodeT T (T.length + 1) = 0 := by unfold nodeT; rw [if_neg (by omega)]
      rw [this]; omega
    | succ d ih =>
      intro i hi
      have h1 := ih (i + 1) (by omega)
      have h2 := ht (nodeT T i) (nodeT T (i + 1)) 0 (hlt _) (hlt _) (by omega)
      simp only [smF] at h1
      omega
  obtain ⟨j, hj, e⟩ := mem_gt.1 hk
  have hnode : nodeT T (j + 1) = k := by
    unfold nodeT
    rw [if_pos (by omega)]
    simp only [atTo]
    omega
  have h1 := up (j + 1) (by omega)
  have h2 := down (T.length - j) (j + 1) (by omega)
  rw [hnode] at h1 h2
  have hkl := hlt (j + 1)
  rw [hnode] at hkl
  have h3 := (h.2.2 0 k (by omega) hkl).2.1
  omega
theorem lenT_bd {rows : List (List Int)} (h : MapP rows) {T : List Int} (hT : HeadT rows.length T) : 0 ≤ lenT rows T ∧ lenT rows T ≤ 1000 * (T.length + 1) := by
  have hn := mapP_len h
  have hlt := nodeT_lt (n := rows.length) (by omega) hT
  rw [lenT_smF]
  have key : ∀ k, 0 ≤ smF (fun i => g2 rows (nodeT T i) (nodeT T (i + 1))) k ∧ smF (fun i => g2 rows (nodeT T i) (nodeT T (i + 1))) k ≤ 1000 * k := by
    intro k
    induction k with
    | zero => simp [smF]
    | succ k ih =>
      have := mapP_bd h (nodeT T k) (nodeT T (k + 1)) (hlt _) (hlt _)
      simp only [smF]
      omega
  have := key (T.length + 1)
  omega
/-- two neighbours change places. -/
def swapL (T : List Int) (i : Nat) : List Int := (T.set i (gt T (i + 1))).set (i + 1) (gt T i)
theorem swapL_tour {n : Nat} {T : List Int} (h : TourT n T) {i : Nat} (hi : i + 1 < T.length) : TourT n (swapL T i) := by
  have hlen : (swapL T i).length = T.length := by simp [swapL]
  have hg : ∀ j, j < T.length → gt (swapL T i) j = gt T (if j = i then i + 1 else if j = i + 1 then i else j) := by
    intro j hj
    unfold swapL
    by_cases e1 : j = i + 1
    · subst e1
      rw [gt_set_same (by simpa using hi), if_neg (by omega), if_pos rfl]
    · rw [gt_set_other e1]
      by_cases e2 : j = i
      · subst e2; rw [gt_set_same (by omega), if_pos rfl]
      · rw [gt_set_other e2, if_neg e2, if_neg e1]
  have hd := distL_iff.1 (distL_nodup.2 h.2.2)
  have hne : ∀ a b, a < T.length → b < T.length → a ≠ b → gt T a ≠ gt T b := by
    intro a b ha hb hab
    rcases Nat.lt_or_ge a b with h | h
    · exact hd a b h hb
    · exact fun e => hd b a (by omega) ha e.symm
  refine ⟨by rw [hlen]; exact h.1, fun x hx => ?_, distL_nodup.1 (distL_iff.2 fun a b hab hb => ?_)⟩
  · obtain ⟨j, hj, rfl⟩ := mem_gt.1 hx
    rw [hlen] at hj
    rw [hg j hj]
    exact h.2.1 _ (gt_mem (by split; omega; split <;> omega))
  · rw [hlen] at hb
    rw [hg a (by omega), hg b hb]
    refine hne _ _ ?_ ?_ ?_
    · split; omega; split <;> omega
    · split; omega; split <;> omega
    · split <;> split <;> (try split) <;> (try split) <;> omega
theorem nbTo_min {d : Nat → Nat → Int} {out : List Int} {now t b : Nat} (h : nbTo d out now t = some b) : ∀ k, 1 ≤ k → k ≤ t → ¬ (k : Int) ∈ out → d now b ≤ d now k := by
  induction t generalizing b with
  | zero => simp [nbTo] at h
  | succ t ih =>
    intro k h1 h2 h3
    by_cases hm : ((t + 1 : Nat) : Int) ∈ out
    · rw [nbTo_skip hm] at h
      rcases Nat.lt_or_ge k (t + 1) with hk | hk
      · exact ih h k h1 (by omega) h3
      · obtain rfl : k = t + 1 := by omega
        exact absurd hm h3
    · cases h4 : nbTo d out now t with
      | none =>
        rw [nbTo_first hm h4] at h; cases h
        rcases Nat.lt_or_ge k (t + 1) with hk | hk
        · exact absurd (nbTo_none h4 k h1 (by omega)) h3
        · obtain rfl : k = t + 1 := by omega
          exact Int.le_refl _
      | some c =>
        by_cases h5 : d now (t + 1) < d now c
        · rw [nbTo_take hm h4 h5] at h; cases h
          rcases Nat.lt_or_ge k (t + 1) with hk | hk
          · have := ih h4 k h1 (by omega) h3; omega
          · obtain rfl : k = t + 1 := by omega
            exact Int.le_refl _
        · rw [nbTo_leave hm h4 h5] at h; cases h
          rcases Nat.lt_or_ge k (t + 1) with hk | hk
          · exact ih h4 k h1 (by omega) h3
          · obtain rfl : k = t + 1 := by omega
            omega
theorem near_tour {rows : List (List Int)} (h : mapOk rows = true) : TourT rows.length (nearest rows) := by
  have hn := mapP_len (mapOk_iff.1 h)
  have e : nearest rows = (nearTo (g2 rows) rows.length (rows.length - 1)).1 := by unfold nearest; rw [if_pos h]
  rw [e]
  have key : ∀ j, j ≤ rows.length - 1 → HeadT rows.length (nearTo (g2 rows) rows.length j).1 := by
    intro j
    induction j with
    | zero => intro _; exact headT_nil _
    | succ j ih =>
      intro hj
      obtain ⟨b, hb, h1, h2, e1⟩ := nearTo_step (g2 rows) (n := rows.length) (by omega) (j := j) (by omega)
      rw [e1]
      exact (ih (by omega)).snoc h1 (by omega) (nbTo_lt hb).2.2
  exact ⟨(nearTo_ok (g2 rows) (by omega) (Nat.le_refl _)).1, key _ (Nat.le_refl _)⟩
theorem near_first {rows : List (List Int)} (h : mapOk rows = true) {k : Nat} (h1 : 1 ≤ k) (h2 : k < rows.length) : g2 rows 0 (gt (nearest rows) 0).toNat ≤ g2 rows 0 k := by
  have hn := mapP_len (mapOk_iff.1 h)
  have e : nearest rows = (nearTo (g2 rows) rows.length (rows.length - 1)).1 := by unfold nearest; rw [if_pos h]
  have hpre : ∀ j, 1 ≤ j → j ≤ rows.length - 1 → gt (nearTo (g2 rows) rows.length j).1 0 = gt (nearTo (g2 rows) rows.length 1).1 0 := by
    intro j
    induction j with
    | zero => intro h; omega
    | succ j ih =>
      intro _ hj
      rcases Nat.eq_zero_or_pos j with h0 | h0
      · subst h0; rfl
      · have hl := (nearTo_ok (g2 rows) (n := rows.length) (by omega) (j := j) (by omega)).1
        rw [← ih (by omega) (by omega)]
        simp only [nearTo]
        rw [gt_append_left (by omega)]
  obtain ⟨b, hb, hb1, hb2, e1⟩ := nearTo_step (g2 rows) (n := rows.length) (by omega) (j := 0) (by omega)
  rw [e, hpre _ (by omega) (Nat.le_refl _), e1]
  have : gt ((nearTo (g2 rows) rows.length 0).1 ++ [(b : Int)]) 0 = (b : Int) := rfl
  rw [this]
  have := nbTo_min hb k h1 (by omega) (by simp [nearTo])
  exact this
theorem rev_tour {n : Nat} {T : List Int} (h : TourT n T) : TourT n T.reverse :=
  ⟨by simpa using h.1, fun x hx => h.2.1 x (by simpa using hx), by
    have := h.2.2
    unfold List.Nodup at *
    rw [List.pairwise_reverse]
    exact this.imp fun h => Ne.symm h⟩
theorem noShort {rows : List (List Int)} (hm : mapOk rows = true) (h : hasShort rows = false) : ∀ i j k, i < rows.length → j < rows.length → k < rows.length → g2 rows i k ≤ g2 rows i j + g2 rows j k := by
  intro i j k hi hj hk
  rcases Int.lt_or_le (g2 rows i j + g2 rows j k) (g2 rows i k) with hc | hc
  · have := anyShort_true hi hj hk hc
    simp [hasShort, hm, this] at h
  · exact hc
/-- what the law asks of tours. -/
theorem tours_law {rows : List (List Int)} (h : mapOk rows = true) :
    0 ≤ tourLen rows (bestTour rows) ∧ tourLen rows (bestTour rows) ≤ tourLen rows (nearest rows) ∧ tourLen rows (bestTour rows).reverse = tourLen rows (bestTour rows) ∧
    (bestTour rows).length = rows.length - 1 ∧ (nearest rows).length = rows.length - 1 ∧ (∀ i, i + 1 < (bestTour rows).length → tourLen rows (bestTour rows) ≤ tourLen rows (swapL (bestTour rows) i)) ∧
    (hasShort rows = false → ∀ k, 1 ≤ k → k < rows.length → 2 * g2 rows 0 k ≤ tourLen rows (bestTour rows)) ∧ tourLen rows [] = -1 ∧
    tourLen rows (nearest rows) ≤ 100000 := by
  have hm := mapOk_iff.1 h
  have hn := mapP_len hm
  obtain ⟨hb, hmin⟩ := best_ok h
  have hnr := near_tour h
  have hbd := lenT_bd hm hb.2
  have hbd2 := lenT_bd hm hnr.2
  rw [tourLen_T h hb, tourLen_T h hnr, tourLen_T h (rev_tour hb)]
  refine ⟨hbd.1, hmin _ hnr, lenT_rev hm hb.2, hb.1, hnr.1, fun i hi => ?_, fun hs k h1 h2 => ?_, ?_, ?_⟩
  · rw [tourLen_T h (swapL_tour hb hi)]
    exact hmin _ (swapL_tour hb hi)
  · refine lenT_tri hm (noShort h hs) hb.2 ?_
    -- every town is in the tour
    refine Classical.byContradiction fun hk => ?_
    have := (hb.2.snoc (k := k) h1 (by omega) hk).len
    have := hb.1
    simp at *
    omega
  · unfold tourLen
    have : tourOk rows.length [] = false := by
      rw [Bool.eq_false_iff]
      intro ht
      have := (tourOk_T.1 ht).1
      simp at this
      omega
    rw [this]; simp
  · have := hnr.1
    omega

end Go.Proofs.Ytemijekdcifncaa
