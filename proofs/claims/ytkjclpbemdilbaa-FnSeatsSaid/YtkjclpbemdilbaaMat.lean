/- Rows of ints: how they read, how they are copied. -/
import Derived.Test.YtkjclpbemdilbaaHlp
import Derived.WalkKit
import Derived.ProofKit
import Derived.Handy
import Derived.OpenShut
import Derived.ShutString
import Derived.ChangeOld
import Derived.Below
import Derived.BigQuiet
import Derived.Deep.QuietTactic
import Derived.Deep.Draws
import Derived.Deep.DeepCutAuto
import Derived.Deep.DeepFit
import Derived.Deep.LoopGhost
import Derived.Outline
import Derived.WalkSpells
import Derived.WalkLawsBesides
import Derived.WalkSmall
import Derived.Laws.OwnMore
import Derived.OneCell
import Derived.Laws.Rows
import Derived.Maps.AppendAt
import Derived.StillTailTactics
import Derived.Lib.SmallJoins
import Derived.Deep.RegionWith
import Derived.Deep.RegionHeld3
import Derived.RegionTactic
import Derived.Deep.Matrix
import Derived.Deep.Fields
import Derived.ChangeSame
namespace Go.Proofs.Ytkjclpbemdilbaa
open Go.RowKit

/-- Row i of a list of rows, nothing outside. -/
def rowAt (rows : List (List Int)) (i : Nat) : List Int := rows.getD i []
theorem rowAt_getElem {rows : List (List Int)} {i : Nat} (h : i < rows.length) : rowAt rows i = rows[i] := by simp [rowAt, h]
theorem rowAt_mem {rows : List (List Int)} {i : Nat} (h : i < rows.length) : rowAt rows i ∈ rows := by rw [rowAt_getElem h]; exact List.getElem_mem h
theorem take_row {rows : List (List Int)} {k : Nat} (h : k < rows.length) : rows.take (k + 1) = rows.take k ++ [rowAt rows k] := by
  rw [rowAt_getElem h, List.take_succ_eq_append_getElem h]

/-- A slice value that reads as a list of rows of ints. -/
def RdM (w : World) (v : Value) (rows : List (List Int)) : Prop :=
  ∃ A c, v = .slice A rows.length c ∧ (0 < rows.length → ∃ b off, A = some ⟨b, off, none⟩ ∧ b < w.heap.size ∧ ∀ i, i < rows.length → ∃ A1 c1, w.cell? ⟨b, off + i, none⟩ = some (.slice A1 (rowAt rows i).length c1) ∧ RdI w (.slice A1 (rowAt rows i).length c1) (rowAt rows i))
theorem RdM.below {w w' : World} {v : Value} {rows : List (List Int)} (h : RdM w v rows) (hb : Nx w w') : RdM w' v rows := by
  obtain ⟨A, c, rfl, hx⟩ := h
  refine ⟨A, c, rfl, fun h0 => ?_⟩
  obtain ⟨b, off, rfl, hlt, hc⟩ := hx h0
  refine ⟨b, off, rfl, Nat.lt_of_lt_of_le hlt hb.size, fun i hi => ?_⟩
  obtain ⟨A1, c1, h1, h2⟩ := hc i hi
  exact ⟨A1, c1, (hb.cell (p := ⟨b, off + i, none⟩) hlt).trans h1, h2.below hb⟩

/-- how many numbers the first k rows hold. -/
def sumLen (rows : List (List Int)) : Nat → Nat
  | 0 => 0
  | k + 1 => sumLen rows k + (rowAt rows k).length
theorem sumLen_mono (rows : List (List Int)) {j k : Nat} (h : j ≤ k) : sumLen rows j ≤ sumLen rows k := by
  induction k with
  | zero => obtain rfl : j = 0 := by omega
            exact Nat.le_refl _
  | succ k ih =>
    rcases Nat.lt_or_ge j (k + 1) with h1 | h1
    · have := ih (by omega); simp only [sumLen]; omega
    · obtain rfl : j = k + 1 := by omega
      exact Nat.le_refl _
/-- rows that a law lets by. -/
def OkM (rows : List (List Int)) : Prop := rows.length ≤ 1048576 ∧ sumLen rows rows.length ≤ 1048576
theorem OkM.row {rows : List (List Int)} (h : OkM rows) {i : Nat} (hi : i < rows.length) : (rowAt rows i).length ≤ 1048576 := by
  have h1 := sumLen_mono rows (j := i + 1) (k := rows.length) (by omega)
  have h2 := h.2
  simp only [sumLen] at h1
  omega
/-- rows whose lengths are lengths. -/
def LenM (rows : List (List Int)) : Prop := rows.length ≤ maxLen ∧ ∀ i, i < rows.length → (rowAt rows i).length ≤ maxLen

/-- Value i of a list of slices. -/
def vAt (rs : List Value) (i : Nat) : Value := rs.getD i (.slice none 0 0)
/-- Two slices of the program's own that lie in different blocks. -/
def Apart (a b : Value) : Prop := ∀ g, a.ownBlock = some g → b.ownBlock ≠ some g
theorem Apart.symm {a b : Value} (h : Apart a b) : Apart b a := fun g hb ha => h g ha hb
theorem Apart.none_left (b : Value) : Apart (.slice none 0 0) b := fun g h => by simp [Value.ownBlock] at h
theorem Apart.ne {a b : Value} (h : Apart a b) : a.ownBlock = none ∨ a.ownBlock ≠ b.ownBlock := by
  cases e : a.ownBlock with
  | none => exact .inl rfl
  | some g => exact .inr fun h' => h g e h'.symm

theorem owns_below {w w' : World} {B : Nat} {e : TypeId} {size n : Nat} {v : Value} {xs : List Value} (h : w.ownsRow B e size v n xs) (hb : Nx w w') : w'.ownsRow B e size v n xs := by
  obtain ⟨h1, h2⟩ := h
  refine ⟨h1, ?_⟩
  rcases h2 with h2 | ⟨g, cap, cur, hv, hB, hg, h3⟩
  · exact .inl h2
  · exact .inr ⟨g, cap, cur, hv, hB, (hb.block g (lt_of_block hg)).trans hg, h3⟩

/-- Rows of the program's own: the outer slice and each row in blocks of their own. -/
def OwMN (w : World) (B : Nat) (v : Value) (n : Nat) (rows : List (List Int)) : Prop :=
  rows.length = n ∧ ∃ rs : List Value, w.ownsRow B 36 1 v n rs ∧ (∀ i, i < n → OwI w B (vAt rs i) (rowAt rows i)) ∧ (∀ i, i < n → Apart (vAt rs i) v) ∧ (∀ i j, i < j → j < n → Apart (vAt rs i) (vAt rs j))
def OwM (w : World) (B : Nat) (v : Value) (rows : List (List Int)) : Prop := OwMN w B v rows.length rows

theorem OwMN.toM {w : World} {B : Nat} {v : Value} {n : Nat} {rows : List (List Int)} (h : OwMN w B v n rows) : OwM w B v rows := by
  have := h.1; subst this; exact h
theorem OwMN.below {w w' : World} {B : Nat} {v : Value} {n : Nat} {rows : List (List Int)} (h : OwMN w B v n rows) (hb : Nx w w') : OwMN w' B v n rows := by
  obtain ⟨h0, rs, h1, h2, h3, h4⟩ := h
  exact ⟨h0, rs, owns_below h1 hb, fun i hi => (h2 i hi).below hb, h3, h4⟩
theorem OwM.below {w w' : World} {B : Nat} {v : Value} {rows : List (List Int)} (h : OwM w B v rows) (hb : Nx w w') : OwM w' B v rows := OwMN.below h hb
theorem owns_mono {w : World} {B B' : Nat} {e : TypeId} {size n : Nat} {v : Value} {xs : List Value} (h : w.ownsRow B e size v n xs) (hB : B' ≤ B) : w.ownsRow B' e size v n xs := by
  obtain ⟨h1, h2⟩ := h
  refine ⟨h1, ?_⟩
  rcases h2 with h2 | ⟨g, cap, cur, hv, hb, h3⟩
  · exact .inl h2
  · exact .inr ⟨g, cap, cur, hv, by omega, h3⟩
theorem OwM.mono {w : World} {B B' : Nat} {v : Value} {rows : List (List Int)} (h : OwM w B v rows) (hB : B' ≤ B) : OwM w B' v rows := by
  obtain ⟨h0, rs, h1, h2, h3, h4⟩ := h
  exact ⟨h0, rs, owns_mono h1 hB, fun i hi => (h2 i hi).mono hB, h3, h4⟩
theorem owns_form {w : World} {B : Nat} {e : TypeId} {n : Nat} {v : Value} {xs : List Value} (h : w.ownsRow B e 1 v n xs) :
    (v = .slice none 0 0 ∧ n = 0) ∨ ∃ g cap, v = .slice (some ⟨g, 0, none⟩) n cap ∧ B ≤ g ∧ g < w.heap.size ∧ n ≤ cap ∧ cap ≤ maxLen := by
  rcases h.2 with ⟨rfl, h0⟩ | ⟨g, cap, cur, rfl, hB, hg, h1, h2, _, _⟩
  · exact .inl ⟨rfl, h0⟩
  · exact .inr ⟨g, cap, rfl, hB, lt_of_block hg, h1, h2⟩
theorem vAt_some {rs : List Value} {i : Nat} (h : i < rs.length) : rs[i]? = some (vAt rs i) := by simp [vAt, h]
theorem OwM.reads {w : World} {B : Nat} {v : Value} {rows : List (List Int)} (h : OwM w B v rows) : RdM w v rows := by
  obtain ⟨h0, rs, h1, h2, h3, h4⟩ := h
  have hl : rs.length = rows.length := by have := h1.1; simpa using this
  rcases owns_form h1 with ⟨rfl, he⟩ | ⟨g, cap, rfl, hB, hg, _, _⟩
  · have hr : rows = [] := List.eq_nil_of_length_eq_zero he
    subst hr
    exact ⟨none, 0, rfl, fun h => absurd h (by simp)⟩
  · refine ⟨_, cap, rfl, fun _ => ⟨g, 0, rfl, hg, fun i hi => ?_⟩⟩
    have hr := (h2 i hi).reads
    obtain ⟨A1, c1, e1, hx⟩ := hr
    refine ⟨A1, c1, ?_, ⟨A1, c1, rfl, hx⟩⟩
    rw [Nat.zero_add, World.ownsRow.cellAt h1 i (by omega), vAt_some (by omega), e1]

theorem vAt_set_same {rs : List Value} {i : Nat} (h : i < rs.length) (r : Value) : vAt (rs.set i r) i = r := by simp [vAt, h]
theorem vAt_set_other {rs : List Value} {i j : Nat} (h : j ≠ i) (r : Value) : vAt (rs.set i r) j = vAt rs j := by simp [vAt, Ne.symm h]
theorem rowAt_set_same {rows : List (List Int)} {i : Nat} (h : i < rows.length) (zs : List Int) : rowAt (rows.set i zs) i = zs := by simp [rowAt, h]
theorem rowAt_set_other {rows : List (List Int)} {i j : Nat} (h : j ≠ i) (zs : List Int) : rowAt (rows.set i zs) j = rowAt rows j := by simp [rowAt, Ne.symm h]

/-- A row made later is stored at place i. -/
theorem OwMN.put {w w1 : World} {B g cap n : Nat} {rows : List (List Int)} (h : OwMN w B (.slice (some ⟨g, 0, none⟩) n cap) n rows) (hb : Nx w w1) {r : Value} {zs : List Int} (hr : OwI w1 w.heap.size r zs) (hB : B ≤ w.heap.size)
    {i : Nat} (hi : i < n) : OwMN (w1.setCell ⟨g, i, none⟩ r) B (.slice (some ⟨g, 0, none⟩) n cap) n (rows.set i zs) := by
  obtain ⟨h0, rs, h1, h2, h3, h4⟩ := h
  have hl : rs.length = n := by have := h1.1; simpa using this
  have hg := World.ownsRow.lt h1 g rfl
  have h1' := owns_below h1 hb
  have hst := World.ownsRow.stored h1' i r
  have hkeep : ∀ {v : Value} {ys : List Int} {B' : Nat}, OwI w1 B' v ys → Apart v (.slice (some ⟨g, 0, none⟩) n cap) → OwI (w1.setCell ⟨g, i, none⟩ r) B' v ys := fun ho ha => ho.kept hst.2 ha.ne
  have hrv : Apart r (.slice (some ⟨g, 0, none⟩) n cap) := fun g' hg' he => by
    have e1 : g = g' := by simpa [Value.ownBlock] using he
    have := (own_lt hr hg').1
    omega
  have hrj : ∀ j, j < n → Apart r (vAt rs j) := fun j hj g' hg' he => by
    have h5 := (own_lt hr hg').1
    have h6 := (own_lt (h2 j hj) he).2
    omega
  refine ⟨by rw [List.length_set]; exact h0, rs.set i r, hst.1, fun j hj => ?_, fun j hj => ?_, fun j k hjk hk => ?_⟩
  · by_cases hji : j = i
    · subst hji
      rw [vAt_set_same (by omega), rowAt_set_same (by omega)]
      exact (hkeep hr hrv).mono hB
    · rw [vAt_set_other hji, rowAt_set_other hji]
      exact hkeep ((h2 j hj).below hb) (h3 j hj)
  · by_cases hji : j = i
    · subst hji
      rw [vAt_set_same (by omega)]
      exact hrv
    · rw [vAt_set_other hji]
      exact h3 j hj
  · by_cases hji : j = i
    · subst hji
      rw [vAt_set_same (by omega), vAt_set_other (by omega)]
      exact hrj k hk
    · by_cases hki : k = i
      · subst hki
        rw [vAt_set_other hji, vAt_set_same (by omega)]
        exact (hrj j (by omega)).symm
      · rw [vAt_set_other hji, vAt_set_other hki]
        exact h4 j k hjk hk
theorem OwMN.cellAt {w : World} {B g cap n : Nat} {rows : List (List Int)} (h : OwMN w B (.slice (some ⟨g, 0, none⟩) n cap) n rows) {i : Nat} (hi : i < n) : ∃ r, w.cell? ⟨g, i, none⟩ = some r := by
  obtain ⟨h0, rs, h1, _⟩ := h
  have hl : rs.length = n := by have := h1.1; simpa using this
  exact ⟨_, (World.ownsRow.cellAt h1 i (by omega)).trans (vAt_some (by omega))⟩
theorem OwMN.frozenAt {w : World} {B g cap n : Nat} {rows : List (List Int)} (h : OwMN w B (.slice (some ⟨g, 0, none⟩) n cap) n rows) (i : Nat) : w.frozen? ⟨g, i, none⟩ = false := by
  obtain ⟨h0, rs, h1, _⟩ := h
  exact World.ownsRow.frozenAt h1 i

theorem rowsInfo : (Try.prog.info? 36).map (fun i => (i.zero, i.size, i.bytes)) = some (some (.slice none 0 0), 1, 24) := by kernel_rfl
theorem fill_row {rows : List (List Int)} {k : Nat} (hk : k < rows.length) : (rows.take k ++ List.replicate (rows.length - k) []).set k (rowAt rows k) = rows.take (k + 1) ++ List.replicate (rows.length - (k + 1)) [] := by
  have hl : (rows.take k).length = k := by simp; omega
  have hr : List.replicate (rows.length - k) ([] : List Int) = [] :: List.replicate (rows.length - (k + 1)) [] := by
    rw [show rows.length - k = (rows.length - (k + 1)) + 1 from by omega, List.replicate_succ]
  rw [hr, List.set_append_right _ _ (by omega), hl, Nat.sub_self, List.set_cons_zero, take_row hk]
  simp
/-- rows of nothing, just made. -/
theorem OwMN.made {w w1 : World} {n cap : Nat} {g : Nat} (h : w1.ownsRow w.heap.size 36 1 (.slice (some ⟨g, 0, none⟩) n cap) n (List.replicate n (.slice none 0 0))) : OwMN w1 w.heap.size (.slice (some ⟨g, 0, none⟩) n cap) n (List.replicate n []) := by
  have hv : ∀ i, vAt (List.replicate n (.slice none 0 0)) i = .slice none 0 0 := fun i => by
    unfold vAt
    rw [List.getD, List.getElem?_replicate]
    split <;> rfl
  have hr : ∀ i, rowAt (List.replicate n ([] : List Int)) i = [] := fun i => by
    unfold rowAt
    rw [List.getD, List.getElem?_replicate]
    split <;> rfl
  refine ⟨by simp, _, h, fun i _ => ?_, fun i _ => ?_, fun i j _ _ => ?_⟩
  · rw [hv, hr]; exact OwI.nil _ _
  · rw [hv]; exact Apart.none_left _
  · rw [hv]; exact Apart.none_left _

set_option maxHeartbeats 1000000 in
theorem toIntSS_any (v : Value) (rows : List (List Int)) (w : World) (h : RdM w v rows) (hl : OkM rows) :
    Calls Try.prog 12 #[v] w fun e w' => ∃ u, e = .returned u ∧ OwM w' w.heap.size u rows ∧ Nx w w' := by
  obtain ⟨A, c, rfl, hx⟩ := h
  have hn := hl.1
  have hrow := hide (fun i hi => hl.row (i := i) hi)
  obtain ⟨i0, hi, hz0, hz1, hz2⟩ := info_parts rowsInfo
  go_enter Try.func12, Try.ntmps12
  go_wp2_with (at_make; refine wpList_make_full _ rfl _ _ 22 rfl w.heap.size 36 i0 (.slice none 0 0) 1 Try.underlying22 hi hz0 hz1 .i64 .i64 _ _ rows.length rfl rfl rfl rfl ?c1 ?c2 ?c3 ?_)
  case c1 => rw [hz2]; omega
  case c2 => unfold maxLen; omega
  case c3 => exact Nat.le_refl _
  intro w1 hown hg
  have hown0 : OwMN w1 w.heap.size (.slice (some ⟨w.heap.size, 0, none⟩) rows.length rows.length) rows.length (rows.take 0 ++ List.replicate (rows.length - 0) []) := by
    have e : (madeCells #[Value.slice none 0 0] rows.length).toList = List.replicate rows.length (.slice none 0 0) := by rw [toList_madeCells_one]
    have := hown
    rw [e] at this
    simpa using OwMN.made this
  have hb0 : Nx w w1 := (Below.refl _ _).grown hg (Nat.le_refl _) (by intro k hk; cases hk)
  clear hown hg hi hz0 hz1 hz2
  go_wp2_with fail
  go_loopw [4] (fun i wr => ∃ k : Nat, k ≤ rows.length ∧ i = .int .i64 k ∧ OwMN wr w.heap.size (.slice (some ⟨w.heap.size, 0, none⟩) rows.length rows.length) rows.length (rows.take k ++ List.replicate (rows.length - k) []) ∧ Nx w wr) (fun i _ => rows.length - (intOf i).toNat)
  case atStart => exact ⟨0, Nat.zero_le _, rfl, hown0, hb0⟩
  case round =>
    clear hown0 hb0
    obtain ⟨k, hk, rfl, hown, hb⟩ := hrel
    by_cases hlt : k < rows.length
    · obtain ⟨b0, off, rfl, hb0, hc⟩ := hx (by omega)
      obtain ⟨A1, c1, hck0, hr0⟩ := hc k hlt
      have hck : wr.cell? ⟨b0, off + k, none⟩ = some (.slice A1 (rowAt rows k).length c1) := (hb.cell (p := ⟨b0, off + k, none⟩) hb0).trans hck0
      have hrr := hr0.below hb
      clear hc hx hck0 hr0
      go_wp2_with (go_at_call 29; fail)
      refine (toIntS_any _ _ _ hrr (hrow.out k hlt)).mono ?_
      rintro e w1 ⟨u, rfl, hu, hb1⟩
      have hM := hown.below hb1
      have hst := hM.cellAt hlt
      obtain ⟨rold, hst⟩ := hst
      have hfr := hM.frozenAt k
      have R := hown.put hb1 hu hb.size hlt
      rw [fill_row hlt] at R
      have Rb : Nx w (w1.setCell ⟨w.heap.size, k, none⟩ u) := (hb.trans hb1).setCell (Nat.le_refl _) _
      obtain ⟨Au, cu, hue, _⟩ := hu.open_
      have R' := hide R
      have Rb' := hide Rb
      clear R Rb hM hown hb hb1 hu hck hrr
      subst hue
      go_wp2
      go_roundw
      case rel => exact ⟨k + 1, by omega, by go_num, R'.out, Rb'.out⟩
      case measure => simp [intOf]; omega
    · obtain rfl : k = rows.length := by omega
      have R := hide hown
      have Rb := hide hb
      clear hown hb hx
      go_wp2_with fail
      go_ret
      exact ⟨_, rfl, by have := (unhide R).toM; simpa using this, unhide Rb⟩

set_option maxHeartbeats 1000000 in
theorem eqIntSS_same (v u : Value) (rows : List (List Int)) (w : World) (h : RdM w v rows) (h' : RdM w u rows) (hl : OkM rows) :
    Calls Try.prog 14 #[v, u] w fun e w' => e = .returned (.bool true) ∧ Nx w w' := by
  obtain ⟨A, c, rfl, hx⟩ := h
  obtain ⟨A', c', rfl, hx'⟩ := h'
  have hn := hl.1
  have hrow := hide (fun i hi => hl.row (i := i) hi)
  clear hl
  go_enter Try.func14, Try.ntmps14
  go_wp2_with fail
  go_loopw [5] (fun i wr => ∃ k : Nat, k ≤ rows.length ∧ i = .int .i64 k ∧ Nx w wr) (fun i _ => rows.length - (intOf i).toNat)
  case atStart => exact ⟨0, Nat.zero_le _, rfl, Below.refl _ _⟩
  case round =>
    obtain ⟨k, hk, rfl, hb⟩ := hrel
    by_cases hlt : k < rows.length
    · obtain ⟨b0, off, rfl, hb0, hc⟩ := hx (by omega)
      obtain ⟨b1, off1, rfl, hb1, hc1⟩ := hx' (by omega)
      obtain ⟨A1, c1, hck0, hr0⟩ := hc k hlt
      obtain ⟨A2, c2, hck1, hr1⟩ := hc1 k hlt
      have ha : wr.cell? ⟨b0, off + k, none⟩ = some (.slice A1 (rowAt rows k).length c1) := (hb.cell (p := ⟨b0, off + k, none⟩) hb0).trans hck0
      have hb' : wr.cell? ⟨b1, off1 + k, none⟩ = some (.slice A2 (rowAt rows k).length c2) := (hb.cell (p := ⟨b1, off1 + k, none⟩) hb1).trans hck1
      have ra := hide ((hr0.below hb).below (Nx.drew (Below.refl _ _)))
      have rb := hide ((hr1.below hb).below (Nx.drew (Below.refl _ _)))
      have Hb := hide hb
      have hk1 : (k : Int) < (rows.length : Int) := by omega
      clear hc hc1 hx hx' hck0 hck1 hr0 hr1 hb
      go_wp2_with fail
      go_still_tail 8, (by kernel_rfl)
      go_wp2_with (go_at_call 30; fail)
      refine (eqIntS_same _ _ _ _ ra.out rb.out (hrow.out k hlt)).mono ?_
      rintro e w1 ⟨rfl, h1⟩
      go_wp2_with fail
      go_roundw
      case rel => exact ⟨k + 1, by omega, by go_num, Hb.out.trans_drew h1⟩
      case measure => simp [intOf]; omega
    · obtain rfl : k = rows.length := by omega
      clear hx hx'
      go_wp2_with fail
      go_ret
      exact ⟨rfl, hb⟩

/-- what is left of a bound. -/
def szV (left : Int) (n : Nat) : Int := if left - n < 0 then -1 else left - n
set_option maxHeartbeats 400000 in
theorem szIntS_any (v : Value) (zs : List Int) (left : Int) (w : World) (h : RdI w v zs) (hl : zs.length ≤ maxLen) (h0 : 0 ≤ left) (h1 : left ≤ 1048576) :
    Calls Try.prog 34 #[v, .int .i64 left] w fun e w' => e = .returned (.int .i64 (szV left zs.length)) ∧ w = w' := by
  obtain ⟨A, c, rfl, hx⟩ := h
  clear hx
  unfold maxLen at hl
  by_cases hlt : left - (zs.length : Int) < 0
  · have hf := hide (show szV left zs.length = -1 from by unfold szV; rw [if_pos hlt])
    go_enter Try.func34, Try.ntmps34
    go_wp2
    go_ret
    exact ⟨ret_int hf.out.symm, rfl⟩
  · have hf := hide (show szV left zs.length = left - zs.length from by unfold szV; rw [if_neg hlt])
    go_enter Try.func34, Try.ntmps34
    go_wp2
    go_ret
    exact ⟨ret_int hf.out.symm, rfl⟩

set_option maxHeartbeats 1000000 in
theorem szIntSS_any (v : Value) (rows : List (List Int)) (left : Int) (w : World) (h : RdM w v rows) (hl : LenM rows) (l0 : 0 ≤ left) (l1 : left ≤ 1048576) :
    Calls Try.prog 10 #[v, .int .i64 left] w fun e w' => ∃ s, e = .returned (.int .i64 s) ∧ (0 ≤ s → OkM rows ∧ s ≤ 1048576) ∧ Nx w w' := by
  obtain ⟨A, c, rfl, hx⟩ := h
  have hn := hl.1
  have hrow := hide hl.2
  unfold maxLen at hn
  clear hl
  by_cases hbig : left < (rows.length : Int)
  · go_enter Try.func10, Try.ntmps10
    go_wp2_with fail
    go_ret
    exact ⟨-1, rfl, fun h => absurd h (by omega), Below.refl _ _⟩
  · go_enter Try.func10, Try.ntmps10
    go_wp2_with fail
    go_loop [1, 5] (fun q i => ∃ (k : Nat) (r : Int), k ≤ rows.length ∧ i = .int .i64 k ∧ q = .int .i64 r ∧ 0 ≤ r ∧ r ≤ 1048576 ∧ Hid (r + (sumLen rows k : Int) = left - rows.length)) (fun _ i => rows.length - (intOf i).toNat)
    case atStart => exact ⟨0, _, Nat.zero_le _, rfl, rfl, by omega, by omega, by show _ + ((0 : Nat) : Int) = _; simp⟩
    case round =>
      obtain ⟨k, r, hk, rfl, rfl, hr0, hr1, hs⟩ := hrel
      by_cases hlt : k < rows.length
      · obtain ⟨b0, off, rfl, hb0, hc⟩ := hx (by omega)
        obtain ⟨A1, c1, hck, hrr⟩ := hc k hlt
        have HL := hide (hrow.out k hlt)
        clear hc hx
        by_cases hneg : r - ((rowAt rows k).length : Int) < 0
        · have hf := hide (show szV r (rowAt rows k).length = -1 from by unfold szV; rw [if_pos hneg])
          go_wp2_with (go_at_call 34; refine (szIntS_any _ _ _ _ hrr HL.out hr0 hr1).mono ?_; rintro e w' ⟨rfl, rfl⟩; rw [hf.out])
          go_ret
          exact ⟨-1, rfl, fun h => absurd h (by omega), Below.refl _ _⟩
        · have hf := hide (show szV r (rowAt rows k).length = r - (rowAt rows k).length from by unfold szV; rw [if_neg hneg])
          have hs' : Hid (r - ((rowAt rows k).length : Int) + (sumLen rows (k + 1) : Int) = left - rows.length) := by
            have := hs.out
            show r - ((rowAt rows k).length : Int) + (sumLen rows (k + 1) : Int) = left - rows.length
            simp only [sumLen]
            omega
          go_wp2_with (go_at_call 34; refine (szIntS_any _ _ _ _ hrr HL.out hr0 hr1).mono ?_; rintro e w' ⟨rfl, rfl⟩; rw [hf.out])
          go_round
          case rel => exact ⟨k + 1, _, by omega, by go_num, rfl, by omega, by omega, hs'.out⟩
          case measure => simp [intOf]; omega
      · obtain rfl : k = rows.length := by omega
        have hok := hide (show OkM rows ∧ r ≤ 1048576 from ⟨⟨by omega, by have := hs.out; omega⟩, hr1⟩)
        clear hx
        go_wp2_with fail
        go_ret
        exact ⟨r, rfl, fun _ => hok.out, Below.refl _ _⟩

theorem open_M {H : Type} {enc : TypeId × Value → H} {W : World} {a : Option Addr} {len cap : Nat} {d : DataW H} {p : List MemPlace}
    (h : DataW.Trod enc Try.prog W 0 (fun _ => true) true 22 (.slice a len cap) d p) :
    ∃ rows, RdM W (.slice a len cap) rows ∧ LenM rows ∧ ∀ r ∈ rows, ∀ n ∈ r, I64 n := by
  obtain ⟨fuel, hf⟩ := h
  rcases Go.Deep.open_int_rows Try.underlying22 Try.underlying36 Try.underlying3 (by kernel_rfl) (by kernel_rfl) hf with ⟨hcs, _⟩ | ⟨x, l, c, A, L, C, Z, hcs, _, hl, hm, _, hrows⟩
  · simp [Value.cells] at hcs
    obtain ⟨rfl, rfl, rfl⟩ := hcs
    exact ⟨[], ⟨none, 0, rfl, fun h => absurd h (by simp)⟩, ⟨by simp, fun i hi => absurd hi (by simp)⟩, by simp⟩
  · simp [Value.cells] at hcs
    obtain ⟨rfl, rfl, rfl⟩ := hcs
    have hlen : ((List.range len).map fun r => (Z r).take (L r)).length = len := by simp
    have hat : ∀ i, i < len → rowAt ((List.range len).map fun r => (Z r).take (L r)) i = (Z i).take (L i) := fun i hi => by simp [rowAt, hi]
    have hLi : ∀ i, i < len → ((Z i).take (L i)).length = L i := fun i hi => by
      obtain ⟨_, h1, _, h2, _⟩ := hrows i (by omega)
      rw [List.length_take]; omega
    refine ⟨(List.range len).map fun r => (Z r).take (L r), ?_, ⟨by rw [hlen]; omega, fun i hi => ?_⟩, ?_⟩
    · refine ⟨some x, cap, by rw [hlen], fun h0 => ?_⟩
      rw [hlen] at h0 ⊢
      obtain ⟨hc0, _⟩ := hrows 0 (by omega)
      obtain ⟨b, off, spot⟩ := x
      have hspot : spot = none := by simpa [Addr.add] using World.cell?_spot hc0
      subst hspot
      refine ⟨b, off, rfl, by simpa [Addr.add] using block_lt_of_cell hc0, fun i hi => ?_⟩
      obtain ⟨hc, h1, h2, h3, h4, h5, h6⟩ := hrows i (by omega)
      rw [add_off] at hc
      rw [hat i hi, hLi i hi]
      refine ⟨A i, C i, hc, A i, C i, by rw [hLi i hi], fun h0 => ?_⟩
      rw [hLi i hi] at h0 ⊢
      cases ha : A i with
      | none => have := h5 ha; omega
      | some a' =>
        obtain ⟨_, hcell⟩ := h6 a' ha
        have hcc := hcell 0 (by omega)
        obtain ⟨b', off', spot'⟩ := a'
        have hspot' : spot' = none := by simpa [Addr.add] using World.cell?_spot hcc
        subst hspot'
        refine ⟨b', off', rfl, by simpa [Addr.add] using block_lt_of_cell hcc, fun j hj => ?_⟩
        have := hcell j (by omega)
        rw [add_off] at this
        rw [this]
        simp [gt, hj]
    · rw [hlen] at hi
      rw [hat i hi, hLi i hi]
      obtain ⟨_, h1, h2, _⟩ := hrows i (by omega)
      omega
    · intro r hr n hn
      obtain ⟨i, hi, rfl⟩ := List.mem_map.1 hr
      obtain ⟨_, _, _, _, h4, _⟩ := hrows i (by have := List.mem_range.1 hi; omega)
      exact I64.of_wf (h4 n (List.mem_of_mem_take hn))

end Go.Proofs.Ytkjclpbemdilbaa
