/- Distances: the plain law. -/
import Derived.Test.YtemijekdcifncaaMat
import Derived.WalkKit
import Derived.ProofKit
import Derived.Handy
import Derived.OpenShut
import Derived.ShutString
import Derived.ChangeOld
import Derived.Below
import Derived.BigQuiet
import Derived.Deep.QuietTactic
import Derived.Deep.Draws
import Derived.Deep.DeepCutAuto
import Derived.Deep.DeepFit
import Derived.Deep.LoopGhost
import Derived.Outline
import Derived.WalkSpells
import Derived.WalkLawsBesides
import Derived.WalkSmall
import Derived.Laws.OwnMore
import Derived.OneCell
import Derived.Laws.Rows
import Derived.Maps.AppendAt
import Derived.StillTailTactics
import Derived.Lib.SmallJoins
import Derived.Deep.RegionWith
import Derived.Deep.RegionHeld3
import Derived.RegionTactic
import Derived.Deep.Matrix
import Derived.Deep.Fields
import Derived.ChangeSame
namespace Go.Proofs.Ytemijekdcifncaa
open Go.RowKit

/-- the number at place x of row y. -/
def g2 (rows : List (List Int)) (y x : Nat) : Int := gt (rowAt rows y) x
/-- one row is as the first, its numbers from lo to hi. -/
def rowOk (rows : List (List Int)) (lo hi : Int) (y : Nat) : Bool := decide ((rowAt rows y).length = (rowAt rows 0).length) && allW lo hi (rowAt rows y)
/-- rows of one length with numbers from lo to hi. -/
def gridOk (rows : List (List Int)) (m wd lo hi : Int) : Bool :=
  inR (rows.length : Int) 1 m && inR ((rowAt rows 0).length : Int) 1 wd && (List.range rows.length).all (rowOk rows lo hi)
theorem gridOk_rows {rows : List (List Int)} {m wd lo hi : Int} (h1 : inR (rows.length : Int) 1 m = true) (h2 : inR ((rowAt rows 0).length : Int) 1 wd = true) (h : ∀ y, y < rows.length → rowOk rows lo hi y = true) : gridOk rows m wd lo hi = true := by
  simp only [gridOk, h1, h2, Bool.and_self, Bool.true_and, List.all_eq_true, List.mem_range]
  exact h
theorem gridOk_bad {rows : List (List Int)} {m wd lo hi : Int} {y : Nat} (hy : y < rows.length) (h : rowOk rows lo hi y = false) : gridOk rows m wd lo hi = false := by
  rw [Bool.eq_false_iff]
  intro ht
  simp only [gridOk, Bool.and_eq_true, List.all_eq_true, List.mem_range] at ht
  have := ht.2 y hy
  rw [h] at this
  cases this
theorem rowOk_len {rows : List (List Int)} {lo hi : Int} {y : Nat} (h : (rowAt rows y).length ≠ (rowAt rows 0).length) : rowOk rows lo hi y = false := by simp [rowOk, h]
/-- what a grid is good for. -/
structure Grid (rows : List (List Int)) (h wd : Nat) (lo hi : Int) : Prop where
  len : rows.length = h
  row : ∀ y, y < h → (rowAt rows y).length = wd
  bd : ∀ y x, y < h → x < wd → lo ≤ g2 rows y x ∧ g2 rows y x ≤ hi
theorem gridOk_grid {rows : List (List Int)} {m wd lo hi : Int} (h : gridOk rows m wd lo hi = true) :
    Grid rows rows.length (rowAt rows 0).length lo hi ∧ (1 ≤ rows.length ∧ (rows.length : Int) ≤ m) ∧ (1 ≤ (rowAt rows 0).length ∧ ((rowAt rows 0).length : Int) ≤ wd) := by
  simp only [gridOk, Bool.and_eq_true, List.all_eq_true, List.mem_range, rowOk, inR_iff, decide_eq_true_eq] at h
  obtain ⟨⟨h1, h2⟩, h3⟩ := h
  refine ⟨⟨rfl, fun y hy => (h3 y hy).1, fun y x hy hx => ?_⟩, by omega, by omega⟩
  exact allW_iff.1 (h3 y hy).2 x (by rw [(h3 y hy).1]; exact hx)

/-- A slice value that reads as a grid of h rows of wd numbers. -/
def RdG (w : World) (v : Value) (h wd : Nat) (f : Nat → Nat → Int) : Prop :=
  ∃ (b off c : Nat) (rb ro rc : Nat → Nat), v = .slice (some ⟨b, off, none⟩) h c ∧ (∀ y, y < h → w.cell? ⟨b, off + y, none⟩ = some (.slice (some ⟨rb y, ro y, none⟩) wd (rc y))) ∧
    ∀ y x, y < h → x < wd → w.cell? ⟨rb y, ro y + x, none⟩ = some (.int .i64 (f y x))
theorem RdM.grid {w : World} {v : Value} {rows : List (List Int)} {h wd : Nat} {lo hi : Int} (hr : RdM w v rows) (hg : Grid rows h wd lo hi) (h0 : 0 < h) (w0 : 0 < wd) : RdG w v h wd (g2 rows) := by
  obtain ⟨A, c, rfl, hx⟩ := hr
  have hl := hg.len
  obtain ⟨b, off, rfl, _, hc⟩ := hx (by omega)
  have hch : ∀ y, y < h → ∃ q : Nat × Nat × Nat, w.cell? ⟨b, off + y, none⟩ = some (.slice (some ⟨q.1, q.2.1, none⟩) wd q.2.2) ∧ ∀ x, x < wd → w.cell? ⟨q.1, q.2.1 + x, none⟩ = some (.int .i64 (g2 rows y x)) := by
    intro y hy
    obtain ⟨A1, c1, e1, A2, c2, e2, hi⟩ := hc y (by omega)
    rw [hg.row y hy] at e1 e2 hi
    obtain ⟨b1, off1, rfl, _, hcell⟩ := hi w0
    injection e2 with e3 e4 e5
    subst e3
    exact ⟨(b1, off1, c1), e1, fun x hx => hcell x hx⟩
  obtain ⟨q, hq⟩ := Go.Deep.choose_lt hch
  exact ⟨b, off, c, fun y => (q y).1, fun y => (q y).2.1, fun y => (q y).2.2, by rw [hl], fun y hy => (hq y hy).1, fun y x hy hx => (hq y hy).2 x hx⟩

/-- what MapOk asks. -/
def MapP (rows : List (List Int)) : Prop :=
  inR (rows.length : Int) 2 7 = true ∧ (∀ i, i < rows.length → (rowAt rows i).length = rows.length) ∧
    ∀ i k, i < rows.length → k < rows.length → inR (g2 rows i k) 0 1000 = true ∧ g2 rows i k = g2 rows k i ∧ (i = k → g2 rows i k = 0)
/-- distances are ones. -/
def mapOk (rows : List (List Int)) : Bool :=
  inR (rows.length : Int) 2 7 && ((List.range rows.length).all fun i => decide ((rowAt rows i).length = rows.length)) &&
    (List.range rows.length).all fun i => (List.range rows.length).all fun k => inR (g2 rows i k) 0 1000 && decide (g2 rows i k = g2 rows k i) && (!decide (i = k) || decide (g2 rows i k = 0))
theorem mapOk_iff {rows : List (List Int)} : mapOk rows = true ↔ MapP rows := by
  simp only [mapOk, MapP, Bool.and_eq_true, List.all_eq_true, List.mem_range, decide_eq_true_eq, Bool.or_eq_true, Bool.not_eq_true', decide_eq_false_iff_not, and_assoc]
  refine and_congr Iff.rfl (and_congr Iff.rfl ⟨fun h i k hi hk => ?_, fun h i hi k hk => ?_⟩)
  · obtain ⟨h1, h2, h3⟩ := h i hi k hk
    exact ⟨h1, h2, fun e => h3.resolve_left (fun hn => hn e)⟩
  · obtain ⟨h1, h2, h3⟩ := h i k hi hk
    refine ⟨h1, h2, ?_⟩
    by_cases e : i = k
    · exact .inr (h3 e)
    · exact .inl e
theorem mapOk_false {rows : List (List Int)} (h : ¬ MapP rows) : mapOk rows = false := by
  rw [Bool.eq_false_iff]
  exact fun ht => h (mapOk_iff.1 ht)
/-- what one row of the program's own way asks. -/
def mapRow (rows : List (List Int)) (i : Nat) : Prop :=
  (rowAt rows i).length = rows.length ∧ allW 0 1000 (rowAt rows i) = true ∧ g2 rows i i = 0 ∧ ∀ k, k < i → g2 rows i k = g2 rows k i
theorem map_rows {rows : List (List Int)} (h1 : inR (rows.length : Int) 2 7 = true) (h : ∀ i, i < rows.length → mapRow rows i) : MapP rows := by
  refine ⟨h1, fun i hi => (h i hi).1, fun i k hi hk => ⟨?_, ?_, ?_⟩⟩
  · exact inR_iff.2 (allW_iff.1 (h i hi).2.1 k (by rw [(h i hi).1]; exact hk))
  · rcases Nat.lt_trichotomy i k with h2 | h2 | h2
    · exact ((h k hk).2.2.2 i h2).symm
    · rw [h2]
    · exact (h i hi).2.2.2 k h2
  · intro e; rw [← e]; exact (h i hi).2.2.1
/-- a square that reads. -/
theorem RdM.sq {w : World} {v : Value} {rows : List (List Int)} {n : Nat} (hr : RdM w v rows) (hl : rows.length = n) (hrow : ∀ y, y < n → (rowAt rows y).length = n) (h0 : 0 < n) : RdG w v n n (g2 rows) := by
  obtain ⟨A, c, rfl, hx⟩ := hr
  obtain ⟨b, off, rfl, _, hc⟩ := hx (by omega)
  have hch : ∀ y, y < n → ∃ q : Nat × Nat × Nat, w.cell? ⟨b, off + y, none⟩ = some (.slice (some ⟨q.1, q.2.1, none⟩) n q.2.2) ∧ ∀ x, x < n → w.cell? ⟨q.1, q.2.1 + x, none⟩ = some (.int .i64 (g2 rows y x)) := by
    intro y hy
    obtain ⟨A1, c1, e1, A2, c2, e2, hi⟩ := hc y (by omega)
    rw [hrow y hy] at e1 e2 hi
    obtain ⟨b1, off1, rfl, _, hcell⟩ := hi h0
    injection e2 with e3 e4 e5
    subst e3
    exact ⟨(b1, off1, c1), e1, fun x hx => hcell x hx⟩
  obtain ⟨q, hq⟩ := Go.Deep.choose_lt hch
  exact ⟨b, off, c, fun y => (q y).1, fun y => (q y).2.1, fun y => (q y).2.2, by rw [hl], fun y hy => (hq y hy).1, fun y x hy hx => (hq y hy).2 x hx⟩

end Go.Proofs.Ytemijekdcifncaa
