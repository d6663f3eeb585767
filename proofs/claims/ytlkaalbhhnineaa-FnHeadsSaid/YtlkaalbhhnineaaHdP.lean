/- Heads, plain. -/
import Derived.Test.YtlkaalbhhnineaaCutQ
import Derived.Test.YtlkaalbhhnineaaSmQ
import Derived.WalkKit
import Derived.ProofKit
import Derived.Handy
import Derived.OpenShut
import Derived.ShutString
import Derived.ChangeOld
import Derived.Below
import Derived.BigQuiet
import Derived.Deep.QuietTactic
import Derived.Deep.Draws
import Derived.Deep.DeepCutAuto
import Derived.Deep.DeepFit
import Derived.Deep.LoopGhost
import Derived.Outline
import Derived.WalkSpells
import Derived.WalkLawsBesides
import Derived.WalkSmall
import Derived.Laws.OwnMore
import Derived.OneCell
import Derived.Laws.Rows
import Derived.Maps.AppendAt
import Derived.StillTailTactics
import Derived.Lib.SmallJoins
import Derived.Deep.RegionWith
import Derived.Deep.RegionHeld3
import Derived.RegionTactic
import Derived.Deep.Matrix
import Derived.Deep.Fields
import Derived.ChangeSame
namespace Go.Proofs.Ytlkaalbhhnineaa
open Go.RowKit

theorem gl_len0 {h wd : Nat} (F : Nat → Nat → Int) (h1 : 1 ≤ h) : (rowAt (gridL h wd F) 0).length = wd := row_gridL_length (by omega)
theorem gl_ok {h wd : Nat} {F : Nat → Nat → Int} (hh : 1 ≤ h ∧ h ≤ 8) (hw : 1 ≤ wd ∧ wd ≤ 8) (hF : ∀ y x, y < h → x < wd → 0 ≤ F y x ∧ F y x ≤ 20) : gridOk (gridL h wd F) 8 8 0 20 = true := by
  refine gridOk_rows (by rw [gridL_length]; exact inR_iff.2 (by omega)) (by rw [gl_len0 F hh.1]; exact inR_iff.2 (by omega)) fun y hy => ?_
  rw [gridL_length] at hy
  simp only [rowOk, Bool.and_eq_true, decide_eq_true_eq]
  refine ⟨by rw [row_gridL_length hy, gl_len0 F hh.1], allW_iff.2 fun x hx => ?_⟩
  rw [row_gridL_length hy] at hx
  have := g2_gridL (F := F) hy hx
  unfold g2 at this
  rw [this]
  exact hF y x hy hx
/-- the way between two places. -/
def dst (y x v u : Nat) : Int := absI ((x : Int) - (u : Int)) + absI ((y : Int) - (v : Int))
theorem dst_nonneg (y x v u : Nat) : 0 ≤ dst y x v u := by unfold dst absI; split <;> split <;> omega
theorem dst_tri (y x v u v' u' : Nat) : dst y x v' u' ≤ dst y x v u + dst v u v' u' := by
  unfold dst
  simp only [absI_max]
  omega
theorem dst_self (y x : Nat) : dst y x y x = 0 := by unfold dst absI; simp
theorem dst_symm (y x v u : Nat) : dst y x v u = dst v u y x := by
  unfold dst
  simp only [absI_max]
  omega
theorem minRow_le (most : Int) (f : Nat → Nat → Int) (y x v : Nat) (acc : Int) (k : Nat) : minRow most f y x v acc k ≤ acc ∧ ∀ u, u < k → minRow most f y x v acc k ≤ f v u + most * dst y x v u := by
  induction k with
  | zero => exact ⟨Int.le_refl _, fun u hu => absurd hu (by omega)⟩
  | succ k ih =>
    simp only [minRow]
    refine ⟨by omega, fun u hu => ?_⟩
    rcases Nat.lt_or_ge u k with h | h
    · have := ih.2 u h; omega
    · obtain rfl : u = k := by omega
      show _ ≤ f v u + most * (absI ((x : Int) - (u : Int)) + absI ((y : Int) - (v : Int)))
      omega
theorem minRow_ge {most : Int} {f : Nat → Nat → Int} {y x v : Nat} {acc z : Int} {k : Nat} (h0 : z ≤ acc) (h : ∀ u, u < k → z ≤ f v u + most * dst y x v u) : z ≤ minRow most f y x v acc k := by
  induction k with
  | zero => exact h0
  | succ k ih =>
    have h1 := ih fun u hu => h u (by omega)
    have h2 : z ≤ f v k + most * (absI ((x : Int) - (k : Int)) + absI ((y : Int) - (v : Int))) := h k (by omega)
    simp only [minRow]
    omega
theorem minAll_le (most : Int) (f : Nat → Nat → Int) (wd y x : Nat) (k : Nat) : minAll most f wd y x k ≤ f y x ∧ ∀ v u, v < k → u < wd → minAll most f wd y x k ≤ f v u + most * dst y x v u := by
  induction k with
  | zero => exact ⟨Int.le_refl _, fun v u hv => absurd hv (by omega)⟩
  | succ k ih =>
    simp only [minAll]
    have h1 := minRow_le most f y x k (minAll most f wd y x k) wd
    refine ⟨by omega, fun v u hv hu => ?_⟩
    rcases Nat.lt_or_ge v k with h | h
    · have := ih.2 v u h hu; omega
    · obtain rfl : v = k := by omega
      exact h1.2 u hu
theorem minAll_ge {most : Int} {f : Nat → Nat → Int} {wd y x : Nat} {z : Int} {k : Nat} (h0 : z ≤ f y x) (h : ∀ v u, v < k → u < wd → z ≤ f v u + most * dst y x v u) : z ≤ minAll most f wd y x k := by
  induction k with
  | zero => exact h0
  | succ k ih =>
    simp only [minAll]
    exact minRow_ge (ih fun v u hv => h v u (by omega)) fun u hu => h k u (by omega) hu
theorem minRow_congr {most : Int} {f g : Nat → Nat → Int} {y x v : Nat} {acc : Int} {k : Nat} (h : ∀ u, u < k → f v u = g v u) : minRow most f y x v acc k = minRow most g y x v acc k := by
  induction k with
  | zero => rfl
  | succ k ih => simp only [minRow]; rw [ih fun u hu => h u (by omega), h k (by omega)]
theorem minAll_congr {most : Int} {f g : Nat → Nat → Int} {h wd y x : Nat} (hfg : ∀ v u, v < h → u < wd → f v u = g v u) (hy : y < h) (hx : x < wd) {k : Nat} (hk : k ≤ h) : minAll most f wd y x k = minAll most g wd y x k := by
  induction k with
  | zero => exact hfg y x hy hx
  | succ k ih =>
    simp only [minAll]
    rw [ih (by omega), minRow_congr fun u hu => hfg k u (by omega) hu]
theorem minAll_lips {most : Int} (hm : 0 ≤ most) (f : Nat → Nat → Int) {h wd y x v u : Nat} (hv : v < h) (hu : u < wd) : minAll most f wd y x h ≤ minAll most f wd v u h + most * dst y x v u := by
  have h0 := minAll_le most f wd y x h
  have : minAll most f wd y x h - most * dst y x v u ≤ minAll most f wd v u h := by
    refine minAll_ge ?_ fun v' u' hv' hu' => ?_
    · have := h0.2 v u hv hu; omega
    · have h1 := h0.2 v' u' hv' hu'
      have h2 := Int.mul_le_mul_of_nonneg_left (dst_tri y x v u v' u') hm
      rw [Int.mul_add] at h2
      omega
  omega
/-- no place is steep. -/
def Flat (f : Nat → Nat → Int) (h wd : Nat) (most : Int) : Prop := ∀ y x, y < h → x < wd → (0 < x → absI (f y x - f y (x - 1)) ≤ most) ∧ (0 < y → absI (f y x - f (y - 1) x) ≤ most)
def Lips (f : Nat → Nat → Int) (h wd : Nat) (most : Int) : Prop := ∀ y x v u, y < h → x < wd → v < h → u < wd → f y x ≤ f v u + most * dst y x v u
theorem Lips.flat {f : Nat → Nat → Int} {h wd : Nat} {most : Int} (hl : Lips f h wd most) : Flat f h wd most := by
  intro y x hy hx
  refine ⟨fun h0 => ?_, fun h0 => ?_⟩
  · have d : dst y x y (x - 1) = 1 := by unfold dst; simp only [absI_max]; omega
    have h1 := hl y x y (x - 1) hy hx hy (by omega)
    have h2 := hl y (x - 1) y x hy (by omega) hy hx
    rw [dst_symm, d] at h2
    rw [d] at h1
    rw [absI_max]; omega
  · have d : dst y x (y - 1) x = 1 := by unfold dst; simp only [absI_max]; omega
    have h1 := hl y x (y - 1) x hy hx (by omega) hx
    have h2 := hl (y - 1) x y x (by omega) hx hy hx
    rw [dst_symm, d] at h2
    rw [d] at h1
    rw [absI_max]; omega
theorem Flat.lips {f : Nat → Nat → Int} {h wd : Nat} {most : Int} (hf : Flat f h wd most) : Lips f h wd most := by
  have hor : ∀ y u d, y < h → u + d < wd → f y (u + d) ≤ f y u + most * d ∧ f y u ≤ f y (u + d) + most * d := by
    intro y u d hy
    induction d with
    | zero => intro _; simp
    | succ d ih =>
      intro hd
      have h1 := ih (by omega)
      have h2 := (hf y (u + (d + 1)) hy hd).1 (by omega)
      rw [show u + (d + 1) - 1 = u + d from by omega, absI_max] at h2
      rw [show ((d + 1 : Nat) : Int) = (d : Int) + 1 from rfl, Int.mul_add, Int.mul_one]
      omega
  have ver : ∀ x v d, x < wd → v + d < h → f (v + d) x ≤ f v x + most * d ∧ f v x ≤ f (v + d) x + most * d := by
    intro x v d hx
    induction d with
    | zero => intro _; simp
    | succ d ih =>
      intro hd
      have h1 := ih (by omega)
      have h2 := (hf (v + (d + 1)) x hd hx).2 (by omega)
      rw [show v + (d + 1) - 1 = v + d from by omega, absI_max] at h2
      rw [show ((d + 1 : Nat) : Int) = (d : Int) + 1 from rfl, Int.mul_add, Int.mul_one]
      omega
  intro y x v u hy hx hv hu
  have h1 : f y x ≤ f y u + most * absI ((x : Int) - (u : Int)) := by
    rcases Nat.lt_or_ge x u with hc | hc
    · have := (hor y x (u - x) hy (by omega)).2
      rw [show x + (u - x) = u from by omega] at this
      rw [show absI ((x : Int) - (u : Int)) = ((u - x : Nat) : Int) from by rw [absI_max]; omega]
      exact this
    · have := (hor y u (x - u) hy (by omega)).1
      rw [show u + (x - u) = x from by omega] at this
      rw [show absI ((x : Int) - (u : Int)) = ((x - u : Nat) : Int) from by rw [absI_max]; omega]
      exact this
  have h2 : f y u ≤ f v u + most * absI ((y : Int) - (v : Int)) := by
    rcases Nat.lt_or_ge y v with hc | hc
    · have := (ver u y (v - y) hu (by omega)).2
      rw [show y + (v - y) = v from by omega] at this
      rw [show absI ((y : Int) - (v : Int)) = ((v - y : Nat) : Int) from by rw [absI_max]; omega]
      exact this
    · have := (ver u v (y - v) hu (by omega)).1
      rw [show v + (y - v) = y from by omega] at this
      rw [show absI ((y : Int) - (v : Int)) = ((y - v : Nat) : Int) from by rw [absI_max]; omega]
      exact this
  unfold dst
  rw [Int.mul_add]
  omega
theorem s1_zero {g : Nat → Int} {k : Nat} (h : ∀ j, j < k → g j = 0) : s1 g k = 0 := by
  induction k with
  | zero => rfl
  | succ k ih => simp only [s1]; rw [ih fun j hj => h j (by omega), h k (by omega)]; rfl
theorem s1_mono {f g : Nat → Int} {k : Nat} (h : ∀ j, j < k → f j ≤ g j) : s1 f k ≤ s1 g k := by
  induction k with
  | zero => exact Int.le_refl _
  | succ k ih =>
    have := ih fun j hj => h j (by omega)
    have := h k (by omega)
    simp only [s1]; omega
theorem s1_nonneg {g : Nat → Int} {k : Nat} (h : ∀ j, j < k → 0 ≤ g j) : 0 ≤ s1 g k := by
  have := s1_mono (f := fun _ => 0) h
  rwa [s1_zero fun _ _ => rfl] at this
theorem s1_null {g : Nat → Int} {k : Nat} (h : ∀ j, j < k → 0 ≤ g j) (h0 : s1 g k = 0) : ∀ j, j < k → g j = 0 := by
  induction k with
  | zero => intro j hj; omega
  | succ k ih =>
    have h1 := s1_nonneg fun j (hj : j < k) => h j (by omega)
    have h2 := h k (by omega)
    simp only [s1] at h0
    intro j hj
    rcases Nat.lt_or_ge j k with h3 | h3
    · exact ih (fun j hj => h j (by omega)) (by omega) j h3
    · obtain rfl : j = k := by omega
      omega
theorem s1_congr {f g : Nat → Int} {k : Nat} (h : ∀ j, j < k → f j = g j) : s1 f k = s1 g k := by
  induction k with
  | zero => rfl
  | succ k ih => simp only [s1]; rw [ih fun j hj => h j (by omega), h k (by omega)]
theorem s1_one {f g : Nat → Int} {i : Nat} {k : Nat} (hi : i < k) (h : ∀ j, j < k → j ≠ i → f j = g j) : s1 f k = s1 g k + (f i - g i) := by
  induction k with
  | zero => omega
  | succ k ih =>
    simp only [s1]
    by_cases e : i = k
    · subst e
      rw [s1_congr fun j hj => h j (by omega) (by omega)]; omega
    · rw [ih (by omega) fun j hj => h j (by omega), h k (by omega) (fun e' => e e'.symm)]; omega
theorem tot_null {f : Nat → Nat → Int} {h wd : Nat} (hf : ∀ y x, y < h → x < wd → 0 ≤ f y x) : tot f wd h = 0 ↔ ∀ y x, y < h → x < wd → f y x = 0 := by
  unfold tot
  constructor
  · intro h0 y x hy hx
    have := s1_null (fun y' hy' => s1_nonneg fun x' hx' => hf y' x' hy' hx') h0 y hy
    exact s1_null (fun x' hx' => hf y x' hy hx') this x hx
  · intro h0
    exact s1_zero fun y hy => s1_zero fun x hx => h0 y x hy hx
theorem tot_mono {f g : Nat → Nat → Int} {h wd : Nat} (hf : ∀ y x, y < h → x < wd → f y x ≤ g y x) : tot f wd h ≤ tot g wd h := s1_mono fun y hy => s1_mono fun x hx => hf y x hy hx
theorem tot_congr {f g : Nat → Nat → Int} {h wd : Nat} (hf : ∀ y x, y < h → x < wd → f y x = g y x) : tot f wd h = tot g wd h := s1_congr fun y hy => s1_congr fun x hx => hf y x hy hx
theorem tot_upd {f : Nat → Nat → Int} {h wd y x : Nat} (hy : y < h) (hx : x < wd) (z : Int) : tot (upd f y x z) wd h = tot f wd h + (z - f y x) := by
  unfold tot
  rw [s1_one (g := fun y' => s1 (f y') wd) hy fun j hj hne => s1_congr fun x' _ => by simp [upd, hne]]
  rw [s1_one (f := upd f y x z y) (g := f y) hx fun j hj hne => by simp [upd, hne]]
  simp [upd]
  omega
theorem steep_gl {h wd : Nat} {F : Nat → Nat → Int} {most : Int} (hh : 1 ≤ h ∧ h ≤ 8) (hw : 1 ≤ wd ∧ wd ≤ 8) (hF : ∀ y x, y < h → x < wd → 0 ≤ F y x ∧ F y x ≤ 20) : steep (gridL h wd F) most = 0 ↔ Flat F h wd most := by
  unfold steep
  rw [if_pos (gl_ok hh hw hF), gridL_length, gl_len0 F hh.1, tot_null fun y x _ _ => (steepAt_bd _ _ _ _).1]
  constructor
  · intro h0 y x hy hx
    have h1 := h0 y x hy hx
    have e1 := g2_gridL (F := F) hy hx
    refine ⟨fun hp => ?_, fun hp => ?_⟩
    · have e2 := g2_gridL (F := F) (x := x - 1) (wd := wd) hy (by omega)
      rcases Int.lt_or_le most (absI (F y x - F y (x - 1))) with hc | hc
      · have : st1 (g2 (gridL h wd F)) most y x = true := by simp [st1, e1, e2, hp, hc]
        simp only [steepAt, this, oneB] at h1
        have h3 : 0 ≤ oneB (st2 (g2 (gridL h wd F)) most y x) := by unfold oneB; split <;> omega
        simp [oneB] at h1 h3
        split at h1 <;> omega
      · exact hc
    · have e2 := g2_gridL (F := F) (y := y - 1) (h := h) (by omega) hx
      rcases Int.lt_or_le most (absI (F y x - F (y - 1) x)) with hc | hc
      · have : st2 (g2 (gridL h wd F)) most y x = true := by simp [st2, e1, e2, hp, hc]
        simp only [steepAt, this, oneB] at h1
        split at h1 <;> simp at h1
      · exact hc
  · intro hf y x hy hx
    have h1 := hf y x hy hx
    have e1 := g2_gridL (F := F) hy hx
    have a1 : st1 (g2 (gridL h wd F)) most y x = false := by
      unfold st1
      rcases Nat.eq_zero_or_pos x with h0 | h0
      · simp [h0]
      · rw [e1, g2_gridL hy (by omega)]
        have := h1.1 h0
        simp; omega
    have a2 : st2 (g2 (gridL h wd F)) most y x = false := by
      unfold st2
      rcases Nat.eq_zero_or_pos y with h0 | h0
      · simp [h0]
      · rw [e1, g2_gridL (by omega) hx]
        have := h1.2 h0
        simp; omega
    simp [steepAt, a1, a2, oneB]
theorem smooth_gl {h wd : Nat} {F : Nat → Nat → Int} {most : Int} (hh : 1 ≤ h ∧ h ≤ 8) (hw : 1 ≤ wd ∧ wd ≤ 8) (hF : ∀ y x, y < h → x < wd → 0 ≤ F y x ∧ F y x ≤ 20) (hm : 0 ≤ most ∧ most ≤ 20) :
    smoothL (gridL h wd F) most = gridL h wd fun y x => minAll most F wd y x h := by
  unfold smoothL
  rw [if_pos (by rw [gl_ok hh hw hF, Bool.true_and]; exact inR_iff.2 hm), gridL_length, gl_len0 F hh.1]
  exact gridL_congr fun y x hy hx => minAll_congr (fun v u hv hu => g2_gridL hv hu) hy hx (Nat.le_refl _)
theorem wood_gl {h wd : Nat} {F : Nat → Nat → Int} (hh : 1 ≤ h ∧ h ≤ 8) (hw : 1 ≤ wd ∧ wd ≤ 8) (hF : ∀ y x, y < h → x < wd → 0 ≤ F y x ∧ F y x ≤ 20) : wood (gridL h wd F) = tot F wd h := by
  unfold wood
  rw [if_pos (gl_ok hh hw hF), gridL_length, gl_len0 F hh.1]
  exact tot_congr fun y x hy hx => g2_gridL hy hx
theorem carve_gl {h wd : Nat} {F G : Nat → Nat → Int} (hh : 1 ≤ h ∧ h ≤ 8) (hw : 1 ≤ wd ∧ wd ≤ 8) (hF : ∀ y x, y < h → x < wd → 0 ≤ F y x ∧ F y x ≤ 20) (hG : ∀ y x, y < h → x < wd → 0 ≤ G y x ∧ G y x ≤ F y x) : carve (gridL h wd F) (gridL h wd G) = true := by
  refine carve_yes (gl_ok hh hw hF) (gl_ok hh hw fun y x hy hx => ?_) (by rw [gridL_length, gridL_length]) (by rw [gl_len0 F hh.1, gl_len0 G hh.1]) fun y hy x hx => ?_
  · have := hF y x hy hx; have := hG y x hy hx; omega
  · rw [gridL_length] at hy
    rw [gl_len0 F hh.1] at hx
    rw [g2_gridL hy hx, g2_gridL hy hx]
    exact (hG y x hy hx).2
theorem cuts_gl {h wd : Nat} {F G : Nat → Nat → Int} (hh : 1 ≤ h ∧ h ≤ 8) (hw : 1 ≤ wd ∧ wd ≤ 8) (hF : ∀ y x, y < h → x < wd → 0 ≤ F y x ∧ F y x ≤ 20) (hG : ∀ y x, y < h → x < wd → 0 ≤ G y x ∧ G y x ≤ F y x) :
    (cuts (gridL h wd F) (gridL h wd G) = 0 ↔ ∀ y x, y < h → x < wd → G y x = F y x) ∧ 0 ≤ cuts (gridL h wd F) (gridL h wd G) ∧ cuts (gridL h wd F) (gridL h wd G) ≤ 64 := by
  unfold cuts
  rw [if_pos (carve_gl hh hw hF hG), gridL_length, gl_len0 F hh.1]
  have hb : ∀ y x, 0 ≤ cutAt (gridL h wd F) (gridL h wd G) y x ∧ cutAt (gridL h wd F) (gridL h wd G) y x ≤ 1 := fun y x => by unfold cutAt; split <;> omega
  have ht := tot_bd (f := cutAt (gridL h wd F) (gridL h wd G)) (m := 1) (h := h) (wd := wd) (Nat.le_refl h) hh.2 hw.2 (by omega) fun y x _ _ => hb y x
  refine ⟨?_, ht.1, by omega⟩
  rw [tot_null fun y x _ _ => (hb y x).1]
  constructor
  · intro h0 y x hy hx
    have := h0 y x hy hx
    unfold cutAt at this
    rw [g2_gridL hy hx, g2_gridL hy hx] at this
    split at this
    · assumption
    · omega
  · intro h0 y x hy hx
    unfold cutAt
    rw [g2_gridL hy hx, g2_gridL hy hx, if_pos (h0 y x hy hx)]
theorem cutL_gl {h wd : Nat} {F : Nat → Nat → Int} (hh : 1 ≤ h ∧ h ≤ 8) (hw : 1 ≤ wd ∧ wd ≤ 8) (hF : ∀ y x, y < h → x < wd → 0 ≤ F y x ∧ F y x ≤ 20) {y x : Nat} (hy : y < h) (hx : x < wd) {z : Int} :
    (cutOk (gridL h wd F) (x : Int) (y : Int) z = inR z 0 (F y x)) ∧ (inR z 0 (F y x) = true → cutL (gridL h wd F) (x : Int) (y : Int) z = gridL h wd (upd F y x z)) := by
  have e : cutOk (gridL h wd F) (x : Int) (y : Int) z = inR z 0 (F y x) := by
    unfold cutOk
    rw [gl_ok hh hw hF, gridL_length, gl_len0 F hh.1, Int.toNat_natCast, Int.toNat_natCast, g2_gridL hy hx]
    rw [inR_iff.2 (show 0 ≤ (y : Int) ∧ (y : Int) ≤ (h : Int) - 1 by omega), inR_iff.2 (show 0 ≤ (x : Int) ∧ (x : Int) ≤ (wd : Int) - 1 by omega)]
    simp
  refine ⟨e, fun hz => ?_⟩
  unfold cutL
  rw [e, if_pos hz, Int.toNat_natCast, Int.toNat_natCast, gridL_set hy]
/-- what the law asks of heads. -/
structure HeadsOk (b : List (List Int)) (most : Int) (y x : Nat) : Prop where
  carve1 : carve b (smoothL b most) = true
  flat : steep (smoothL b most) most = 0
  again : smoothL (smoothL b most) most = smoothL b most
  len : (smoothL b most).length = b.length
  row : ∀ k, k < b.length → (rowAt (smoothL b most) k).length = (rowAt b 0).length
  bd : ∀ v u, v < b.length → u < (rowAt b 0).length → 0 ≤ g2 (smoothL b most) v u ∧ g2 (smoothL b most) v u ≤ g2 b v u ∧ g2 b v u ≤ 20
  cut0 : cuts b (smoothL b most) = 0 ↔ steep b most = 0
  wood1 : wood (smoothL b most) ≤ wood b
  yes : cutOk b (x : Int) (y : Int) (g2 (smoothL b most) y x) = true
  no : cutOk b (x : Int) (y : Int) (g2 b y x + 1) = false
  one : wood b - wood (cutL b (x : Int) (y : Int) (g2 (smoothL b most) y x)) = g2 b y x - g2 (smoothL b most) y x
  high : g2 (smoothL b most) y x < g2 b y x → steep ((smoothL b most).set y ((rowAt (smoothL b most) y).set x (g2 (smoothL b most) y x + 1))) most ≠ 0
  carve2 : carve b (cutL b (x : Int) (y : Int) (g2 (smoothL b most) y x)) = true
theorem heads_law {b : List (List Int)} {most : Int} (hb : gridOk b 8 8 0 20 = true) (hm : 0 ≤ most ∧ most ≤ 20) {y x : Nat} (hy : y < b.length) (hx : x < (rowAt b 0).length) : HeadsOk b most y x := by
  obtain ⟨hg, hh', hw'⟩ := gridOk_grid hb
  have hbe := grid_eq hg
  generalize eh : b.length = h at *
  generalize ew : (rowAt b 0).length = wd at *
  have hh : 1 ≤ h ∧ h ≤ 8 := by omega
  have hw : 1 ≤ wd ∧ wd ≤ 8 := by omega
  have hF : ∀ y x, y < h → x < wd → 0 ≤ g2 b y x ∧ g2 b y x ≤ 20 := hg.bd
  generalize ef : g2 b = F at *
  clear hg hb
  subst hbe
  clear eh ew ef
  have hs := smooth_gl hh hw hF hm
  have hS : ∀ y x, y < h → x < wd → 0 ≤ minAll most F wd y x h ∧ minAll most F wd y x h ≤ F y x := fun y x hy hx =>
    ⟨(minAll_bd hm hF hh.2 hw.2 hy hx (Nat.le_refl _)).1, (minAll_le most F wd y x h).1⟩
  have hS20 : ∀ y x, y < h → x < wd → 0 ≤ minAll most F wd y x h ∧ minAll most F wd y x h ≤ 20 := fun y x hy hx => by
    have := hS y x hy hx; have := hF y x hy hx; omega
  have hlipS : Lips (fun y x => minAll most F wd y x h) h wd most := fun y x v u hy hx hv hu => minAll_lips hm.1 F hv hu
  have hg2s : ∀ v u, v < h → u < wd → g2 (smoothL (gridL h wd F) most) v u = minAll most F wd v u h := fun v u hv hu => by rw [hs, g2_gridL hv hu]
  have hg2 : ∀ v u, v < h → u < wd → g2 (gridL h wd F) v u = F v u := fun v u hv hu => g2_gridL hv hu
  have hlen0 := gl_len0 (wd := wd) F hh.1
  have hyes : inR (minAll most F wd y x h) 0 (F y x) = true := inR_iff.2 (hS y x hy hx)
  have hcut := (cutL_gl hh hw hF hy hx (z := minAll most F wd y x h))
  have hup : ∀ v u, v < h → u < wd → 0 ≤ upd F y x (minAll most F wd y x h) v u ∧ upd F y x (minAll most F wd y x h) v u ≤ F v u := fun v u hv hu => by
    unfold upd
    split
    · rename_i e; obtain ⟨rfl, rfl⟩ := e; exact hS v u hv hu
    · have := hF v u hv hu; omega
  refine ⟨?_, ?_, ?_, ?_, fun k hk => ?_, fun v u hv hu => ?_, ?_, ?_, ?_, ?_, ?_, fun hlt => ?_, ?_⟩
  · rw [hs]; exact carve_gl hh hw hF hS
  · rw [hs]; exact (steep_gl hh hw hS20).2 hlipS.flat
  · rw [hs, smooth_gl hh hw hS20 hm]
    refine gridL_congr fun v u hv hu => ?_
    have h1 := (minAll_le most (fun y x => minAll most F wd y x h) wd v u h).1
    have h2 : minAll most F wd v u h ≤ minAll most (fun y x => minAll most F wd y x h) wd v u h := minAll_ge (Int.le_refl _) fun v' u' hv' hu' => hlipS v u v' u' hv hu hv' hu'
    exact Int.le_antisymm h1 h2
  · rw [hs, gridL_length, gridL_length]
  · rw [gridL_length] at hk
    rw [hs, row_gridL_length hk, hlen0]
  · rw [gridL_length] at hv
    rw [hlen0] at hu
    rw [hg2s v u hv hu, hg2 v u hv hu]
    exact ⟨(hS v u hv hu).1, (hS v u hv hu).2, (hF v u hv hu).2⟩
  · rw [hs, (cuts_gl hh hw hF hS).1, steep_gl hh hw hF]
    constructor
    · intro h0 v u hv hu
      have := hlipS.flat v u hv hu
      refine ⟨fun hp => ?_, fun hp => ?_⟩
      · have := this.1 hp
        rw [h0 v u hv hu, h0 v (u - 1) hv (by omega)] at this
        exact this
      · have := this.2 hp
        rw [h0 v u hv hu, h0 (v - 1) u (by omega) hu] at this
        exact this
    · intro hf v u hv hu
      have hl := hf.lips
      exact Int.le_antisymm (hS v u hv hu).2 (minAll_ge (Int.le_refl _) fun v' u' hv' hu' => hl v u v' u' hv hu hv' hu')
  · rw [hs, wood_gl hh hw hS20, wood_gl hh hw hF]
    exact tot_mono fun v u hv hu => (hS v u hv hu).2
  · rw [hg2s y x hy hx, hcut.1]; exact hyes
  · rw [hg2 y x hy hx, (cutL_gl hh hw hF hy hx).1]
    exact inR_false.2 (by omega)
  · rw [hg2s y x hy hx, hg2 y x hy hx, hcut.2 hyes, wood_gl hh hw hF, wood_gl hh hw fun v u hv hu => ⟨(hup v u hv hu).1, by have := hup v u hv hu; have := hF v u hv hu; omega⟩, tot_upd hy hx]
    omega
  · rw [hg2s y x hy hx, hg2 y x hy hx] at hlt
    have hUp : ∀ v u, v < h → u < wd → 0 ≤ upd (fun y x => minAll most F wd y x h) y x (minAll most F wd y x h + 1) v u ∧ upd (fun y x => minAll most F wd y x h) y x (minAll most F wd y x h + 1) v u ≤ F v u := fun v u hv hu => by
      unfold upd
      split
      · rename_i e; obtain ⟨rfl, rfl⟩ := e
        have := hS v u hv hu; omega
      · exact hS v u hv hu
    rw [hg2s y x hy hx, hs, gridL_set hy]
    intro h0
    have hfl := ((steep_gl hh hw fun v u hv hu => ⟨(hUp v u hv hu).1, by have := hUp v u hv hu; have := hF v u hv hu; omega⟩).1 h0).lips
    have : minAll most F wd y x h + 1 ≤ minAll most F wd y x h := by
      have e : upd (fun y x => minAll most F wd y x h) y x (minAll most F wd y x h + 1) y x = minAll most F wd y x h + 1 := by simp [upd]
      refine minAll_ge (by omega) fun v u hv hu => ?_
      have h1 := hfl y x v u hy hx hv hu
      rw [e] at h1
      have := (hUp v u hv hu).2
      omega
    omega
  · rw [hg2s y x hy hx, hcut.2 hyes]
    exact carve_gl hh hw hF hup

theorem sumLen_gridL {h wd : Nat} {F : Nat → Nat → Int} {k : Nat} (hk : k ≤ h) : sumLen (gridL h wd F) k = k * wd := by
  induction k with
  | zero => simp [sumLen]
  | succ k ih => rw [sumLen, ih (by omega), row_gridL_length (by omega), Nat.succ_mul]
theorem SmoothedBlock_len (rows : List (List Int)) (most : Int) (_ : OkM rows) : OkM (smoothL rows most) := by
  unfold smoothL
  split
  · rename_i hg
    simp only [Bool.and_eq_true] at hg
    obtain ⟨_, hh, hw⟩ := gridOk_grid hg.1
    refine ⟨by rw [gridL_length]; omega, ?_⟩
    rw [gridL_length, sumLen_gridL (Nat.le_refl _)]
    have : rows.length * (rowAt rows 0).length ≤ 8 * 8 := Nat.mul_le_mul (by omega) (by omega)
    omega
  · exact ⟨by simp, by simp [sumLen]⟩

end Go.Proofs.Ytlkaalbhhnineaa
