/- Slices of fades: how they read. -/
import Derived.Test.YtiibegilolijlaaHlp
import Derived.Deep.Slices
import Derived.WalkKit
import Derived.ProofKit
import Derived.Handy
import Derived.OpenShut
import Derived.ShutString
import Derived.ChangeOld
import Derived.Below
import Derived.BigQuiet
import Derived.Deep.QuietTactic
import Derived.Deep.Draws
import Derived.Deep.DeepCutAuto
import Derived.Deep.DeepFit
import Derived.Deep.LoopGhost
import Derived.Outline
import Derived.WalkSpells
import Derived.WalkLawsBesides
import Derived.WalkSmall
import Derived.Laws.OwnMore
import Derived.OneCell
import Derived.Laws.Rows
import Derived.Maps.AppendAt
import Derived.StillTailTactics
import Derived.Lib.SmallJoins
import Derived.Deep.RegionWith
import Derived.Deep.RegionHeld3
import Derived.RegionTactic
import Derived.Deep.Matrix
import Derived.Deep.Fields
import Derived.ChangeSame
namespace Go.Proofs.Ytiibegilolijlaa
open Go.RowKit

/-- the number in field j of element k. -/
def fd (rows : List (List Int)) (k j : Nat) : Int := gt (rows.getD k []) j
/-- A slice value that reads as a list of structs of 4 numbers. -/
def RdS (w : World) (v : Value) (rows : List (List Int)) : Prop :=
  ∃ A c, rows.length ≤ c ∧ v = .slice A rows.length c ∧ (0 < rows.length → ∃ b off, A = some ⟨b, off, none⟩ ∧ b < w.heap.size ∧ ∀ k j, k < rows.length → j < 4 → w.cell? ⟨b, off + k * 4 + j, none⟩ = some (.int .i64 (fd rows k j)))
theorem RdS.below {w w' : World} {v : Value} {rows : List (List Int)} (h : RdS w v rows) (hb : Nx w w') : RdS w' v rows := by
  obtain ⟨A, c, hcap, rfl, hx⟩ := h
  refine ⟨A, c, hcap, rfl, fun h0 => ?_⟩
  obtain ⟨b, off, rfl, hlt, hc⟩ := hx h0
  exact ⟨b, off, rfl, Nat.lt_of_lt_of_le hlt hb.size, fun k j hk hj => (hb.cell (p := ⟨b, off + k * 4 + j, none⟩) hlt).trans (hc k j hk hj)⟩
theorem RdS.reads {w : World} {v : Value} {rows : List (List Int)} (h : RdS w v rows) : RdS w v rows := h
theorem RdS.mono {w : World} {v : Value} {rows : List (List Int)} (h : RdS w v rows) {m n : Nat} (_ : m ≤ n) : RdS w v rows := h
def OkS (rows : List (List Int)) : Prop := ∀ k j, k < rows.length → j < 4 → I64 (fd rows k j)

section
open Go.ChangeShapes Go.WideShapes Go.Deep
variable {H : Type} {enc : TypeId × Value → H} {P : Program} {w : World} {base : Nat} {spare : Nat → Bool} {held : Bool}
theorem open_slice_fields {t e : TypeId} {fs : Array Field} {fuel : Nat} {cs : List Value} {x : DataW H × List MemPlace} (ht : P.underlying t = some (.slice e)) (he : P.underlying e = some (.struct fs))
    (hone : oneCellFields P fs = true) (hC : P.cellsOf e = fs.size) (h : DataW.trod enc P w base spare held fuel t cs = some x) :
    (cs = [.slice none 0 0] ∧ x = (.nil, [])) ∨
    ∃ (a : Addr) (len cap m : Nat), cs = [.slice (some a) len cap] ∧ len ≤ cap ∧ cap ≤ maxLen ∧ m = (if spare a.block then cap else len) ∧
      ∀ i, i < m → ∃ (ys : List (DataW H × List MemPlace)) (n : Nat), 
        ∀ (j : Nat) (f : Field), fs[j]? = some f → ∃ (v : Value) (y : DataW H × List MemPlace), w.cell? (a.add (i * fs.size + j)) = some v ∧ ys[j]? = some y ∧ DataW.trod enc P w base spare held n f.type [v] = some y := by
  rcases open_slice ht h with h0 | ⟨a, len, cap, m, n, D, Pl, hcs, hb, hl, hm, hmm, hx, hi⟩
  · exact .inl h0
  · refine .inr ⟨a, len, cap, m, hcs, hl, hm, hmm, fun i him => ?_⟩
    obtain ⟨cs', hc, ht'⟩ := hi i him
    rw [hC] at hc
    obtain ⟨ys, n', hn', hy, hlen, hyl, hf⟩ := DataW.trod_struct he ht'
    obtain ⟨_, hcl, hat⟩ := World.cells?_some hc
    refine ⟨ys, n', fun j f hj => ?_⟩
    obtain ⟨ho, hk⟩ := hone_of hone j f hj
    have hjl : j < fs.size := (Array.getElem?_eq_some_iff.1 hj).1
    have hcell := hat j hjl
    have hv : cs'[j]? = some (cs'[j]'(by omega)) := List.getElem?_eq_getElem (by omega)
    have h1 := hf j f hj
    rw [ho, hk] at h1
    have hone' : (cs'.drop j).take 1 = [cs'[j]'(by omega)] := by
      rw [List.drop_eq_getElem_cons (by omega)]
      rfl
    rw [hone'] at h1
    have hys : ys[j]? = some (ys[j]'(by omega)) := List.getElem?_eq_getElem (by omega)
    refine ⟨_, _, ?_, hys, h1.trans hys⟩
    rw [← Go.Deep.add_add, hcell, hv]
end
open Go.ChangeShapes Go.WideShapes Go.Deep in
theorem open_SFade {H : Type} {enc : TypeId × Value → H} {W : World} {a : Option Addr} {len cap : Nat} {d : DataW H} {p : List MemPlace}
    (h : DataW.Trod enc Try.prog W 0 (fun _ => true) true 22 (.slice a len cap) d p) :
    ∃ rows, RdS W (.slice a len cap) rows ∧ rows.length ≤ maxLen ∧ OkS rows := by
  obtain ⟨fuel, hf⟩ := h
  rcases open_slice_fields Try.underlying22 Try.underlying47 (by kernel_rfl) (by kernel_rfl) hf with ⟨hcs, _⟩ | ⟨x, l, c, m, hcs, hl, hm, hmm, hi⟩
  · simp [Value.cells] at hcs
    obtain ⟨rfl, rfl, rfl⟩ := hcs
    exact ⟨[], ⟨none, 0, by simp, rfl, fun h => absurd h (by simp)⟩, by simp, fun k j hk => absurd hk (by simp)⟩
  · simp [Value.cells] at hcs
    obtain ⟨rfl, rfl, rfl⟩ := hcs
    have hm' : m = cap := by simpa using hmm
    subst hm'
    have hone : ∀ i, ∃ l : List Int, i < m → ∀ j, j < 4 → W.cell? (x.add (i * 4 + j)) = some (.int .i64 (gt l j)) ∧ I64 (gt l j) := by
      intro i
      by_cases him : i < m
      · obtain ⟨ys, n', hg⟩ := hi i him
        have hat : ∀ j, j < 4 → ∃ z : Int, W.cell? (x.add (i * 4 + j)) = some (.int .i64 z) ∧ I64 z := by
          intro j hj
          match j, hj with
          | 0, _ =>
            obtain ⟨v, y, hcell, _, ht⟩ := hg 0 _ rfl
            obtain ⟨z, e, _, wf⟩ := DataW.trod_int Try.underlying3 ht
            simp at e
            subst e
            exact ⟨z, hcell, I64.of_wf wf⟩
          | 1, _ =>
            obtain ⟨v, y, hcell, _, ht⟩ := hg 1 _ rfl
            obtain ⟨z, e, _, wf⟩ := DataW.trod_int Try.underlying3 ht
            simp at e
            subst e
            exact ⟨z, hcell, I64.of_wf wf⟩
          | 2, _ =>
            obtain ⟨v, y, hcell, _, ht⟩ := hg 2 _ rfl
            obtain ⟨z, e, _, wf⟩ := DataW.trod_int Try.underlying3 ht
            simp at e
            subst e
            exact ⟨z, hcell, I64.of_wf wf⟩
          | 3, _ =>
            obtain ⟨v, y, hcell, _, ht⟩ := hg 3 _ rfl
            obtain ⟨z, e, _, wf⟩ := DataW.trod_int Try.underlying3 ht
            simp at e
            subst e
            exact ⟨z, hcell, I64.of_wf wf⟩
        obtain ⟨z, hz⟩ : ∃ z : Nat → Int, ∀ j, j < 4 → W.cell? (x.add (i * 4 + j)) = some (.int .i64 (z j)) ∧ I64 (z j) := by
          have := Classical.axiomOfChoice (r := fun j (z : Int) => j < 4 → W.cell? (x.add (i * 4 + j)) = some (.int .i64 z) ∧ I64 z) (fun j => by
            by_cases hj : j < 4
            · obtain ⟨z, h⟩ := hat j hj
              exact ⟨z, fun _ => h⟩
            · exact ⟨0, fun h => absurd h hj⟩)
          exact this
        refine ⟨(List.range 4).map z, fun _ j hj => ?_⟩
        have e : gt ((List.range 4).map z) j = z j := by simp [gt, hj]
        rw [e]
        exact hz j hj
      · exact ⟨[], fun h => absurd h him⟩
    obtain ⟨F, hF⟩ := Classical.axiomOfChoice hone
    have hlen : ((List.range len).map F).length = len := by simp
    have hfd : ∀ k j, k < len → fd ((List.range len).map F) k j = gt (F k) j := fun k j hk => by simp [fd, hk]
    refine ⟨(List.range len).map F, ⟨some x, m, by rw [hlen]; omega, by rw [hlen], fun h0 => ?_⟩, by rw [hlen]; omega, fun k j hk hj => ?_⟩
    · rw [hlen] at h0 ⊢
      have hc := (hF 0 (by omega) 0 (by omega)).1
      obtain ⟨b, off, spot⟩ := x
      have hspot : spot = none := by simpa [Addr.add] using World.cell?_spot hc
      subst hspot
      refine ⟨b, off, rfl, by simpa [Addr.add] using block_lt_of_cell hc, fun k j hk hj => ?_⟩
      have := (hF k (by omega) j hj).1
      rw [add_off] at this
      rw [hfd k j hk, Nat.add_assoc]
      exact this
    · rw [hlen] at hk
      rw [hfd k j hk]
      exact (hF k (by omega) j hj).2

end Go.Proofs.Ytiibegilolijlaa
