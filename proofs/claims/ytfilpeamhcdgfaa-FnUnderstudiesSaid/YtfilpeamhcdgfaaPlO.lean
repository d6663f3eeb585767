/- Players: how they read. -/
import Derived.Test.YtfilpeamhcdgfaaHlp
import Derived.Deep.Slices
import Derived.WalkKit
import Derived.ProofKit
import Derived.Handy
import Derived.OpenShut
import Derived.ShutString
import Derived.ChangeOld
import Derived.Below
import Derived.BigQuiet
import Derived.Deep.QuietTactic
import Derived.Deep.Draws
import Derived.Deep.DeepCutAuto
import Derived.Deep.DeepFit
import Derived.Deep.LoopGhost
import Derived.Outline
import Derived.WalkSpells
import Derived.WalkLawsBesides
import Derived.WalkSmall
import Derived.Laws.OwnMore
import Derived.OneCell
import Derived.Laws.Rows
import Derived.Maps.AppendAt
import Derived.StillTailTactics
import Derived.Lib.SmallJoins
import Derived.Deep.RegionWith
import Derived.Deep.RegionHeld3
import Derived.RegionTactic
import Derived.Deep.Matrix
import Derived.Deep.Fields
import Derived.ChangeSame
namespace Go.Proofs.Ytfilpeamhcdgfaa
open Go.RowKit

/-- A player: what he knows, his free hands. -/
abbrev Plr := List Int × Int
def kn (ps : List Plr) (k : Nat) : List Int := (ps.getD k ([], 0)).1
def fr (ps : List Plr) (k : Nat) : Int := (ps.getD k ([], 0)).2
theorem pl_eq {ps : List Plr} {k : Nat} (h : k < ps.length) : (kn ps k, fr ps k) = ps[k] := by simp [kn, fr, h]
theorem kn_set_same {ps : List Plr} {k : Nat} (h : k < ps.length) (p : Plr) : kn (ps.set k p) k = p.1 := by simp [kn, h]
theorem kn_set_other {ps : List Plr} {k j : Nat} (h : j ≠ k) (p : Plr) : kn (ps.set k p) j = kn ps j := by simp [kn, Ne.symm h]
theorem fr_set_same {ps : List Plr} {k : Nat} (h : k < ps.length) (p : Plr) : fr (ps.set k p) k = p.2 := by simp [fr, h]
theorem fr_set_other {ps : List Plr} {k j : Nat} (h : j ≠ k) (p : Plr) : fr (ps.set k p) j = fr ps j := by simp [fr, Ne.symm h]
theorem kn_snoc_lt {ps : List Plr} {p : Plr} {k : Nat} (h : k < ps.length) : kn (ps ++ [p]) k = kn ps k := by simp [kn, List.getElem?_append_left h]
theorem fr_snoc_lt {ps : List Plr} {p : Plr} {k : Nat} (h : k < ps.length) : fr (ps ++ [p]) k = fr ps k := by simp [fr, List.getElem?_append_left h]
theorem kn_snoc_eq {ps : List Plr} {p : Plr} {k : Nat} (h : k = ps.length) : kn (ps ++ [p]) k = p.1 := by subst h; simp [kn]
theorem fr_snoc_eq {ps : List Plr} {p : Plr} {k : Nat} (h : k = ps.length) : fr (ps ++ [p]) k = p.2 := by subst h; simp [fr]
theorem take_pl {ps : List Plr} {k : Nat} (h : k < ps.length) : ps.take (k + 1) = ps.take k ++ [(kn ps k, fr ps k)] := by
  rw [pl_eq h, List.take_succ_eq_append_getElem h]
theorem ext_pl {ps qs : List Plr} (hl : ps.length = qs.length) (h : ∀ k, k < ps.length → kn ps k = kn qs k ∧ fr ps k = fr qs k) : ps = qs := by
  apply List.ext_getElem hl
  intro k h1 h2
  rw [← pl_eq h1, ← pl_eq h2, (h k h1).1, (h k h1).2]

/-- A slice value that reads as a list of players. -/
def RdP (w : World) (v : Value) (ps : List Plr) : Prop :=
  ∃ A c, v = .slice A ps.length c ∧ (0 < ps.length → ∃ b off, A = some ⟨b, off, none⟩ ∧ b < w.heap.size ∧ ∀ k, k < ps.length → (∃ A1 c1, w.cell? ⟨b, off + k * 2, none⟩ = some (.slice A1 (kn ps k).length c1) ∧ RdI w (.slice A1 (kn ps k).length c1) (kn ps k)) ∧ w.cell? ⟨b, off + k * 2 + 1, none⟩ = some (.int .i64 (fr ps k)))
theorem RdP.below {w w' : World} {v : Value} {ps : List Plr} (h : RdP w v ps) (hb : Nx w w') : RdP w' v ps := by
  obtain ⟨A, c, rfl, hx⟩ := h
  refine ⟨A, c, rfl, fun h0 => ?_⟩
  obtain ⟨b, off, rfl, hlt, hc⟩ := hx h0
  refine ⟨b, off, rfl, Nat.lt_of_lt_of_le hlt hb.size, fun k hk => ?_⟩
  obtain ⟨⟨A1, c1, h1, h2⟩, h3⟩ := hc k hk
  exact ⟨⟨A1, c1, (hb.cell (p := ⟨b, off + k * 2, none⟩) hlt).trans h1, h2.below hb⟩, (hb.cell (p := ⟨b, off + k * 2 + 1, none⟩) hlt).trans h3⟩
/-- how many numbers the first k players hold. -/
def sumP (ps : List Plr) : Nat → Nat
  | 0 => 0
  | k + 1 => sumP ps k + ((kn ps k).length + 1)
theorem sumP_mono (ps : List Plr) {j k : Nat} (h : j ≤ k) : sumP ps j ≤ sumP ps k := by
  induction k with
  | zero => obtain rfl : j = 0 := by omega
            exact Nat.le_refl _
  | succ k ih =>
    rcases Nat.lt_or_ge j (k + 1) with h1 | h1
    · have := ih (by omega); simp only [sumP]; omega
    · obtain rfl : j = k + 1 := by omega
      exact Nat.le_refl _
/-- players that a law lets by. -/
def FitP (ps : List Plr) : Prop := ps.length ≤ 1048576 ∧ sumP ps ps.length ≤ 1048576
theorem FitP.row {ps : List Plr} (h : FitP ps) {k : Nat} (hk : k < ps.length) : (kn ps k).length ≤ 1048576 := by
  have h1 := sumP_mono ps (j := k + 1) (k := ps.length) (by omega)
  have h2 := h.2
  simp only [sumP] at h1
  omega
def LenP (ps : List Plr) : Prop := ps.length ≤ maxLen ∧ ∀ k, k < ps.length → (kn ps k).length ≤ maxLen
def OkP (ps : List Plr) : Prop := ∀ k, k < ps.length → I64 (fr ps k) ∧ ∀ n ∈ kn ps k, I64 n

section
open Go.ChangeShapes Go.WideShapes Go.Deep
variable {H : Type} {enc : TypeId × Value → H} {P : Program} {w : World} {base : Nat} {spare : Nat → Bool} {held : Bool}
theorem open_slice_fields {t e : TypeId} {fs : Array Field} {fuel : Nat} {cs : List Value} {x : DataW H × List MemPlace} (ht : P.underlying t = some (.slice e)) (he : P.underlying e = some (.struct fs))
    (hone : oneCellFields P fs = true) (hC : P.cellsOf e = fs.size) (h : DataW.trod enc P w base spare held fuel t cs = some x) :
    (cs = [.slice none 0 0] ∧ x = (.nil, [])) ∨
    ∃ (a : Addr) (len cap m : Nat), cs = [.slice (some a) len cap] ∧ len ≤ cap ∧ cap ≤ maxLen ∧ m = (if spare a.block then cap else len) ∧
      ∀ i, i < m → ∃ (ys : List (DataW H × List MemPlace)) (n : Nat),
        ∀ (j : Nat) (f : Field), fs[j]? = some f → ∃ (v : Value) (y : DataW H × List MemPlace), w.cell? (a.add (i * fs.size + j)) = some v ∧ ys[j]? = some y ∧ DataW.trod enc P w base spare held n f.type [v] = some y := by
  rcases open_slice ht h with h0 | ⟨a, len, cap, m, n, D, Pl, hcs, hb, hl, hm, hmm, hx, hi⟩
  · exact .inl h0
  · refine .inr ⟨a, len, cap, m, hcs, hl, hm, hmm, fun i him => ?_⟩
    obtain ⟨cs', hc, ht'⟩ := hi i him
    rw [hC] at hc
    obtain ⟨ys, n', hn', hy, hlen, hyl, hf⟩ := DataW.trod_struct he ht'
    obtain ⟨_, hcl, hat⟩ := World.cells?_some hc
    refine ⟨ys, n', fun j f hj => ?_⟩
    obtain ⟨ho, hk⟩ := hone_of hone j f hj
    have hjl : j < fs.size := (Array.getElem?_eq_some_iff.1 hj).1
    have hcell := hat j hjl
    have hv : cs'[j]? = some (cs'[j]'(by omega)) := List.getElem?_eq_getElem (by omega)
    have h1 := hf j f hj
    rw [ho, hk] at h1
    have hone' : (cs'.drop j).take 1 = [cs'[j]'(by omega)] := by
      rw [List.drop_eq_getElem_cons (by omega)]
      rfl
    rw [hone'] at h1
    have hys : ys[j]? = some (ys[j]'(by omega)) := List.getElem?_eq_getElem (by omega)
    refine ⟨_, _, ?_, hys, h1.trans hys⟩
    rw [← Go.Deep.add_add, hcell, hv]
end
open Go.ChangeShapes Go.WideShapes Go.Deep in
theorem open_P {H : Type} {enc : TypeId × Value → H} {W : World} {a : Option Addr} {len cap : Nat} {d : DataW H} {p : List MemPlace}
    (h : DataW.Trod enc Try.prog W 0 (fun _ => true) true 22 (.slice a len cap) d p) :
    ∃ ps, RdP W (.slice a len cap) ps ∧ LenP ps ∧ OkP ps := by
  obtain ⟨fuel, hf⟩ := h
  rcases open_slice_fields Try.underlying22 Try.underlying50 (by kernel_rfl) (by kernel_rfl) hf with ⟨hcs, _⟩ | ⟨x, l, c, m, hcs, hl, hm, hmm, hi⟩
  · simp [Value.cells] at hcs
    obtain ⟨rfl, rfl, rfl⟩ := hcs
    exact ⟨[], ⟨none, 0, rfl, fun h => absurd h (by simp)⟩, ⟨by simp, fun k hk => absurd hk (by simp)⟩, fun k hk => absurd hk (by simp)⟩
  · simp [Value.cells] at hcs
    obtain ⟨rfl, rfl, rfl⟩ := hcs
    have hm' : m = cap := by simpa using hmm
    subst hm'
    have hone : ∀ i, ∃ q : Plr, i < m → (∃ A1 c1, W.cell? (x.add (i * 2)) = some (.slice A1 q.1.length c1) ∧ RdI W (.slice A1 q.1.length c1) q.1) ∧ q.1.length ≤ maxLen ∧ (∀ n ∈ q.1, I64 n) ∧ W.cell? (x.add (i * 2 + 1)) = some (.int .i64 q.2) ∧ I64 q.2 := by
      intro i
      by_cases him : i < m
      · obtain ⟨ys, n', hg⟩ := hi i him
        obtain ⟨v0, y0, hc0, _, ht0⟩ := hg 0 _ rfl
        obtain ⟨v1, y1, hc1, _, ht1⟩ := hg 1 _ rfl
        obtain ⟨z, e, _, wf⟩ := DataW.trod_int Try.underlying3 ht1
        simp at e
        subst e
        rcases open_ints Try.underlying23 Try.underlying3 (by kernel_rfl) ht0 with ⟨hcs, _⟩ | ⟨x1, l1, c1, zs, hcs, _, hl1, hm1, hz, _, hcell, hwz⟩
        · simp at hcs
          subst hcs
          exact ⟨([], z), fun _ => ⟨⟨none, 0, hc0, RdI.nil _ _ _⟩, by simp, by simp, hc1, I64.of_wf wf⟩⟩
        · simp at hcs
          subst hcs
          obtain ⟨ys', hr, hle, hw⟩ := isRow_reads (w := W) (a := some x1) (len := l1) (cap := c1) (zs := zs) (.inr ⟨_, rfl, hl1, hm1, by simpa using hz, hcell, hwz⟩)
          obtain ⟨A', c', e', hx'⟩ := hr
          injection e' with e1 e2 e3
          subst e1 e2 e3
          exact ⟨(ys', z), fun _ => ⟨⟨_, _, hc0, ⟨_, _, rfl, hx'⟩⟩, hle, fun n hn => I64.of_wf (hw n hn), hc1, I64.of_wf wf⟩⟩
      · exact ⟨([], 0), fun h => absurd h him⟩
    obtain ⟨F, hF⟩ := Classical.axiomOfChoice hone
    have hlen : ((List.range len).map F).length = len := by simp
    have hkn : ∀ k, k < len → kn ((List.range len).map F) k = (F k).1 := fun k hk => by simp [kn, hk]
    have hfr : ∀ k, k < len → fr ((List.range len).map F) k = (F k).2 := fun k hk => by simp [fr, hk]
    refine ⟨(List.range len).map F, ⟨some x, m, by rw [hlen], fun h0 => ?_⟩, ⟨by rw [hlen]; omega, fun k hk => ?_⟩, fun k hk => ?_⟩
    · rw [hlen] at h0 ⊢
      obtain ⟨⟨_, _, hc, _⟩, _⟩ := hF 0 (by omega)
      obtain ⟨b, off, spot⟩ := x
      have hspot : spot = none := by simpa [Addr.add] using World.cell?_spot hc
      subst hspot
      refine ⟨b, off, rfl, by simpa [Addr.add] using block_lt_of_cell hc, fun k hk => ?_⟩
      obtain ⟨⟨A1, c1, h1, h2⟩, _, _, h3, _⟩ := hF k (by omega)
      rw [add_off] at h1 h3
      rw [hkn k hk, hfr k hk]
      exact ⟨⟨A1, c1, h1, h2⟩, h3⟩
    · rw [hlen] at hk
      rw [hkn k hk]
      exact (hF k (by omega)).2.1
    · rw [hlen] at hk
      rw [hkn k hk, hfr k hk]
      exact ⟨(hF k (by omega)).2.2.2.2, (hF k (by omega)).2.2.1⟩

/-- Players of the program's own: the outer slice and what each knows in blocks of their own. -/
def OwPN (w : World) (B : Nat) (v : Value) (n : Nat) (ps : List Plr) : Prop :=
  ps.length = n ∧ ∃ (xs : List Value) (rs : Nat → Value), w.ownsRow B 44 2 v n xs ∧ (∀ k, k < n → xs[k * 2]? = some (rs k) ∧ xs[k * 2 + 1]? = some (.int .i64 (fr ps k)) ∧ OwI w B (rs k) (kn ps k)) ∧ (∀ i j, i < j → j < n → Apart (rs i) (rs j))
def OwP (w : World) (B : Nat) (v : Value) (ps : List Plr) : Prop := OwPN w B v ps.length ps
theorem OwPN.toP {w : World} {B : Nat} {v : Value} {n : Nat} {ps : List Plr} (h : OwPN w B v n ps) : OwP w B v ps := by
  have := h.1; subst this; exact h
theorem OwP.toN {w : World} {B n : Nat} {v : Value} {ps : List Plr} (h : OwP w B v ps) (hn : ps.length = n) : OwPN w B v n ps := by subst hn; exact h
theorem OwPN.below {w w' : World} {B : Nat} {v : Value} {n : Nat} {ps : List Plr} (h : OwPN w B v n ps) (hb : Nx w w') : OwPN w' B v n ps := by
  obtain ⟨h0, xs, rs, h1, h2, h3⟩ := h
  exact ⟨h0, xs, rs, owns_below h1 hb, fun i hi => ⟨(h2 i hi).1, (h2 i hi).2.1, (h2 i hi).2.2.below hb⟩, h3⟩
theorem OwP.below {w w' : World} {B : Nat} {v : Value} {ps : List Plr} (h : OwP w B v ps) (hb : Nx w w') : OwP w' B v ps := OwPN.below h hb
theorem OwP.mono {w : World} {B B' : Nat} {v : Value} {ps : List Plr} (h : OwP w B v ps) (hB : B' ≤ B) : OwP w B' v ps := by
  obtain ⟨h0, xs, rs, h1, h2, h3⟩ := h
  exact ⟨h0, xs, rs, owns_mono h1 hB, fun i hi => ⟨(h2 i hi).1, (h2 i hi).2.1, (h2 i hi).2.2.mono hB⟩, h3⟩
theorem owns_form2 {w : World} {B : Nat} {e : TypeId} {size n : Nat} {v : Value} {xs : List Value} (h : w.ownsRow B e size v n xs) :
    (v = .slice none 0 0 ∧ n = 0) ∨ ∃ g cap, v = .slice (some ⟨g, 0, none⟩) n cap ∧ B ≤ g ∧ g < w.heap.size ∧ n ≤ cap ∧ cap ≤ maxLen := by
  rcases h.2 with ⟨rfl, h0⟩ | ⟨g, cap, cur, rfl, hB, hg, h1, h2, _, _⟩
  · exact .inl ⟨rfl, h0⟩
  · exact .inr ⟨g, cap, rfl, hB, lt_of_block hg, h1, h2⟩
theorem OwPN.form {w : World} {B n : Nat} {v : Value} {ps : List Plr} (h : OwPN w B v n ps) : (v = .slice none 0 0 ∧ n = 0) ∨ ∃ g cap, v = .slice (some ⟨g, 0, none⟩) n cap ∧ B ≤ g ∧ g < w.heap.size := by
  obtain ⟨_, xs, rs, h1, _⟩ := h
  rcases owns_form2 h1 with h | ⟨g, cap, e, hB, hg, _⟩
  · exact .inl h
  · exact .inr ⟨g, cap, e, hB, hg⟩
theorem OwPN.open_ {w : World} {B n : Nat} {v : Value} {ps : List Plr} (h : OwPN w B v n ps) (h0 : 0 < n) : ∃ g cap, v = .slice (some ⟨g, 0, none⟩) n cap ∧ B ≤ g ∧ g < w.heap.size := by
  rcases h.form with ⟨_, e⟩ | h
  · omega
  · exact h
/-- two own rows of different types lie in different blocks. -/
theorem own_types {w : World} {B B' : Nat} {e e' : TypeId} {size size' n n' : Nat} {v v' : Value} {xs xs' : List Value} (h : w.ownsRow B e size v n xs) (h' : w.ownsRow B' e' size' v' n' xs') (hne : e ≠ e') : Apart v v' := by
  intro g hg hg'
  rcases h.2 with ⟨rfl, _⟩ | ⟨g1, cap, cur, rfl, _, hh, _⟩
  · simp [Value.ownBlock] at hg
  · rcases h'.2 with ⟨rfl, _⟩ | ⟨g2, cap', cur', rfl, _, hh', _⟩
    · simp [Value.ownBlock] at hg'
    · simp [Value.ownBlock] at hg hg'
      subst hg
      subst hg'
      rw [hh] at hh'
      injection hh' with e1
      injection e1 with _ e2
      exact hne e2
theorem OwPN.cells {w : World} {B g cap n : Nat} {ps : List Plr} (h : OwPN w B (.slice (some ⟨g, 0, none⟩) n cap) n ps) {k : Nat} (hk : k < n) :
    (∃ r, w.cell? ⟨g, k * 2, none⟩ = some r ∧ OwI w B r (kn ps k) ∧ r.ownBlock ≠ some g) ∧ w.cell? ⟨g, k * 2 + 1, none⟩ = some (.int .i64 (fr ps k)) := by
  obtain ⟨_, xs, rs, h1, h2, _⟩ := h
  obtain ⟨e1, e2, e3⟩ := h2 k hk
  refine ⟨⟨rs k, (World.ownsRow.cellAt h1 (k * 2) (by omega)).trans e1, e3, fun he => ?_⟩, (World.ownsRow.cellAt h1 (k * 2 + 1) (by omega)).trans e2⟩
  exact own_types e3 h1 (by decide) g he rfl
theorem OwPN.frozenAt {w : World} {B g cap n : Nat} {ps : List Plr} (h : OwPN w B (.slice (some ⟨g, 0, none⟩) n cap) n ps) (i : Nat) : w.frozen? ⟨g, i, none⟩ = false := by
  obtain ⟨_, xs, rs, h1, _⟩ := h
  exact World.ownsRow.frozenAt h1 i
theorem OwP.reads {w : World} {B : Nat} {v : Value} {ps : List Plr} (h : OwP w B v ps) : RdP w v ps := by
  rcases OwPN.form h with ⟨rfl, he⟩ | ⟨g, cap, rfl, hB, hg⟩
  · have hr : ps = [] := List.eq_nil_of_length_eq_zero he
    subst hr
    exact ⟨none, 0, rfl, fun h => absurd h (by simp)⟩
  · refine ⟨_, cap, rfl, fun _ => ⟨g, 0, rfl, hg, fun k hk => ?_⟩⟩
    obtain ⟨⟨r, e1, e2, _⟩, e3⟩ := OwPN.cells h hk
    obtain ⟨A1, c1, e4, hx⟩ := e2.reads
    subst e4
    rw [Nat.zero_add]
    exact ⟨⟨A1, c1, e1, ⟨A1, c1, rfl, hx⟩⟩, e3⟩
theorem OwPN.block {w : World} {B g cap n : Nat} {ps : List Plr} (h : OwPN w B (.slice (some ⟨g, 0, none⟩) n cap) n ps) : B ≤ g ∧ g < w.heap.size := by
  obtain ⟨_, xs, rs, h1, _⟩ := h
  exact World.ownsRow.lt h1 g rfl
/-- One player is stored at place i: what he knows was made later. -/
theorem OwPN.put {w w1 : World} {B g cap n : Nat} {ps : List Plr} (h : OwPN w B (.slice (some ⟨g, 0, none⟩) n cap) n ps) (hb : Nx w w1) {r : Value} {zs : List Int} (hr : OwI w1 w.heap.size r zs) (hB : B ≤ w.heap.size)
    {i : Nat} (hi : i < n) : OwPN (w1.setCell ⟨g, i * 2, none⟩ r) B (.slice (some ⟨g, 0, none⟩) n cap) n (ps.set i (zs, fr ps i)) := by
  obtain ⟨h0, xs, rs, h1, h2, h3⟩ := h
  have hxl : xs.length = n * 2 := h1.1
  have h1' := owns_below h1 hb
  have hst := World.ownsRow.stored h1' (i * 2) r
  have hkeep : ∀ {v : Value} {ys : List Int} {B' : Nat}, OwI w1 B' v ys → OwI (w1.setCell ⟨g, i * 2, none⟩ r) B' v ys := fun ho => ho.kept hst.2 (own_types ho h1' (by decide)).ne
  have hrj : ∀ j, j < n → Apart r (rs j) := fun j hj g' hg' he => by
    have h5 := (own_lt hr hg').1
    have h6 := (own_lt (h2 j hj).2.2 he).2
    omega
  refine ⟨by rw [List.length_set]; exact h0, xs.set (i * 2) r, fun k => if k = i then r else rs k, hst.1, fun j hj => ?_, fun j k hjk hk => ?_⟩
  · obtain ⟨e1, e2, e3⟩ := h2 j hj
    by_cases hji : j = i
    · subst hji
      dsimp only
      rw [kn_set_same (by omega), fr_set_same (by omega), if_pos rfl]
      refine ⟨by simp [List.getElem?_set]; omega, by rw [List.getElem?_set_ne (by omega)]; exact e2, (hkeep hr).mono hB⟩
    · dsimp only
      rw [kn_set_other hji, fr_set_other hji, if_neg hji]
      refine ⟨by rw [List.getElem?_set_ne (by omega)]; exact e1, by rw [List.getElem?_set_ne (by omega)]; exact e2, hkeep (e3.below hb)⟩
  · dsimp only
    by_cases hji : j = i
    · subst hji
      rw [if_pos rfl, if_neg (by omega)]
      exact hrj k hk
    · rw [if_neg hji]
      by_cases hki : k = i
      · subst hki
        rw [if_pos rfl]
        exact (hrj j (by omega)).symm
      · rw [if_neg hki]
        exact h3 j k hjk hk
/-- free hands are stored at place i. -/
theorem OwPN.free {w : World} {B g cap n : Nat} {ps : List Plr} (h : OwPN w B (.slice (some ⟨g, 0, none⟩) n cap) n ps) {i : Nat} (hi : i < n) (x : Int) : OwPN (w.setCell ⟨g, i * 2 + 1, none⟩ (.int .i64 x)) B (.slice (some ⟨g, 0, none⟩) n cap) n (ps.set i (kn ps i, x)) := by
  obtain ⟨h0, xs, rs, h1, h2, h3⟩ := h
  have hxl : xs.length = n * 2 := h1.1
  have hst := World.ownsRow.stored h1 (i * 2 + 1) (.int .i64 x)
  have hkeep : ∀ {v : Value} {ys : List Int} {B' : Nat}, OwI w B' v ys → OwI (w.setCell ⟨g, i * 2 + 1, none⟩ (.int .i64 x)) B' v ys := fun ho => ho.kept hst.2 (own_types ho h1 (by decide)).ne
  refine ⟨by rw [List.length_set]; exact h0, xs.set (i * 2 + 1) (.int .i64 x), rs, hst.1, fun j hj => ?_, h3⟩
  obtain ⟨e1, e2, e3⟩ := h2 j hj
  by_cases hji : j = i
  · subst hji
    rw [kn_set_same (by omega), fr_set_same (by omega)]
    exact ⟨by rw [List.getElem?_set_ne (by omega)]; exact e1, by simp [List.getElem?_set]; omega, hkeep e3⟩
  · rw [kn_set_other hji, fr_set_other hji]
    exact ⟨by rw [List.getElem?_set_ne (by omega)]; exact e1, by rw [List.getElem?_set_ne (by omega)]; exact e2, hkeep e3⟩
theorem OwP.made0 (w : World) : OwP (w.alloc (.cells #[] 44)) w.heap.size (.slice (some ⟨w.heap.size, 0, none⟩) 0 0) [] :=
  ⟨rfl, [], fun _ => .slice none 0 0, World.ownsRow_made w #[] 0 (Nat.le_refl _) (by unfold maxLen; omega) rfl, fun i hi => absurd hi (by simp), fun i j _ hj => absurd hj (by simp)⟩
theorem OwP.base {w : World} {B : Nat} {v : Value} {ps : List Plr} (h : OwP w B v ps) : ∀ k, v.ownBlock = some k → B ≤ k := by
  obtain ⟨_, xs, rs, h1, _⟩ := h
  exact fun k hk => (World.ownsRow.lt h1 k hk).1
theorem playerInfo : (Try.prog.info? 44).map (fun i => (i.zero, i.size, i.bytes)) = some (some (.agg #[.slice none 0 0, .int .i64 0]), 2, 32) := by kernel_rfl
theorem cell_two_new (w : World) (x y : Value) (t : TypeId) : ∀ j u, [x, y][j]? = some u → (w.alloc (.cells #[x, y] t)).cell? ((⟨w.heap.size, 0, none⟩ : Addr).add j) = some u := by
  intro j u hj
  match j, hj with
  | 0, hj => simp at hj; subst hj; simp [Addr.add]
  | 1, hj => simp at hj; subst hj; simp [Addr.add]
/-- append of one player, in a block made later, to players of the program's own. -/
theorem wpList_pushP {ops : Array Oper} {rest : List Oper} {o : Oper} {a : Act} {Q : Exit → Act → World → Prop} (hgd : o.guard = none) (s x : Operand)
    (ho : o.op = .call { callee := .builtin .append, args := #[s, x], argTypes := #[26, 26] })
    (w0 w : World) (B : Nat) (v : Value) (ps : List Plr) (r : Value) (zs : List Int) (f : Int) (hs : a.eval s = v) (hx : a.eval x = .slice (some ⟨w.heap.size, 0, none⟩) 1 1)
    (hown : OwP w0 B v ps) (hb : Nx w0 w) (hr : OwI w w0.heap.size r zs) (hl : ps.length ≤ 16777216) (hB : B ≤ w0.heap.size)
    (h : ∀ v' w', OwP w' B v' (ps ++ [(zs, f)]) → w.grownBy w' v.ownBlock → wpList Try.prog ops Q rest (a.put o.dst v') w') :
    wpList Try.prog ops Q (o :: rest) a (w.alloc (.cells #[r, .int .i64 f] 44)) := by
  obtain ⟨i0, hi, hz0, hz1, hz2⟩ := info_parts playerInfo
  obtain ⟨_, xs, rs, h1, h2, h3⟩ := hown
  have hsz := hb.size
  have hxl : xs.length = ps.length * 2 := h1.1
  refine wpList_append_own_at (P := Try.prog) (w.alloc (.cells #[r, .int .i64 f] 44)) hgd s x 26 ho B 44 i0 (.agg #[.slice none 0 0, .int .i64 0]) 2 32 Try.underlying26 hi hz0 hz1 hz2 rfl (by decide) v ps.length xs hs (World.ownsRow.alloc (owns_below h1 hb) _) ⟨w.heap.size, 0, none⟩ 1 1 [r, .int .i64 f] hx rfl (cell_two_new _ _ _ _) ?_ ?_ ?_ ?_ ?_
  · intro u hu
    simp at hu
    rcases hu with rfl | rfl
    · exact hr.oneCell
    · rfl
  · unfold maxLen; omega
  · omega
  · simp; omega
  · intro v' w' hown' hg _ hat
    have hrj : ∀ j, j < ps.length → Apart r (rs j) := fun j hj g h5 h6 => by
      have := (own_lt hr h5).1
      have := (own_lt (h2 j hj).2.2 h6).2
      omega
    have keep : ∀ {u : Value} {ys : List Int} {B' : Nat}, OwI w B' u ys → OwI w' B' u ys := fun ho => (own_alloc ho (.cells #[r, .int .i64 f] 44)).kept hg (own_types (own_alloc ho (.cells #[r, .int .i64 f] 44)) (World.ownsRow.alloc (owns_below h1 hb) (.cells #[r, .int .i64 f] 44)) (by decide)).ne
    refine h v' w' ⟨rfl, xs ++ [r, .int .i64 f], fun k => if k < ps.length then rs k else r, by rw [List.length_append]; exact hown', fun k hk => ?_, fun i j hij hj => ?_⟩ (grownBy_of_alloc hg)
    · rw [List.length_append, List.length_singleton] at hk
      rcases Nat.lt_or_ge k ps.length with h5 | h5
      · obtain ⟨e1, e2, e3⟩ := h2 k h5
        dsimp only
        rw [if_pos h5, kn_snoc_lt h5, fr_snoc_lt h5, List.getElem?_append_left (by omega), List.getElem?_append_left (by omega)]
        exact ⟨e1, e2, keep (e3.below hb)⟩
      · obtain rfl : k = ps.length := by omega
        dsimp only
        rw [if_neg (by omega), kn_snoc_eq rfl, fr_snoc_eq rfl, ← hxl, List.getElem?_append_right (by omega), List.getElem?_append_right (by omega)]
        refine ⟨by simp, by simp, (keep hr).mono hB⟩
    · rw [List.length_append, List.length_singleton] at hj
      dsimp only
      rw [if_pos (by omega)]
      rcases Nat.lt_or_ge j ps.length with h5 | h5
      · rw [if_pos h5]
        exact h3 i j hij h5
      · rw [if_neg (by omega)]
        exact (hrj i (by omega)).symm

end Go.Proofs.Ytfilpeamhcdgfaa
