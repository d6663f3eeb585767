/- Players: how the laws mark them. -/
import Derived.Test.YtfilpeamhcdgfaaPlC
import Derived.WalkKit
import Derived.ProofKit
import Derived.Handy
import Derived.OpenShut
import Derived.ShutString
import Derived.ChangeOld
import Derived.Below
import Derived.BigQuiet
import Derived.Deep.QuietTactic
import Derived.Deep.Draws
import Derived.Deep.DeepCutAuto
import Derived.Deep.DeepFit
import Derived.Deep.LoopGhost
import Derived.Outline
import Derived.WalkSpells
import Derived.WalkLawsBesides
import Derived.WalkSmall
import Derived.Laws.OwnMore
import Derived.OneCell
import Derived.Laws.Rows
import Derived.Maps.AppendAt
import Derived.StillTailTactics
import Derived.Lib.SmallJoins
import Derived.Deep.RegionWith
import Derived.Deep.RegionHeld3
import Derived.RegionTactic
import Derived.Deep.Matrix
import Derived.Deep.Fields
import Derived.ChangeSame
namespace Go.Proofs.Ytfilpeamhcdgfaa
open Go.RowKit

/-- Players of the program's own in blocks from B on and below H. -/
def OwPH (w : World) (B H : Nat) (v : Value) (ps : List Plr) : Prop :=
  ∃ (xs : List Value) (rs : Nat → Value), w.ownsRow B 44 2 v ps.length xs ∧ (∀ k, k < ps.length → xs[k * 2]? = some (rs k) ∧ xs[k * 2 + 1]? = some (.int .i64 (fr ps k)) ∧ OwI w B (rs k) (kn ps k)) ∧ (∀ i j, i < j → j < ps.length → Apart (rs i) (rs j))
    ∧ (∀ g, v.ownBlock = some g → g < H) ∧ ∀ k, k < ps.length → ∀ g, (rs k).ownBlock = some g → g < H
theorem OwPH.toP {w : World} {B H : Nat} {v : Value} {ps : List Plr} (h : OwPH w B H v ps) : OwP w B v ps := by
  obtain ⟨xs, rs, h1, h2, h3, _, _⟩ := h
  exact ⟨rfl, xs, rs, h1, h2, h3⟩
theorem OwP.toH {w : World} {B : Nat} {v : Value} {ps : List Plr} (h : OwP w B v ps) : OwPH w B w.heap.size v ps := by
  obtain ⟨_, xs, rs, h1, h2, h3⟩ := h
  exact ⟨xs, rs, h1, h2, h3, fun g hg => (World.ownsRow.lt h1 g hg).2, fun k hk g hg => (own_lt (h2 k hk).2.2 hg).2⟩
theorem OwPH.below {w w' : World} {B H : Nat} {v : Value} {ps : List Plr} (h : OwPH w B H v ps) (hb : Nx w w') : OwPH w' B H v ps := by
  obtain ⟨xs, rs, h1, h2, h3, h4, h5⟩ := h
  exact ⟨xs, rs, owns_below h1 hb, fun k hk => ⟨(h2 k hk).1, (h2 k hk).2.1, (h2 k hk).2.2.below hb⟩, h3, h4, h5⟩
theorem OwPH.outb {w w' : World} {B H lo hi : Nat} {v : Value} {ps : List Plr} (h : OwPH w B H v ps) (k : Outb lo hi w w') (ha : H ≤ lo ∨ hi ≤ B) : OwPH w' B H v ps := by
  obtain ⟨xs, rs, h1, h2, h3, h4, h5⟩ := h
  refine ⟨xs, rs, owns_block h1 fun g hg => ?_, fun i hi => ⟨(h2 i hi).1, (h2 i hi).2.1, (OwIH.outb ⟨(h2 i hi).2.2, h5 i hi⟩ k ha).1⟩, h3, h4, h5⟩
  have e1 := World.ownsRow.lt h1 g hg
  have e2 := h4 g hg
  exact k.block g e1.2 (by omega)
theorem OwPH.reads {w : World} {B H : Nat} {v : Value} {ps : List Plr} (h : OwPH w B H v ps) : RdP w v ps := h.toP.reads
/-- while marks are laid. -/
structure MkP (w wr : World) (B H : Nat) (g n cap : Nat) (ps : List Plr) (rs : Nat → Value) : Prop where
  out : ∃ xs, wr.ownsRow B 44 2 (.slice (some ⟨g, 0, none⟩) n cap) n xs ∧ ∀ i, i < n → xs[i * 2]? = some (rs i) ∧ ∃ f, xs[i * 2 + 1]? = some (.int .i64 f)
  row : ∀ i, i < n → ∃ zs, zs.length = (kn ps i).length ∧ OwI wr B (rs i) zs
  keep : Outb B H w wr
theorem MkP.cells {w wr : World} {B H g n cap : Nat} {ps : List Plr} {rs : Nat → Value} (h : MkP w wr B H g n cap ps rs) {i : Nat} (hi : i < n) : wr.cell? ⟨g, i * 2, none⟩ = some (rs i) := by
  obtain ⟨xs, h1, h2⟩ := h.out
  exact (World.ownsRow.cellAt h1 (i * 2) (by omega)).trans (h2 i hi).1
theorem MkP.free {w wr : World} {B H g n cap : Nat} {ps : List Plr} {rs : Nat → Value} (h : MkP w wr B H g n cap ps rs) {i : Nat} (hi : i < n) : (∃ f, wr.cell? ⟨g, i * 2 + 1, none⟩ = some (.int .i64 f)) ∧ wr.frozen? ⟨g, i * 2 + 1, none⟩ = false := by
  obtain ⟨xs, h1, h2⟩ := h.out
  obtain ⟨f, hf⟩ := (h2 i hi).2
  exact ⟨⟨f, (World.ownsRow.cellAt h1 (i * 2 + 1) (by omega)).trans hf⟩, World.ownsRow.frozenAt h1 _⟩
theorem MkP.mark {w wr w1 : World} {B H g n cap : Nat} {ps : List Plr} {rs : Nat → Value} (h : MkP w wr B H g n cap ps rs) (hap : ∀ i j, i < j → j < n → Apart (rs i) (rs j)) (hH : ∀ k, k < n → ∀ g, (rs k).ownBlock = some g → g < H)
    {i : Nat} (hi : i < n) {zs : List Int} (hz : zs.length = (kn ps i).length) (ho : OwI w1 B (rs i) zs) (hg : wr.grownBy w1 (rs i).ownBlock) : MkP w w1 B H g n cap ps rs := by
  obtain ⟨xs, h1, h2⟩ := h.out
  obtain ⟨zi, hzi, hoi⟩ := h.row i hi
  refine ⟨⟨xs, World.ownsRow.kept h1 hg ((own_types h1 hoi (by decide)).ne), h2⟩, fun j hj => ?_, h.keep.grown hg fun b hb => ⟨(own_lt hoi hb).1, hH i hi b hb⟩⟩
  by_cases e : j = i
  · subst e
    exact ⟨zs, hz, ho⟩
  · obtain ⟨zj, hzj, hoj⟩ := h.row j hj
    have ha : Apart (rs j) (rs i) := by
      rcases Nat.lt_or_ge j i with h | h
      · exact hap j i h hi
      · exact (hap i j (by omega) hj).symm
    exact ⟨zj, hzj, hoj.kept hg ha.ne⟩
theorem MkP.store {w wr : World} {B H g n cap : Nat} {ps : List Plr} {rs : Nat → Value} (h : MkP w wr B H g n cap ps rs) (hgH : g < H) {i : Nat} (hi : i < n) (x : Int) : MkP w (wr.setCell ⟨g, i * 2 + 1, none⟩ (.int .i64 x)) B H g n cap ps rs := by
  obtain ⟨xs, h1, h2⟩ := h.out
  have hxl : xs.length = n * 2 := h1.1
  have hst := World.ownsRow.stored h1 (i * 2 + 1) (.int .i64 x)
  refine ⟨⟨_, hst.1, fun j hj => ?_⟩, fun j hj => ?_, h.keep.grown hst.2 fun b hb => ?_⟩
  · obtain ⟨e1, f, e2⟩ := h2 j hj
    rw [List.getElem?_set_ne (by omega)]
    refine ⟨e1, ?_⟩
    by_cases e : j = i
    · subst e
      exact ⟨x, by simp [List.getElem?_set]; omega⟩
    · exact ⟨f, by rw [List.getElem?_set_ne (by omega)]; exact e2⟩
  · obtain ⟨zj, hzj, hoj⟩ := h.row j hj
    exact ⟨zj, hzj, hoj.kept hst.2 (own_types hoj h1 (by decide)).ne⟩
  · injection hb with hb
    subst hb
    exact ⟨(World.ownsRow.lt h1 g rfl).1, hgH⟩
set_option maxHeartbeats 2000000 in
theorem markPlayerS_any (v : Value) (ps : List Plr) (B H : Nat) (k : Int) (w : World) (h : OwPH w B H v ps) (hl : FitP ps) (k0 : 0 ≤ k) (k1 : k ≤ 1048576) :
    Calls Try.prog 13 #[v, .int .i64 k] w fun e w' => e = .returned (.int .i64 (k + (sumP ps ps.length : Int))) ∧ True ∧ Outb B H w w' := by
  obtain ⟨xs, rs, h1, h2, h3, h4, h5⟩ := h
  have hn := hl.1
  have hrow := hide (fun i hi => hl.row (k := i) hi)
  have htot := hl.2
  have hmono := hide (fun i (hi : i ≤ ps.length) => sumP_mono ps hi)
  have H3 := hide h3
  have H5 := hide h5
  clear h3 h5 hl
  rcases owns_form2 h1 with ⟨rfl, he⟩ | ⟨g, cap, rfl, hB, hg, _, _⟩
  · obtain rfl : ps = [] := List.eq_nil_of_length_eq_zero he
    go_enter Try.func13, Try.ntmps13
    go_wp2_with fail
    go_loop [1, 5] (fun q i => q = .int .i64 k ∧ i = .int .i64 0) (fun _ _ => 0)
    case atStart => exact ⟨rfl, rfl⟩
    case round =>
      obtain ⟨rfl, rfl⟩ := hrel
      go_wp2_with fail
      go_ret
      exact ⟨by simp [sumP], Outb.refl _ _ _⟩
  · have hgH := h4 g rfl
    have M0 := hide (show MkP w w B H g ps.length cap ps rs from ⟨⟨xs, h1, fun i hi => ⟨(h2 i hi).1, _, (h2 i hi).2.1⟩⟩, fun i hi => ⟨_, rfl, (h2 i hi).2.2⟩, Outb.refl _ _ _⟩)
    clear h1 h2 h4
    go_enter Try.func13, Try.ntmps13
    go_wp2_with fail
    go_loopw [1, 5] (fun q i wr => ∃ j : Nat, j ≤ ps.length ∧ i = .int .i64 j ∧ q = .int .i64 (k + (sumP ps j : Int)) ∧ MkP w wr B H g ps.length cap ps rs) (fun _ i _ => ps.length - (intOf i).toNat)
    case atStart => exact ⟨0, Nat.zero_le _, rfl, by simp [sumP], M0.out⟩
    case round =>
      clear M0
      obtain ⟨j, hj, rfl, rfl, hM⟩ := hrel
      by_cases hlt : j < ps.length
      · have hji : (j : Int) < (ps.length : Int) := by omega
        have hck := hM.cells hlt
        have hm1 := hmono.out (j + 1) (by omega)
        simp only [sumP] at hm1
        obtain ⟨zj, hzj, hjo⟩ := hM.row j hlt
        obtain ⟨A1, c1, hve, _, _⟩ := hjo.open_
        have hzl : zj.length ≤ 1048576 := by have := hrow.out j hlt; omega
        rw [hve] at hck
        have Hzj := hide hzj
        have Hve := hide hve
        have HM := hide hM
        have hjo' := hjo
        rw [hve] at hjo'
        clear hM hve hzj hjo
        go_wp2_with (go_at_call 14; fail)
        refine (markIntS_any _ _ _ B _ hjo' hzl (by omega) (by omega)).mono ?_
        rintro e w1 ⟨rfl, hj1, hg1⟩
        rw [← Hve.out] at hj1 hg1
        have hM1 := HM.out.mark H3.out H5.out hlt (by rw [marks_length]; exact Hzj.out) hj1 hg1
        have R := hide (fun x => hM1.store hgH hlt x)
        obtain ⟨⟨f, q1⟩, q2⟩ := hM1.free hlt
        have hlen := Hzj.out
        clear hj1 hg1 hjo' HM hM1 hck
        go_wp2_with fail
        go_roundw
        case rel => exact ⟨j + 1, by omega, by go_num, by simp only [sumP]; go_num, R.out _⟩
        case measure => simp [intOf]; omega
      · obtain rfl : j = ps.length := by omega
        have HM := hide hM
        clear hM
        go_wp2_with fail
        go_ret
        exact ⟨rfl, trivial, HM.out.keep⟩

end Go.Proofs.Ytfilpeamhcdgfaa
