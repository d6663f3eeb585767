/- Castings: what the closures keep. -/
import Derived.Test.YtfilpeamhcdgfaaPlK
import Derived.WalkKit
import Derived.ProofKit
import Derived.Handy
import Derived.OpenShut
import Derived.ShutString
import Derived.ChangeOld
import Derived.Below
import Derived.BigQuiet
import Derived.Deep.QuietTactic
import Derived.Deep.Draws
import Derived.Deep.DeepCutAuto
import Derived.Deep.DeepFit
import Derived.Deep.LoopGhost
import Derived.Outline
import Derived.WalkSpells
import Derived.WalkLawsBesides
import Derived.WalkSmall
import Derived.Laws.OwnMore
import Derived.OneCell
import Derived.Laws.Rows
import Derived.Maps.AppendAt
import Derived.StillTailTactics
import Derived.Lib.SmallJoins
import Derived.Deep.RegionWith
import Derived.Deep.RegionHeld3
import Derived.RegionTactic
import Derived.Deep.Matrix
import Derived.Deep.Fields
import Derived.ChangeSame
namespace Go.Proofs.Ytfilpeamhcdgfaa
open Go.RowKit

theorem set_gt {zs : List Int} {q : Nat} (h : q < zs.length) : zs.set q (gt zs q) = zs := by
  rw [gt_getElem h, List.set_getElem_self]
theorem RdI.cells {w : World} {A : Option Addr} {n c : Nat} {zs : List Int} (h : RdI w (.slice A n c) zs) (h0 : 0 < zs.length) : ∃ b off, A = some ⟨b, off, none⟩ ∧ b < w.heap.size ∧ ∀ j, j < zs.length → w.cell? ⟨b, off + j, none⟩ = some (.int .i64 (gt zs j)) := by
  obtain ⟨A', c', e, hx⟩ := h
  injection e with e1 e2 e3
  subst e1
  exact hx h0
theorem RdP.cells {w : World} {A : Option Addr} {n c : Nat} {ps : List Plr} (h : RdP w (.slice A n c) ps) (h0 : 0 < ps.length) : ∃ b off, A = some ⟨b, off, none⟩ ∧ b < w.heap.size ∧ ∀ k, k < ps.length → (∃ A1 c1, w.cell? ⟨b, off + k * 2, none⟩ = some (.slice A1 (kn ps k).length c1) ∧ RdI w (.slice A1 (kn ps k).length c1) (kn ps k)) ∧ w.cell? ⟨b, off + k * 2 + 1, none⟩ = some (.int .i64 (fr ps k)) := by
  obtain ⟨A', c', e, hx⟩ := h
  injection e with e1 e2 e3
  subst e1
  exact hx h0
/-- a pointer to a block of one cell. -/
abbrev ptr (g : Nat) : Value := .pointer (some ⟨g, 0, none⟩)
/-- the blocks of the variables that the closures hold: cast, puppets, call, list, free, rest; out, found. -/
structure CB where
  o : Nat
  p : Nat
  c : Nat
  l : Nat
  f : Nat
  r : Nat
  u : Nat
  b : Nat
abbrev cbV (K : CB) : Value := .func (.func 57) #[] #[ptr K.u, ptr K.b]
abbrev rsV (K : CB) : Value := .func (.func 60) #[] #[ptr K.o, ptr K.p, ptr K.c, ptr K.l, ptr K.f, ptr K.r]
structure CB.Ok (K : CB) (n0 : Nat) : Prop where
  op : K.p ≠ K.o
  of : K.f ≠ K.o
  ou : K.u ≠ K.o
  pu : K.p ≠ K.u
  fu : K.f ≠ K.u
  n_o : n0 ≤ K.o
  n_u : n0 ≤ K.u
  n_b : n0 ≤ K.b
theorem OwI.cut {w : World} {B g cap n m : Nat} {xs : List Int} {x : Int} (h : OwI w B (.slice (some ⟨g, 0, none⟩) m cap) (xs ++ [x])) (hn : n = xs.length) : OwI w B (.slice (some ⟨g, 0, none⟩) n cap) xs := by
  subst hn
  obtain ⟨h1, h2⟩ := h
  rcases h2 with ⟨e, _⟩ | ⟨g', cap', cur, hv, hB, hg, hle, hm, hs, ht⟩
  · cases e
  · injection hv with e1 e2 e3
    injection e1 with e1
    injection e1 with e1
    subst e1; subst e3
    simp only [List.length_append, List.length_singleton, Nat.mul_one] at *
    refine ⟨by simp, .inr ⟨g, cap, cur, rfl, hB, hg, by omega, hm, by simpa using hs, ?_⟩⟩
    have : cur.toList.take xs.length = (cur.toList.take (xs.length + 1)).take xs.length := by rw [List.take_take, Nat.min_eq_left (by omega)]
    rw [Nat.mul_one, this, ht, List.map_append, List.take_left' (by simp)]
/-- what the closures keep: a cast of k players, the free hands, whether one was found. -/
structure CI (w0 w : World) (B : Nat) (K : CB) (vp vl : Value) (gf cf n : Nat) (fs : List Int) (k : Nat) (fd : Bool) (vo vu : Value) : Prop where
  bO : Blk w K.o 23 #[vo]
  bP : Blk w K.p 23 #[vp]
  bC : Blk w K.c 62 #[cbV K]
  bL : Blk w K.l 26 #[vl]
  bF : Blk w K.f 23 #[.slice (some ⟨gf, 0, none⟩) n cf]
  bR : Blk w K.r 72 #[rsV K]
  bU : Blk w K.u 23 #[vu]
  bB : Blk w K.b 4 #[.bool fd]
  ow : ∃ cs : List Int, cs.length = k ∧ OwI w B vo cs
  of : OwN w B (.slice (some ⟨gf, 0, none⟩) n cf) n fs
  ap : vo.ownBlock ≠ some gf
  nx : Nx w0 w
theorem CI.below {w0 w w' : World} {B : Nat} {K : CB} {vp vl : Value} {gf cf n : Nat} {fs : List Int} {k : Nat} {fd : Bool} {vo vu : Value} (h : CI w0 w B K vp vl gf cf n fs k fd vo vu) (hb : Nx w w') : CI w0 w' B K vp vl gf cf n fs k fd vo vu := by
  obtain ⟨cs, h1, h2⟩ := h.ow
  exact ⟨h.bO.below hb, h.bP.below hb, h.bC.below hb, h.bL.below hb, h.bF.below hb, h.bR.below hb, h.bU.below hb, h.bB.below hb, ⟨cs, h1, h2.below hb⟩, owns_below h.of hb, h.ap, h.nx.trans hb⟩
/-- the callback was called. -/
theorem CI.found {w0 w : World} {B : Nat} {K : CB} {vp vl : Value} {gf cf n : Nat} {fs : List Int} {k : Nat} {fd : Bool} {vo vu : Value} (h : CI w0 w B K vp vl gf cf n fs k fd vo vu) (D : K.Ok w0.heap.size) (x : Value) :
    CI w0 ((w.setCell ⟨K.u, 0, none⟩ x).setCell ⟨K.b, 0, none⟩ (.bool true)) B K vp vl gf cf n fs k true vo x := by
  obtain ⟨cs, h1, h2⟩ := h.ow
  have eB : K.b ≠ K.u := h.bB.ne_ h.bU (by decide)
  have u1 : vo.ownBlock ≠ some K.u := own_ne_blk h.bU h2 (by decide)
  have u2 : vo.ownBlock ≠ some K.b := own_ne_blk h.bB h2 (by decide)
  have v1 : (Value.slice (some ⟨gf, 0, none⟩) n cf).ownBlock ≠ some K.u := own_ne_blk h.bU h.of.toI (by decide)
  have v2 : (Value.slice (some ⟨gf, 0, none⟩) n cf).ownBlock ≠ some K.b := own_ne_blk h.bB h.of.toI (by decide)
  refine ⟨(h.bO.far D.ou.symm _).far (h.bO.ne_ h.bB (by decide)) _, (h.bP.far D.pu _).far (h.bP.ne_ h.bB (by decide)) _, (h.bC.far (h.bC.ne_ h.bU (by decide)) _).far (h.bC.ne_ h.bB (by decide)) _, (h.bL.far (h.bL.ne_ h.bU (by decide)) _).far (h.bL.ne_ h.bB (by decide)) _, (h.bF.far D.fu _).far (h.bF.ne_ h.bB (by decide)) _, (h.bR.far (h.bR.ne_ h.bU (by decide)) _).far (h.bR.ne_ h.bB (by decide)) _, ?_, ?_, ⟨cs, h1, (h2.setFar u1 0 _).setFar u2 0 _⟩, ?_, h.ap, (h.nx.setCell (p := ⟨K.u, 0, none⟩) D.n_u _).setCell (p := ⟨K.b, 0, none⟩) D.n_b _⟩
  · have := (h.bU.set_ 0 x).far (h.bU.ne_ h.bB (by decide)) (p := ⟨K.b, 0, none⟩) (.bool true)
    simpa using this
  · have := (h.bB.far (p := ⟨K.u, 0, none⟩) eB x).set_ 0 (.bool true)
    simpa using this
  · have e := h.of.len
    have := (h.of.toI.setFar v1 0 x).setFar v2 0 (.bool true)
    unfold OwI at this
    rw [e] at this
    exact this
/-- a player's free hands change. -/
theorem CI.setFree {w0 w : World} {B : Nat} {K : CB} {vp vl : Value} {gf cf n : Nat} {fs : List Int} {k : Nat} {fd : Bool} {vo vu : Value} (h : CI w0 w B K vp vl gf cf n fs k fd vo vu) (hB : w0.heap.size ≤ B) (p : Nat) (x : Int) :
    CI w0 (w.setCell ⟨gf, p, none⟩ (.int .i64 x)) B K vp vl gf cf n (fs.set p x) k fd vo vu := by
  obtain ⟨cs, h1, h2⟩ := h.ow
  have far : ∀ {g : Nat} {t : TypeId} {cs : Array Value}, Blk w g t cs → 3 ≠ t → g ≠ gf := fun hb ht e => own_ne_blk hb h.of.toI ht (by rw [e]; rfl)
  exact ⟨h.bO.far (far h.bO (by decide)) _, h.bP.far (far h.bP (by decide)) _, h.bC.far (far h.bC (by decide)) _, h.bL.far (far h.bL (by decide)) _, h.bF.far (far h.bF (by decide)) _, h.bR.far (far h.bR (by decide)) _, h.bU.far (far h.bU (by decide)) _, h.bB.far (far h.bB (by decide)) _,
    ⟨cs, h1, h2.setFar h.ap p _⟩, (h.of.stored p x).1, h.ap, h.nx.setCell (p := ⟨gf, p, none⟩) (Nat.le_trans hB h.of.block.1) _⟩
/-- the variable that holds the cast is set anew. -/
theorem CI.setO {w0 w : World} {B : Nat} {K : CB} {vp vl : Value} {gf cf n : Nat} {fs : List Int} {k : Nat} {fd : Bool} {vo vu : Value} (h : CI w0 w B K vp vl gf cf n fs k fd vo vu) (D : K.Ok w0.heap.size)
    {vo' : Value} {cs : List Int} (ho : OwI w B vo' cs) (hap : vo'.ownBlock ≠ some gf) : CI w0 (w.setCell ⟨K.o, 0, none⟩ vo') B K vp vl gf cf n fs cs.length fd vo' vu := by
  have u1 : vo'.ownBlock ≠ some K.o := own_ne_blk h.bO ho (by decide)
  have v1 : (Value.slice (some ⟨gf, 0, none⟩) n cf).ownBlock ≠ some K.o := own_ne_blk h.bO h.of.toI (by decide)
  refine ⟨?_, h.bP.far D.op _, h.bC.far (h.bC.ne_ h.bO (by decide)) _, h.bL.far (h.bL.ne_ h.bO (by decide)) _, h.bF.far D.of _, h.bR.far (h.bR.ne_ h.bO (by decide)) _, h.bU.far D.ou _, h.bB.far (h.bB.ne_ h.bO (by decide)) _, ⟨cs, rfl, ho.setFar u1 0 _⟩, ?_, hap, h.nx.setCell (p := ⟨K.o, 0, none⟩) D.n_o _⟩
  · have := h.bO.set_ 0 vo'
    simpa using this
  · have e := h.of.len
    have := h.of.toI.setFar v1 0 vo'
    unfold OwI at this
    rw [e] at this
    exact this
theorem CI.cut {w0 w : World} {B : Nat} {K : CB} {vp vl : Value} {gf cf n : Nat} {fs : List Int} {k : Nat} {fd : Bool} {vu : Value} {g cap : Nat} (h : CI w0 w B K vp vl gf cf n fs (k + 1) fd (.slice (some ⟨g, 0, none⟩) (k + 1) cap) vu) (D : K.Ok w0.heap.size) :
    CI w0 (w.setCell ⟨K.o, 0, none⟩ (.slice (some ⟨g, 0, none⟩) k cap)) B K vp vl gf cf n fs k fd (.slice (some ⟨g, 0, none⟩) k cap) vu := by
  obtain ⟨cs, h1, h2⟩ := h.ow
  have e : cs = cs.take k ++ [gt cs k] := by rw [← take_gt (by omega), List.take_of_length_le (by omega)]
  rw [e] at h2
  have hl : (cs.take k).length = k := by rw [List.length_take]; omega
  have := h.setO D (OwI.cut h2 hl.symm) (by have := h.ap; simpa [Value.ownBlock] using this)
  rw [hl] at this
  exact this
theorem CI.form {w0 w : World} {B : Nat} {K : CB} {vp vl : Value} {gf cf n : Nat} {fs : List Int} {k : Nat} {fd : Bool} {vo vu : Value} (h : CI w0 w B K vp vl gf cf n fs (k + 1) fd vo vu) : ∃ g cap, vo = .slice (some ⟨g, 0, none⟩) (k + 1) cap ∧ (k + 1 ≤ cap ∧ cap ≤ maxLen) ∧ B ≤ g ∧ g < w.heap.size := by
  obtain ⟨cs, h1, h2⟩ := h.ow
  rcases h2.form with ⟨_, e⟩ | ⟨g, cap, e, hB, hg, hl, hm⟩
  · rw [e] at h1; simp at h1
  · rw [h1] at e hl
    exact ⟨g, cap, e, ⟨hl, hm⟩, hB, hg⟩
/-- a player is cast. -/
theorem CI.pushed {w0 w w1 : World} {B : Nat} {K : CB} {vp vl : Value} {gf cf n : Nat} {fs : List Int} {k : Nat} {fd : Bool} {vo vu : Value} (h : CI w0 w B K vp vl gf cf n fs k fd vo vu) (D : K.Ok w0.heap.size) (hB : w0.heap.size ≤ B)
    {v1 : Value} {x : Int} {cs : List Int} (hcs : cs.length = k) (h2 : OwI w B vo cs) (ho : OwI w1 B v1 (cs ++ [x])) (hg : w.grownBy w1 vo.ownBlock) (hat : v1.ownBlock = vo.ownBlock ∨ v1.ownBlock = some (w.heap.size + 1)) :
    CI w0 (w1.setCell ⟨K.o, 0, none⟩ v1) B K vp vl gf cf n fs (k + 1) fd v1 vu := by
  have ne : ∀ {g : Nat} {t : TypeId} {cs : Array Value}, Blk w g t cs → 3 ≠ t → some g ≠ vo.ownBlock := fun hb ht e => own_ne_blk hb h2 ht e.symm
  have hap1 : v1.ownBlock ≠ some gf := by
    rcases hat with e | e
    · rw [e]; exact h.ap
    · rw [e]
      intro he
      injection he with he
      have := h.of.block.2
      omega
  have hof : OwN w1 B (.slice (some ⟨gf, 0, none⟩) n cf) n fs := World.ownsRow.kept h.of hg (.inr fun e => h.ap e.symm)
  have bO := h.bO.grown hg (ne h.bO (by decide))
  have u1 : v1.ownBlock ≠ some K.o := own_ne_blk bO ho (by decide)
  have w1' : (Value.slice (some ⟨gf, 0, none⟩) n cf).ownBlock ≠ some K.o := own_ne_blk bO hof.toI (by decide)
  refine ⟨?_, (h.bP.grown hg (ne h.bP (by decide))).far D.op _, (h.bC.grown hg (ne h.bC (by decide))).far (h.bC.ne_ h.bO (by decide)) _, (h.bL.grown hg (ne h.bL (by decide))).far (h.bL.ne_ h.bO (by decide)) _, (h.bF.grown hg (ne h.bF (by decide))).far D.of _, (h.bR.grown hg (ne h.bR (by decide))).far (h.bR.ne_ h.bO (by decide)) _, (h.bU.grown hg (ne h.bU (by decide))).far D.ou _, (h.bB.grown hg (ne h.bB (by decide))).far (h.bB.ne_ h.bO (by decide)) _, ⟨cs ++ [x], by rw [List.length_append, List.length_singleton, hcs], ho.setFar u1 0 _⟩, ?_, hap1, (h.nx.only h2 hg hB).setCell (p := ⟨K.o, 0, none⟩) D.n_o _⟩
  · have := bO.set_ 0 v1
    simpa using this
  · have e := hof.len
    have := hof.toI.setFar w1' 0 v1
    unfold OwI at this
    rw [e] at this
    exact this

end Go.Proofs.Ytfilpeamhcdgfaa
