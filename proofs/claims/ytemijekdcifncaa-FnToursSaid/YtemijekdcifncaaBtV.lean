/- BestTour: what the closure keeps. -/
import Derived.Test.YtemijekdcifncaaBtP
import Derived.WalkKit
import Derived.ProofKit
import Derived.Handy
import Derived.OpenShut
import Derived.ShutString
import Derived.ChangeOld
import Derived.Below
import Derived.BigQuiet
import Derived.Deep.QuietTactic
import Derived.Deep.Draws
import Derived.Deep.DeepCutAuto
import Derived.Deep.DeepFit
import Derived.Deep.LoopGhost
import Derived.Outline
import Derived.WalkSpells
import Derived.WalkLawsBesides
import Derived.WalkSmall
import Derived.Laws.OwnMore
import Derived.OneCell
import Derived.Laws.Rows
import Derived.Maps.AppendAt
import Derived.StillTailTactics
import Derived.Lib.SmallJoins
import Derived.Deep.RegionWith
import Derived.Deep.RegionHeld3
import Derived.RegionTactic
import Derived.Deep.Matrix
import Derived.Deep.Fields
import Derived.ChangeSame
namespace Go.Proofs.Ytemijekdcifncaa
open Go.RowKit

set_option maxHeartbeats 1000000 in
theorem copyOf_any (v : Value) (zs : List Int) (w : World) (h : RdI w v zs) (hl : zs.length ≤ 1048576) :
    Calls Try.prog 44 #[v] w fun e w' => ∃ u, e = .returned u ∧ OwI w' w.heap.size u zs ∧ Nx w w' := by
  have hv := h
  obtain ⟨A, c, rfl, hx⟩ := h
  clear hx
  have ho := OwI.made0 w
  have hb := Nx.made w (.cells #[] 3)
  have hv1 := hv.below hb
  go_enter Try.func44, Try.ntmps44
  go_wp2_with (at_builtin; refine wpList_joinI rfl (.tmp 3) (.tmp 4) rfl _ w.heap.size _ [] _ zs rfl rfl ho hv1 (by simp; omega) (by simp) ?_; intro v1 w1 hown1 hg1 hat1; have hb1 := hb.only ho hg1 (Nat.le_refl _))
  go_ret
  exact ⟨_, rfl, hown1, hb1⟩

theorem nil_eql_nil (W : World) : (binOp .eql 22 (.slice none 0 0) (.slice none 0 0)).run Try.prog W = .ok (.bool true) W := by
  have h : ∀ d : Nat, (Op.equalIn (d + 1) 22 (.slice none 0 0) (.slice none 0 0)).run Try.prog W = .ok true W := fun d => by
    simp [Op.equalIn, run_underlying Try.underlying22]
  simp only [binOp]
  simp [Op.equal, Op.maxDepth, h 9999]
theorem some_eql_nil (W : World) (a : Addr) (n c : Nat) : (binOp .eql 22 (.slice (some a) n c) (.slice none 0 0)).run Try.prog W = .ok (.bool false) W := by
  have h : ∀ d : Nat, (Op.equalIn (d + 1) 22 (.slice (some a) n c) (.slice none 0 0)).run Try.prog W = .ok false W := fun d => by
    simp [Op.equalIn, run_underlying Try.underlying22]
  simp only [binOp]
  simp [Op.equal, Op.maxDepth, h 9999]
/-- a pointer to a block of one cell. -/
abbrev ptr (g : Nat) : Value := .pointer (some ⟨g, 0, none⟩)
/-- the closure of BestTour, with what it holds. -/
abbrev frV (gO gD gB gL gR : Nat) : Value := .func (.func 43) #[] #[ptr gO, ptr gD, ptr gB, ptr gL, ptr gR]
theorem OwI.cut {w : World} {B g cap n m : Nat} {xs : List Int} {x : Int} (h : OwI w B (.slice (some ⟨g, 0, none⟩) m cap) (xs ++ [x])) (hn : n = xs.length) : OwI w B (.slice (some ⟨g, 0, none⟩) n cap) xs := by
  subst hn
  obtain ⟨h1, h2⟩ := h
  rcases h2 with ⟨e, _⟩ | ⟨g', cap', cur, hv, hB, hg, hle, hm, hs, ht⟩
  · cases e
  · injection hv with e1 e2 e3
    injection e1 with e1
    injection e1 with e1
    subst e1; subst e3
    simp only [List.length_append, List.length_singleton, Nat.mul_one] at *
    refine ⟨by simp, .inr ⟨g, cap, cur, rfl, hB, hg, by omega, hm, by simpa using hs, ?_⟩⟩
    have : cur.toList.take xs.length = (cur.toList.take (xs.length + 1)).take xs.length := by rw [List.take_take, Nat.min_eq_left (by omega)]
    rw [Nat.mul_one, this, ht, List.map_append, List.take_left' (by simp)]
/-- what the closure keeps: the tour so far, the best one and its length. -/
structure VI (w0 w : World) (B gD gB gL gO gR : Nat) (vd : Value) (own : List Int) (st : Option (List Int × Int)) (vo vb : Value) (l : Int) : Prop where
  bO : Blk w gO 22 #[vo]
  bD : Blk w gD 27 #[vd]
  bB : Blk w gB 22 #[vb]
  bL : Blk w gL 3 #[.int .i64 l]
  bR : Blk w gR 1 #[frV gO gD gB gL gR]
  ow : OwI w B vo own
  noL : vo.ownBlock ≠ some gL
  best : (st = none ∧ vb = .slice none 0 0) ∨ ∃ p, st = some p ∧ OwI w B vb p.1 ∧ 0 < p.1.length ∧ l = p.2 ∧ vb.ownBlock ≠ some gL ∧ Apart vo vb
  nx : Nx w0 w
theorem VI.below {w0 w w' : World} {B gD gB gL gO gR : Nat} {vd : Value} {own : List Int} {st : Option (List Int × Int)} {vo vb : Value} {l : Int} (h : VI w0 w B gD gB gL gO gR vd own st vo vb l) (hb : Nx w w') : VI w0 w' B gD gB gL gO gR vd own st vo vb l := by
  refine ⟨h.bO.below hb, h.bD.below hb, h.bB.below hb, h.bL.below hb, h.bR.below hb, h.ow.below hb, h.noL, ?_, h.nx.trans hb⟩
  rcases h.best with h1 | ⟨p, h1, h2, h3⟩
  · exact .inl h1
  · exact .inr ⟨p, h1, h2.below hb, h3⟩
theorem own_ne_blk {w : World} {g : Nat} {t : TypeId} {cs : Array Value} (h : Blk w g t cs) {B : Nat} {u : Value} {xs : List Int} (ho : OwI w B u xs) (hne : 3 ≠ t) : u.ownBlock ≠ some g := by
  rcases ho.2 with ⟨rfl, _⟩ | ⟨g', cap, cur, rfl, _, hh, _⟩
  · simp [Value.ownBlock]
  · intro he
    have : g' = g := by simpa [Value.ownBlock] using he
    subst this
    have h' := h
    unfold Blk at h'
    rw [hh] at h'
    injection h' with h'
    injection h' with _ ht
    exact hne ht
theorem Blk.ne_ {w : World} {g g' : Nat} {t t' : TypeId} {cs cs' : Array Value} (h : Blk w g t cs) (h' : Blk w g' t' cs') (hne : t ≠ t') : g ≠ g' := by
  rintro rfl
  unfold Blk at h h'
  rw [h] at h'
  injection h' with h'
  injection h' with _ ht
  exact hne ht
/-- one variable's block changes: rows of ints stay. -/
theorem OwI.setFar {w : World} {B : Nat} {u : Value} {xs : List Int} (h : OwI w B u xs) {g : Nat} (hne : u.ownBlock ≠ some g) (i : Nat) (x : Value) : OwI (w.setCell ⟨g, i, none⟩ x) B u xs :=
  h.kept (row := some g) ⟨rfl, rfl, rfl, by simp, fun k _ hk => Below.heap_setCell w ⟨g, i, none⟩ x k (fun e => hk (by rw [e]))⟩ (.inr hne)
/-- the variable that holds the tour so far is set anew. -/
theorem VI.setOwn {w0 w : World} {B gD gB gL gO gR : Nat} {vd : Value} {own own' : List Int} {st : Option (List Int × Int)} {vo vb : Value} {l : Int} (h : VI w0 w B gD gB gL gO gR vd own st vo vb l) (hOB : gO ≠ gB) (hw : w0.heap.size ≤ gO)
    {vo' : Value} (ho : OwI w B vo' own') (hnL : vo'.ownBlock ≠ some gL) (hap : vb = .slice none 0 0 ∨ Apart vo' vb) : VI w0 (w.setCell ⟨gO, 0, none⟩ vo') B gD gB gL gO gR vd own' st vo' vb l := by
  have eD : gD ≠ gO := h.bD.ne_ h.bO (by decide)
  have eL : gL ≠ gO := h.bL.ne_ h.bO (by decide)
  have eR : gR ≠ gO := h.bR.ne_ h.bO (by decide)
  refine ⟨?_, h.bD.far eD _, h.bB.far hOB.symm _, h.bL.far eL _, h.bR.far eR _, ho.setFar (own_ne_blk h.bO ho (by decide)) 0 _, hnL, ?_, h.nx.setCell (p := ⟨gO, 0, none⟩) hw _⟩
  · have := h.bO.set_ 0 vo'
    simpa using this
  · rcases h.best with h1 | ⟨p, h1, h2, h3, h4, h5, h6⟩
    · exact .inl h1
    · refine .inr ⟨p, h1, h2.setFar (own_ne_blk h.bO h2 (by decide)) 0 _, h3, h4, h5, ?_⟩
      rcases hap with e | e
      · subst e; exact fun g _ hg => by simp [Value.ownBlock] at hg
      · exact e
/-- the program's own rows grow: what the closure keeps. -/
theorem VI.grown {w0 w w' : World} {B gD gB gL gO gR : Nat} {vd : Value} {own : List Int} {st : Option (List Int × Int)} {vo vb : Value} {l : Int} (h : VI w0 w B gD gB gL gO gR vd own st vo vb l) (hg : w.grownBy w' vo.ownBlock) (hB : w0.heap.size ≤ B) :
    Blk w' gO 22 #[vo] ∧ Blk w' gD 27 #[vd] ∧ Blk w' gB 22 #[vb] ∧ Blk w' gL 3 #[.int .i64 l] ∧ Blk w' gR 1 #[frV gO gD gB gL gR] ∧
      ((st = none ∧ vb = .slice none 0 0) ∨ ∃ p, st = some p ∧ OwI w' B vb p.1 ∧ 0 < p.1.length ∧ l = p.2 ∧ vb.ownBlock ≠ some gL ∧ Apart vo vb) ∧ Nx w0 w' := by
  refine ⟨h.bO.grown hg (Ne.symm (own_ne_blk h.bO h.ow (by decide))), h.bD.grown hg (Ne.symm (own_ne_blk h.bD h.ow (by decide))), h.bB.grown hg (Ne.symm (own_ne_blk h.bB h.ow (by decide))), h.bL.grown hg (Ne.symm h.noL), h.bR.grown hg (Ne.symm (own_ne_blk h.bR h.ow (by decide))), ?_, h.nx.only h.ow hg hB⟩
  rcases h.best with h1 | ⟨p, h1, h2, h3, h4, h5, h6⟩
  · exact .inl h1
  · exact .inr ⟨p, h1, h2.kept hg h6.symm.ne, h3, h4, h5, h6⟩
/-- a new best tour. -/
theorem VI.setBest {w0 w : World} {B gD gB gL gO gR : Nat} {vd : Value} {own : List Int} {st : Option (List Int × Int)} {vo vb : Value} {l : Int} (h : VI w0 w B gD gB gL gO gR vd own st vo vb l) (hOB : gO ≠ gB) (hBb : w0.heap.size ≤ gB) (hLb : w0.heap.size ≤ gL)
    {vb' : Value} {T : List Int} (ho : OwI w B vb' T) (h0 : 0 < T.length) (hnL : vb'.ownBlock ≠ some gL) (hap : Apart vo vb') (L : Int) : VI w0 ((w.setCell ⟨gB, 0, none⟩ vb').setCell ⟨gL, 0, none⟩ (.int .i64 L)) B gD gB gL gO gR vd own (some (T, L)) vo vb' L := by
  have eD : gD ≠ gB := h.bD.ne_ h.bB (by decide)
  have eL : gL ≠ gB := h.bL.ne_ h.bB (by decide)
  have eR : gR ≠ gB := h.bR.ne_ h.bB (by decide)
  have fD : gD ≠ gL := h.bD.ne_ h.bL (by decide)
  have fO : gO ≠ gL := h.bO.ne_ h.bL (by decide)
  have fB : gB ≠ gL := h.bB.ne_ h.bL (by decide)
  have fR : gR ≠ gL := h.bR.ne_ h.bL (by decide)
  refine ⟨(h.bO.far hOB _).far fO _, (h.bD.far eD _).far fD _, ?_, ?_, (h.bR.far eR _).far fR _, (h.ow.setFar (own_ne_blk h.bB h.ow (by decide)) 0 _).setFar h.noL 0 _, h.noL, ?_, (h.nx.setCell (p := ⟨gB, 0, none⟩) hBb _).setCell (p := ⟨gL, 0, none⟩) hLb _⟩
  · have := (h.bB.set_ 0 vb').far fB (p := ⟨gL, 0, none⟩) (.int .i64 L)
    simpa using this
  · have := (h.bL.far (p := ⟨gB, 0, none⟩) eL vb').set_ 0 (.int .i64 L)
    simpa using this
  · exact .inr ⟨(T, L), rfl, (ho.setFar (own_ne_blk h.bB ho (by decide)) 0 _).setFar hnL 0 _, h0, rfl, hnL, hap⟩
theorem OwI.snoc_form {w : World} {B : Nat} {v : Value} {xs : List Int} {x : Int} (h : OwI w B v (xs ++ [x])) : ∃ g cap, v = .slice (some ⟨g, 0, none⟩) (xs.length + 1) cap ∧ (xs.length + 1 ≤ cap ∧ cap ≤ maxLen) ∧ B ≤ g ∧ g < w.heap.size := by
  rcases h.form with ⟨_, e⟩ | ⟨g, cap, e, hB, hg, hl, hm⟩
  · simp at e
  · rw [List.length_append, List.length_singleton] at e hl
    exact ⟨g, cap, e, ⟨hl, hm⟩, hB, hg⟩
theorem VI.pushed {w0 w w1 : World} {B gD gB gL gO gR : Nat} {vd : Value} {own : List Int} {st : Option (List Int × Int)} {vo vb : Value} {l : Int} (h : VI w0 w B gD gB gL gO gR vd own st vo vb l) (hOB : gO ≠ gB) (hw : w0.heap.size ≤ gO) (hB : w0.heap.size ≤ B)
    {v1 : Value} {x : Int} (ho : OwI w1 B v1 (own ++ [x])) (hg : w.grownBy w1 vo.ownBlock) (hat : v1.ownBlock = vo.ownBlock ∨ v1.ownBlock = some (w.heap.size + 1)) : VI w0 (w1.setCell ⟨gO, 0, none⟩ v1) B gD gB gL gO gR vd (own ++ [x]) st v1 vb l := by
  obtain ⟨gO', gD', gB', gL', gR', hbest, hnx⟩ := h.grown hg hB
  have eD : gD ≠ gO := h.bD.ne_ h.bO (by decide)
  have eL : gL ≠ gO := h.bL.ne_ h.bO (by decide)
  have eR : gR ≠ gO := h.bR.ne_ h.bO (by decide)
  refine ⟨?_, gD'.far eD _, gB'.far hOB.symm _, gL'.far eL _, gR'.far eR _, ho.setFar (own_ne_blk gO' ho (by decide)) 0 _, ?_, ?_, hnx.setCell (p := ⟨gO, 0, none⟩) hw _⟩
  · have := gO'.set_ 0 v1
    simpa using this
  · rcases hat with e | e
    · rw [e]; exact h.noL
    · rw [e]
      intro he
      injection he with he
      have := h.bL.lt
      omega
  · rcases hbest with h1 | ⟨p, h1, h2, h3, h4, h5, h6⟩
    · exact .inl h1
    · refine .inr ⟨p, h1, h2.setFar (own_ne_blk gO' h2 (by decide)) 0 _, h3, h4, h5, ?_⟩
      rcases hat with e | e
      · intro g hv; rw [e] at hv; exact h6 g hv
      · intro g hv hb
        rw [e] at hv
        injection hv with hv
        rcases h.best with h1' | ⟨p', h1', h2', _⟩
        · rw [h1'.1] at h1; cases h1
        · have := (own_lt h2' hb).2
          omega

end Go.Proofs.Ytemijekdcifncaa
