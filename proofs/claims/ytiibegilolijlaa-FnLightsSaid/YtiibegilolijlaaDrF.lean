/- Drawn fades. -/
import Derived.Test.YtiibegilolijlaaFdW
import Derived.WalkKit
import Derived.ProofKit
import Derived.Handy
import Derived.OpenShut
import Derived.ShutString
import Derived.ChangeOld
import Derived.Below
import Derived.BigQuiet
import Derived.Deep.QuietTactic
import Derived.Deep.Draws
import Derived.Deep.DeepCutAuto
import Derived.Deep.DeepFit
import Derived.Deep.LoopGhost
import Derived.Outline
import Derived.WalkSpells
import Derived.WalkLawsBesides
import Derived.WalkSmall
import Derived.Laws.OwnMore
import Derived.OneCell
import Derived.Laws.Rows
import Derived.Maps.AppendAt
import Derived.StillTailTactics
import Derived.Lib.SmallJoins
import Derived.Deep.RegionWith
import Derived.Deep.RegionHeld3
import Derived.RegionTactic
import Derived.Deep.Matrix
import Derived.Deep.Fields
import Derived.ChangeSame
namespace Go.Proofs.Ytiibegilolijlaa
open Go.RowKit

/-- A block that is known whole. -/
def Blk (w : World) (g : Nat) (t : TypeId) (cs : Array Value) : Prop := w.heap[g]? = some (.cells cs t (0, 0))
theorem Blk.lt {w : World} {g : Nat} {t : TypeId} {cs : Array Value} (h : Blk w g t cs) : g < w.heap.size := lt_of_block h
theorem Blk.cell {w : World} {g : Nat} {t : TypeId} {cs : Array Value} (h : Blk w g t cs) (i : Nat) : w.cell? ⟨g, i, none⟩ = cs[i]? := cell_of_row w g i cs t (0, 0) h
theorem Blk.frozen {w : World} {g : Nat} {t : TypeId} {cs : Array Value} (h : Blk w g t cs) (i : Nat) : w.frozen? ⟨g, i, none⟩ = false := by
  unfold Blk at h
  simp [World.frozen?, h]
theorem Blk.new (w : World) (t : TypeId) (cs : Array Value) : Blk (w.alloc (.cells cs t)) w.heap.size t cs := heap_alloc_new w _
theorem Blk.drew {w : World} {g : Nat} {t : TypeId} {cs : Array Value} (h : Blk w g t cs) : Blk w.drew g t cs := h
theorem Blk.drewN {w : World} {g : Nat} {t : TypeId} {cs : Array Value} (h : Blk w g t cs) (n : Nat) : Blk (w.drewN n) g t cs := h
theorem Blk.alloc {w : World} {g : Nat} {t : TypeId} {cs : Array Value} (h : Blk w g t cs) (o : Obj) : Blk (w.alloc o) g t cs := (Below.heap_alloc w o g h.lt).trans h
theorem Blk.set_ {w : World} {g : Nat} {t : TypeId} {cs : Array Value} (h : Blk w g t cs) (i : Nat) (u : Value) : Blk (w.setCell ⟨g, i, none⟩ u) g t (cs.setIfInBounds i u) := by
  unfold Blk at h ⊢
  simp [World.setCell, Array.getElem?_modify, h]
theorem Blk.far {w : World} {g : Nat} {t : TypeId} {cs : Array Value} (h : Blk w g t cs) {p : Addr} (hp : g ≠ p.block) (u : Value) : Blk (w.setCell p u) g t cs := (Below.heap_setCell w p u g hp).trans h
theorem Blk.below {w w' : World} {g : Nat} {t : TypeId} {cs : Array Value} (h : Blk w g t cs) (hb : Nx w w') : Blk w' g t cs := (hb.block g h.lt).trans h
theorem Blk.grown {w w' : World} {g : Nat} {t : TypeId} {cs : Array Value} {row : Option Nat} (h : Blk w g t cs) (hb : w.grownBy w' row) (hg : some g ≠ row) : Blk w' g t cs := (hb.block g h.lt hg).trans h

/-- A slice value that reads as a list of bytes. -/
def RdB (w : World) (v : Value) (zs : List Int) : Prop :=
  ∃ A c, v = .slice A zs.length c ∧ (0 < zs.length → ∃ b off, A = some ⟨b, off, none⟩ ∧ b < w.heap.size ∧ ∀ j, j < zs.length → w.cell? ⟨b, off + j, none⟩ = some (.int .u8 (gt zs j)) ∧ 0 ≤ gt zs j ∧ gt zs j ≤ 255)
theorem RdB.below {w w' : World} {v : Value} {zs : List Int} (h : RdB w v zs) (hb : Nx w w') : RdB w' v zs := by
  obtain ⟨A, c, rfl, hx⟩ := h
  refine ⟨A, c, rfl, fun h0 => ?_⟩
  obtain ⟨b, off, rfl, hlt, hc⟩ := hx h0
  exact ⟨b, off, rfl, Nat.lt_of_lt_of_le hlt hb.size, fun j hj => ⟨(hb.cell (p := ⟨b, off + j, none⟩) hlt).trans (hc j hj).1, (hc j hj).2⟩⟩
theorem u8_of_wf {n : Int} (h : (Lit.int .u8 n).wf = true) : 0 ≤ n ∧ n ≤ 255 := by
  simp [Lit.wf, IntKind.min, IntKind.max, IntKind.signed, IntKind.bits] at h
  omega
theorem isRow_readsB {w : World} {a : Option Addr} {len cap : Nat} {zs : List Int} (h : IsRow .u8 w a len cap zs) :
    ∃ ys, RdB w (.slice a len cap) ys ∧ ys.length ≤ maxLen := by
  rcases h with ⟨rfl, rfl, rfl, rfl⟩ | ⟨x, rfl, hl, hm, hz, hcell, hwz⟩
  · exact ⟨[], ⟨none, 0, rfl, fun h => absurd h (by simp)⟩, by simp⟩
  · have hlen : (zs.take len).length = len := by rw [List.length_take]; omega
    refine ⟨zs.take len, ⟨some x, cap, by rw [hlen], fun h0 => ?_⟩, by rw [hlen]; omega⟩
    rw [hlen] at h0 ⊢
    have hc := hcell 0 (by omega)
    obtain ⟨b, off, spot⟩ := x
    have hspot : spot = none := by simpa [Addr.add] using World.cell?_spot hc
    subst hspot
    refine ⟨b, off, rfl, by simpa [Addr.add] using block_lt_of_cell hc, fun j hj => ?_⟩
    have := hcell j (by omega)
    rw [add_off] at this
    have e : gt (zs.take len) j = zs.getD j 0 := by simp [gt, hj]
    rw [e]
    refine ⟨this, u8_of_wf (hwz _ ?_)⟩
    rw [List.getD_eq_getElem?_getD, List.getElem?_eq_getElem (show j < zs.length by omega)]
    exact List.getElem_mem _
theorem and255 (x : Int) : 0 ≤ bits .and .i64 x 255 ∧ bits .and .i64 x 255 ≤ 255 := by
  have e : bits .and .i64 x 255 = IntKind.i64.wrap ((BitVec.ofInt 64 x &&& BitVec.ofInt 64 255).toNat : Int) := rfl
  have h : (BitVec.ofInt 64 x &&& BitVec.ofInt 64 255).toNat ≤ 255 := by
    rw [BitVec.toNat_and]
    have : (BitVec.ofInt 64 255).toNat = 255 := by decide
    rw [this]
    exact Nat.and_le_right
  rw [e, IntKind.wrap_i64]
  omega
/-- A cursor of the reference's draws: a block of its own. -/
def Cur (w0 w : World) (g : Nat) (v : Value) (n : Nat) : Prop := w0.heap.size ≤ g ∧ ∃ (i : Nat) (h : Int), Blk w g 56 #[v, .int .i64 (i : Int), .int .i64 h] ∧ i ≤ n
theorem Cur.below {w0 w w' : World} {g n : Nat} {v : Value} (h : Cur w0 w g v n) (hb : Nx w w') : Cur w0 w' g v n := by
  obtain ⟨h0, i, x, hB, hi⟩ := h
  exact ⟨h0, i, x, hB.below hb, hi⟩
theorem Cur.kept {w0 w w' : World} {g n : Nat} {v : Value} {row : Option Nat} (h : Cur w0 w g v n) (hb : w.grownBy w' row) (hne : some g ≠ row) : Cur w0 w' g v n := by
  obtain ⟨h0, i, x, hB, hi⟩ := h
  exact ⟨h0, i, x, hB.grown hb hne, hi⟩
theorem Cur.lt {w0 w : World} {g n : Nat} {v : Value} (h : Cur w0 w g v n) : g < w.heap.size := by
  obtain ⟨h0, i, x, hB, hi⟩ := h
  exact hB.lt
theorem blk_ne {w : World} {g g' : Nat} {t t' : TypeId} {cs cs' : Array Value} (h : Blk w g t cs) (h' : Blk w g' t' cs') (hne : t ≠ t') : g ≠ g' := by
  rintro rfl
  unfold Blk at h h'
  rw [h] at h'
  injection h' with h'
  injection h' with _ ht
  exact hne ht
/-- a row of the program's own and a cursor never share a block. -/
theorem Cur.row {w0 w : World} {g n : Nat} {v : Value} (h : Cur w0 w g v n) {B m : Nat} {e : TypeId} {sz : Nat} {u : Value} {xs : List Value} (ho : w.ownsRow B e sz u m xs) (hne : e ≠ 56) : u.ownBlock ≠ some g := by
  obtain ⟨h0, i, x, hB, hi⟩ := h
  rcases ho.2 with ⟨rfl, _⟩ | ⟨g', cap, cur, rfl, _, hh, _⟩
  · simp [Value.ownBlock]
  · intro he
    have : g' = g := by simpa [Value.ownBlock] using he
    subst this
    exact blk_ne (t := e) hh hB hne rfl
theorem Cur.rowI {w0 w : World} {g n : Nat} {v : Value} (h : Cur w0 w g v n) {B : Nat} {u : Value} {xs : List Int} (ho : OwI w B u xs) : u.ownBlock = none ∨ u.ownBlock ≠ some g := .inr (h.row ho (by decide))
theorem Nx.grownAt {a b c : World} {g : Nat} (h : Nx a b) (hg : b.grownBy c (some g)) (hB : a.heap.size ≤ g) : Nx a c := Below.grown h hg h.size (fun k hk => by injection hk with e; omega)
theorem grown_set (w : World) (g i : Nat) (u : Value) : w.grownBy (w.setCell ⟨g, i, none⟩ u) (some g) :=
  ⟨rfl, rfl, rfl, by simp, fun k _ hne => Below.heap_setCell w ⟨g, i, none⟩ u k (fun e => hne (by rw [e]))⟩
theorem grown_drewN (w : World) (n : Nat) (row : Option Nat) : w.grownBy (w.drewN n) row := ⟨rfl, rfl, rfl, Nat.le_refl _, fun _ _ _ => rfl⟩

set_option maxHeartbeats 1000000 in
theorem l01New_any (v : Value) (zs : List Int) (w : World) (hr : RdB w v zs) (hl : zs.length ≤ 1048576) :
    Calls Try.prog 33 #[v] w fun e w' => e = .returned (.pointer (some ⟨w.heap.size, 0, none⟩)) ∧ Cur w w' w.heap.size v zs.length ∧ Nx w w' := by
  obtain ⟨A, c, rfl, hx⟩ := hr
  go_enter Try.func33, Try.ntmps33
  go_wp2_with fail
  go_loopw [3, 4] (fun h i wr => ∃ (k : Nat) (x : Int), k ≤ zs.length ∧ i = .int .i64 k ∧ h = .int .i64 x ∧ wr = w) (fun _ i _ => zs.length - (intOf i).toNat)
  case atStart => exact ⟨0, _, Nat.zero_le _, rfl, rfl, (by first | trivial | rfl)⟩
  case round =>
    obtain ⟨k, x, hk, rfl, rfl, rfl⟩ := hrel
    by_cases hlt : k < zs.length
    · by_cases h4 : (k : Int) < 4000
      · obtain ⟨b0, off, rfl, hb0, hc⟩ := hx (by omega)
        have hck := (hc k hlt).1
        have hk1 : (k : Int) < (zs.length : Int) := by omega
        clear hc hx
        go_wp2_with fail
        go_roundw
        case rel => exact ⟨k + 1, _, by omega, by go_num, rfl, (by first | trivial | rfl)⟩
        case measure => simp [intOf]; omega
      · have hk1 : (k : Int) < (zs.length : Int) := by omega
        go_wp2_with fail
        go_ret
        exact ⟨rfl, ⟨Nat.le_refl _, 0, _, Blk.new _ _ _, Nat.zero_le _⟩, Nx.made _ _⟩
    · obtain rfl : k = zs.length := by omega
      go_wp2_with fail
      go_ret
      exact ⟨rfl, ⟨Nat.le_refl _, 0, _, Blk.new _ _ _, Nat.zero_le _⟩, Nx.made _ _⟩

set_option maxHeartbeats 2000000 in
theorem l01Byte_any (w0 : World) (v : Value) (zs : List Int) (g : Nat) (w : World) (hr : RdB w0 v zs) (hl : zs.length ≤ 1048576) (hb : Nx w0 w) (hc : Cur w0 w g v zs.length) :
    Calls Try.prog 39 #[.pointer (some ⟨g, 0, none⟩)] w fun e w' => ∃ x, e = .returned (.int .i64 x) ∧ (0 ≤ x ∧ x ≤ 255) ∧ Cur w0 w' g v zs.length ∧ w.grownBy w' (some g) := by
  obtain ⟨hg, i, h, hB, hi⟩ := hc
  obtain ⟨A, c, rfl, hx⟩ := hr
  have c0 : w.cell? ⟨g, 0, none⟩ = some (.slice A zs.length c) := hB.cell 0
  have c1 : w.cell? ⟨g, 1, none⟩ = some (.int .i64 (i : Int)) := hB.cell 1
  have c2 : w.cell? ⟨g, 2, none⟩ = some (.int .i64 h) := hB.cell 2
  have f2 := hB.frozen 2
  have HB := hide hB
  clear hB
  go_enter Try.func39, Try.ntmps39
  go_wp2_with fail
  generalize wrap64 (wrap64 (h * 6364136223846793005) + 1442695040888963407) = h1
  have hB1 : Blk (w.setCell ⟨g, 2, none⟩ (.int .i64 h1)) g 56 #[.slice A zs.length c, .int .i64 (i : Int), .int .i64 h1] := HB.out.set_ 2 (.int .i64 h1)
  have G1 := grown_set w g 2 (.int .i64 h1)
  have hb1 := Nx.grownAt hb G1 hg
  clear c0 c1 c2 f2 HB
  generalize World.setCell _ _ _ = w1 at hB1 G1 hb1 ⊢
  have c0 : w1.cell? ⟨g, 0, none⟩ = some (.slice A zs.length c) := hB1.cell 0
  have c1 : w1.cell? ⟨g, 1, none⟩ = some (.int .i64 (i : Int)) := hB1.cell 1
  have c2 : w1.cell? ⟨g, 2, none⟩ = some (.int .i64 h1) := hB1.cell 2
  have f1 := hB1.frozen 1
  have HB := hide hB1
  have HG := hide G1
  clear hB1 G1
  by_cases hlt : i < zs.length
  · obtain ⟨b0, off, rfl, hb0, hc⟩ := hx (by omega)
    have hck := (hb1.cell (p := ⟨b0, off + i, none⟩) hb0).trans (hc i hlt).1
    have hi1 : (i : Int) < (zs.length : Int) := by omega
    clear hc hx
    go_quiet (fail)
    have hx1 := and255 (bits .xor .i64 (h1 / 8589934592) (h1 / 35184372088832))
    go_wp2_with fail
    generalize bits .and .i64 _ _ = x at hx1 ⊢
    go_quiet (fail)
    go_wp2_with fail
    go_quiet (fail)
    go_wp2_with fail
    go_ret
    exact ⟨_, rfl, and255 _, ⟨hg, i + 1, h1, (HB.out.drewN _).set_ 1 _, by omega⟩, grownBy_trans HG.out (grownBy_trans (grown_drewN _ _ _) (grown_set _ _ _ _))⟩
  · have hi1 : ¬ (i : Int) < (zs.length : Int) := by omega
    clear hx
    go_quiet (fail)
    have hx1 := and255 (bits .xor .i64 (h1 / 8589934592) (h1 / 35184372088832))
    go_wp2_with fail
    generalize bits .and .i64 _ _ = x at hx1 ⊢
    go_quiet (fail)
    go_wp2_with fail
    go_ret
    exact ⟨_, rfl, hx1, ⟨hg, i, h1, (HB.out.drewN _).drewN _, hi⟩, grownBy_trans HG.out (grownBy_trans (grown_drewN _ _ _) (grown_drewN _ _ _))⟩

set_option maxHeartbeats 1000000 in
theorem l01Below_any (w0 : World) (v : Value) (zs : List Int) (g : Nat) (n : Int) (w : World) (hr : RdB w0 v zs) (hl : zs.length ≤ 1048576) (hb : Nx w0 w) (hc : Cur w0 w g v zs.length) (n0 : 1 ≤ n) (n1 : n ≤ 256) :
    Calls Try.prog 35 #[.pointer (some ⟨g, 0, none⟩), .int .i64 n] w fun e w' => ∃ x, e = .returned (.int .i64 x) ∧ (0 ≤ x ∧ x < n) ∧ Cur w0 w' g v zs.length ∧ w.grownBy w' (some g) := by
  go_enter Try.func35, Try.ntmps35
  go_wp2_with (go_at_call 39; fail)
  refine (l01Byte_any w0 v zs g w hr hl hb hc).mono ?_
  rintro e w1 ⟨x, rfl, hx, hc1, hg1⟩
  have HG := hide hg1
  have HC := hide hc1
  clear hc hc1 hg1
  have hm0 : 0 ≤ x % n := Int.emod_nonneg _ (by omega)
  have hm1 : x % n < n := Int.emod_lt_of_pos _ (by omega)
  have hn0 : (n == 0) = false := by simp; omega
  go_wp2_with fail
  go_ret
  exact ⟨_, rfl, ⟨hm0, hm1⟩, HC.out, HG.out⟩

set_option maxHeartbeats 400000 in
theorem big_any (v : Value) (zs : List Int) (w : World) (h : RdB w v zs) : Calls Try.prog 16 #[v] w fun e w' => e = .returned (.bool (decide (1048576 < (zs.length : Int)))) ∧ w = w' := by
  obtain ⟨A, c, rfl, hx⟩ := h
  clear hx
  go_enter Try.func16, Try.ntmps16
  go_wp2
  go_ret
  exact ⟨rfl, rfl⟩

/-- what a drawing of fades holds. -/
structure StF (w0 w : World) (g n B : Nat) (v q : Value) (rows : List (List Int)) (ge : Nat) (es : List Int) : Prop where
  cur : Cur w0 w g v n
  nx : Nx w0 w
  out : OwS w B q rows
  ends : OwN w B (.slice (some ⟨ge, 0, none⟩) 8 8) 8 es
  hB : w0.heap.size ≤ B
theorem StF.below {w0 w w' : World} {g n B ge : Nat} {v q : Value} {rows : List (List Int)} {es : List Int} (h : StF w0 w g n B v q rows ge es) (hb : Nx w w') : StF w0 w' g n B v q rows ge es :=
  ⟨h.cur.below hb, Nx.trans h.nx hb, h.out.below hb, (OwI.below (v := .slice (some ⟨ge, 0, none⟩) 8 8) (B := B) (by have := h.ends.toI; exact this) hb |> fun e => by have := h.ends.len; unfold OwI at e; unfold OwN; rwa [this] at e), h.hB⟩
theorem OwS.cur {w0 w : World} {g n B : Nat} {v q : Value} {rows : List (List Int)} (h : OwS w B q rows) (hc : Cur w0 w g v n) : ∀ k, q.ownBlock = some k → k ≠ g := by
  obtain ⟨xs, h1, _⟩ := h
  exact fun k hk e => hc.row h1 (by decide) (by rw [hk, e])
theorem StF.drawn {w0 w w' : World} {g n B ge : Nat} {v q : Value} {rows : List (List Int)} {es : List Int} (h : StF w0 w g n B v q rows ge es) (hc : Cur w0 w' g v n) (hg : w.grownBy w' (some g)) : StF w0 w' g n B v q rows ge es :=
  ⟨hc, Nx.grownAt h.nx hg h.cur.1, h.out.keptL hg (h.out.cur h.cur), World.ownsRow.kept h.ends hg (.inr (h.cur.row h.ends (by decide))), h.hB⟩
theorem StF.far {w0 w : World} {g n B ge : Nat} {v q : Value} {rows : List (List Int)} {es : List Int} (h : StF w0 w g n B v q rows ge es) {b : Nat} (i : Nat) (u : Value) (h1 : g < b) (h2 : ge < b) (h3 : ∀ k, q.ownBlock = some k → k < b) (h4 : w0.heap.size ≤ b) : StF w0 (w.setCell ⟨b, i, none⟩ u) g n B v q rows ge es := by
  have hg := grown_set w b i u
  exact ⟨h.cur.kept hg (fun e => by injection e with e; omega), Nx.grownAt h.nx hg h4, h.out.keptL hg (fun k hk e => by have := h3 k hk; omega), World.ownsRow.kept h.ends hg (.inr fun e => by simp [Value.ownBlock] at e; omega), h.hB⟩
theorem StF.ne {w0 w : World} {g n B ge : Nat} {v q : Value} {rows : List (List Int)} {es : List Int} (h : StF w0 w g n B v q rows ge es) : ∀ k, q.ownBlock = some k → k ≠ ge := by
  intro k hk e
  obtain ⟨xs, h1, _⟩ := h.out
  subst e
  rcases h1.2 with ⟨rfl, _⟩ | ⟨g1, cap, cur, rfl, _, hh, _⟩
  · simp [Value.ownBlock] at hk
  · rcases h.ends.2 with ⟨e1, _⟩ | ⟨g2, cap', cur', e1, _, hh', _⟩
    · cases e1
    · injection e1 with e2
      injection e2 with e2
      injection e2 with e2
      simp [Value.ownBlock] at hk
      subst hk
      subst e2
      rw [hh] at hh'
      injection hh' with e3
      injection e3 with _ e4
      exact absurd e4 (by decide)
theorem StF.end_ {w0 w : World} {g n B ge : Nat} {v q : Value} {rows : List (List Int)} {es : List Int} (h : StF w0 w g n B v q rows ge es) (l : Nat) (x : Int) : StF w0 (w.setCell ⟨ge, l, none⟩ (.int .i64 x)) g n B v q rows ge (es.set l x) := by
  have hst := OwN.stored h.ends l x
  have hg : w.grownBy (w.setCell ⟨ge, l, none⟩ (.int .i64 x)) (some ge) := grown_set w ge l (.int .i64 x)
  have hgB := (OwN.block h.ends).1
  exact ⟨h.cur.kept hg (fun e => h.cur.row h.ends (by decide) e.symm), Nx.grownAt h.nx hg (Nat.le_trans h.hB hgB), h.out.keptL hg h.ne, hst.1, h.hB⟩
theorem StF.pushed {w0 w w' : World} {g n B ge : Nat} {v q q' : Value} {rows rows' : List (List Int)} {es : List Int} (h : StF w0 w g n B v q rows ge es) (ho : OwS w' B q' rows') (hg : w.grownBy w' q.ownBlock) : StF w0 w' g n B v q' rows' ge es :=
  ⟨h.cur.kept hg (fun e => h.out.cur h.cur g e.symm rfl), Below.grown h.nx hg h.nx.size (fun k hk => Nat.le_trans h.hB (h.out.lt k hk).1), ho, World.ownsRow.kept h.ends hg (.inr fun e => h.ne ge e.symm rfl), h.hB⟩
theorem cell_keep {w w' : World} {b i g : Nat} {x : Value} (h : w.cell? ⟨b, i, none⟩ = some x) (hg : w.grownBy w' (some g)) (hne : b ≠ g) : w'.cell? ⟨b, i, none⟩ = some x :=
  (World.cell?_of_block (hg.block b (block_lt_of_cell h) (fun e => hne (by injection e)))).trans h
theorem cell_set_far {w : World} {b i b' i' : Nat} {x u : Value} (h : w.cell? ⟨b, i, none⟩ = some x) (hne : b ≠ b') : (w.setCell ⟨b', i', none⟩ u).cell? ⟨b, i, none⟩ = some x :=
  cell_keep h (grown_set w b' i' u) hne
theorem cell_set_off {w : World} {b i i' : Nat} {t : TypeId} {cs : Array Value} {x u : Value} (hB : Blk w b t cs) (h : cs[i]? = some x) (hne : i ≠ i') : (w.setCell ⟨b, i', none⟩ u).cell? ⟨b, i, none⟩ = some x := by
  rw [(hB.set_ i' u).cell i]
  simp [Ne.symm hne, h]
set_option maxHeartbeats 1000000 in
theorem l18List_any (w0 : World) (v : Value) (zs : List Int) (g : Nat) (w : World) (hr : RdB w0 v zs) (hl : zs.length ≤ 1048576) (hb : Nx w0 w) (hc : Cur w0 w g v zs.length) :
    Calls Try.prog 34 #[.pointer (some ⟨g, 0, none⟩)] w fun e w' => ∃ u, e = .returned u ∧ ∃ rows, OwS w' w.heap.size u rows ∧ fadesOk rows = true ∧ rows.length ≤ 7 ∧ Cur w0 w' g v zs.length ∧ Nx w0 w' := by
  have hgl := hc.lt
  have hbs := hb.size
  have hg0 : w0.heap.size ≤ g := by obtain ⟨h, _⟩ := hc; exact h
  obtain ⟨i0, hi, hz0, hz1, hz2⟩ := info_parts intInfo
  have NA := Nx.made w (.cells #[] 38)
  have HC := hide (hc.below NA)
  have HB := hide (hb.trans NA)
  have HO := hide (OwS.made0 w)
  have hz1' : w.heap.size < (w.alloc (.cells #[] 38)).heap.size := by simp
  clear hb hc NA
  go_enter Try.func34, Try.ntmps34
  go_wp2_with (at_make; generalize World.alloc _ _ = w1 at HC HB HO hz1' ⊢; refine wpList_make_full _ rfl _ _ 33 rfl w1.heap.size 3 i0 (.int .i64 0) 1 Try.underlying33 hi hz0 hz1 .i64 .i64 _ _ 8 rfl rfl rfl rfl ?c1 ?c2 ?c3 ?_)
  case c1 => rw [hz2]; omega
  case c2 => unfold maxLen; omega
  case c3 => exact Nat.le_refl _
  intro w2 hown hg2
  have hown0 : OwN w2 w.heap.size (.slice (some ⟨w1.heap.size, 0, none⟩) 8 8) 8 (List.replicate 8 0) := by
    unfold OwN
    have e : (madeCells #[Value.int IntKind.i64 0] 8).toList = (List.replicate 8 0 : List Int).map (Value.int .i64) := by rw [toList_madeCells_one]; simp
    rw [← e]
    refine ⟨hown.1, ?_⟩
    rcases hown.2 with h | ⟨g, cap, cur, e, hb, rest⟩
    · exact .inl h
    · exact .inr ⟨g, cap, cur, e, Nat.le_trans (Nat.le_of_lt hz1') hb, rest⟩
  have hN2 : Nx w1 w2 := (Below.refl _ _).grown hg2 (Nat.le_refl _) (by intro k hk; cases hk)
  have HS := hide (show StF w0 w2 g zs.length w.heap.size v (.slice (some ⟨w.heap.size, 0, none⟩) 0 0) [] w1.heap.size (List.replicate 8 0) from ⟨HC.out.below hN2, Nx.trans HB.out hN2, HO.out.below hN2, hown0, hbs⟩)
  have hgew : w1.heap.size < w2.heap.size := (OwN.block hown0).2
  have hz2' : w.heap.size ≤ w2.heap.size := by omega
  clear hown hown0 hg2 hN2 HC HB HO hi hz0 hz1 hz2 hz1'
  generalize w1.heap.size = ge at HS hgew ⊢
  go_wp2_with (go_at_call 35; fail)
  refine (l01Below_any w0 v zs g 7 w2 hr hl HS.out.nx HS.out.cur (by omega) (by omega)).mono ?_
  rintro e w3 ⟨x, rfl, hx, hc3, hg3⟩
  obtain ⟨n, hn⟩ := Int.eq_ofNat_of_zero_le hx.1
  subst hn
  have hn7 : n ≤ 6 := by omega
  have HS3 := hide (HS.out.drawn hc3 hg3)
  have hz3 : w.heap.size ≤ w3.heap.size := Nat.le_trans hz2' hg3.size
  have hge3 : ge < w3.heap.size := Nat.lt_of_lt_of_le hgew hg3.size
  clear hc3 hg3 HS hz2' hgew
  go_wp2_with fail
  go_loopw [3, 6] (fun q i wr => ∃ (k : Nat) (rows : List (List Int)) (es : List Int), k ≤ n ∧ i = .int .i64 (k : Int) ∧ StF w0 wr g zs.length w.heap.size v q rows ge es ∧ Hid (FdI rows es k) ∧ w.heap.size ≤ wr.heap.size ∧ ge < wr.heap.size) (fun _ i _ => n - (intOf i).toNat)
  case atStart => exact ⟨0, [], _, Nat.zero_le _, rfl, HS3.out, FdI.start, hz3, hge3⟩
  case round =>
    clear HS3 hz3 hge3
    obtain ⟨k, rows, es, hk, rfl, hst, hfd, hz, hge⟩ := hrel
    have HS := hide hst
    clear hst
    by_cases hlt : k < n
    · have hki : (k : Int) < (n : Int) := by omega
      go_wp2_with (go_at_call 35; fail)
      refine (l01Below_any w0 v zs g 3 wr hr hl HS.out.nx HS.out.cur (by omega) (by omega)).mono ?_
      rintro e w4 ⟨lx, rfl, hlx, hc4, hg4⟩
      obtain ⟨l, hl0⟩ := Int.eq_ofNat_of_zero_le hlx.1
      subst hl0
      have hl2 : l ≤ 2 := by omega
      have HS4 := hide (HS.out.drawn hc4 hg4)
      have hz4 : w.heap.size ≤ w4.heap.size := Nat.le_trans hz hg4.size
      have hge4 : ge < w4.heap.size := Nat.lt_of_lt_of_le hge hg4.size
      clear hc4 hg4 HS hz hge
      go_wp2_with (go_at_call 35; fail)
      refine (l01Below_any w0 v zs g 11 w4 hr hl HS4.out.nx HS4.out.cur (by omega) (by omega)).mono ?_
      rintro e w5 ⟨lev, rfl, hlev, hc5, hg5⟩
      have HS5 := hide (HS4.out.drawn hc5 hg5)
      have hz5 : w.heap.size ≤ w5.heap.size := Nat.le_trans hz4 hg5.size
      have hge5 : ge < w5.heap.size := Nat.lt_of_lt_of_le hge4 hg5.size
      clear hc5 hg5 HS4 hz4 hge4
      go_wp2_with fail
      have NB := Nx.made w5 (.cells #[.int .i64 (l : Int), .int .i64 0, .int .i64 0, .int .i64 (10 * lev)] 38)
      have BK := hide (Blk.new w5 38 #[.int .i64 (l : Int), .int .i64 0, .int .i64 0, .int .i64 (10 * lev)])
      have HS6 := hide (HS5.out.below NB)
      have hqH : ∀ k, u3.ownBlock = some k → k < w5.heap.size := fun k hk => (HS5.out.out.lt k hk).2
      have hgH : g < w5.heap.size := HS5.out.cur.lt
      clear NB HS5
      generalize World.alloc _ _ = w6 at BK HS6 ⊢
      generalize w5.heap.size = Hp at BK hz5 hge5 hqH hgH ⊢
      obtain ⟨E, hE⟩ : ∃ E, gt es l = E := ⟨_, rfl⟩
      have hEb := hfd.out.eb l (by omega)
      rw [hE] at hEb
      have hE0 : 0 ≤ E ∧ E ≤ 133 := by omega
      have HE := hide hE
      have hfs := hide (fun x y => FdI.snoc hfd.out (l := l) (by omega) (x := x) (y := y) (z := 10 * lev))
      have hel := hide hfd.out.el
      have hlen := hide hfd.out.len
      clear hE hEb hfd
      have hli : (l : Int) < 8 := by omega
      have hn1 : Hp ≠ g := by omega
      have hn2 : ge ≠ g := fun e => HS6.out.cur.row HS6.out.ends (by decide) (by simp [Value.ownBlock, e])
      have hn3 : ge ≠ Hp := by omega
      have HBd := hide (Nx.drew HS6.out.nx)
      have HCd := hide (HS6.out.cur.below (Nx.drew (Below.refl _ _)))
      have HSd := hide (HS6.out.below (Nx.drew (Below.refl _ _)))
      have BKd := hide (show Blk w6.drew Hp 38 _ from BK.out.drew)
      have p0 : w6.drew.cell? ⟨Hp, 0, none⟩ = some (.int .i64 (l : Int)) := BKd.out.cell 0
      have p1 : w6.drew.cell? ⟨ge, l, none⟩ = some (.int .i64 E) := by
        have := OwN.cellAt HSd.out.ends (j := l) (by omega)
        rwa [HE.out] at this
      have HS0 := hide (And.intro p0 p1)
      have K1 := hide (fun (w' : World) (h : w6.drew.grownBy w' (some g)) => And.intro (cell_keep p0 h hn1) (cell_keep p1 h hn2))
      have K2 := hide (fun (w' : World) (u : Value) (h : w6.drew.grownBy w' (some g)) => And.intro (cell_set_off (i' := 1) (u := u) (BKd.out.grown h (fun e => hn1 (by injection e))) (i := 0) rfl (by decide)) (cell_set_far (i' := 1) (u := u) (cell_keep p1 h hn2) hn3))
      clear p0 p1
      go_region_held3 (fun w' => w'.cell? ⟨Hp, 0, none⟩ = some (.int .i64 (l : Int)) ∧ w'.cell? ⟨ge, l, none⟩ = some (.int .i64 E))
        (first | exact HS0.out | exact K1.out _ hg4 | exact K2.out _ _ hg4)
        (first
          | (go_at_call 35; (with_reducible refine (l01Below_any w0 v zs g 6 w6.drew hr hl HBd.out HCd.out (by omega) (by omega)).mono ?_); rintro e w7 ⟨x1, rfl, hx1, hc4, hg4⟩; have BK4 := BKd.out.grown hg4 (fun e => hn1 (by injection e)); have q5 := BK4.cell 1; have f5 := BK4.frozen 1; have w1' : IntKind.i64.wrap (E + x1) = E + x1 := IntWalk.i64_in _ (by omega)))
      have BK7 := hide (show Blk (w7.setCell ⟨Hp, 1, none⟩ (.int .i64 (E + x1))) Hp 38 #[.int .i64 (l : Int), .int .i64 (E + x1), .int .i64 0, .int .i64 (10 * lev)] from BK4.set_ 1 _)
      have HS7 := hide ((HSd.out.drawn hc4 hg4).far 1 (.int .i64 (E + x1)) hgH hge5 hqH (by omega))
      have hx1' : 0 ≤ x1 ∧ x1 ≤ 5 := by omega
      clear hc4 hg4 BK4 q5 f5 w1' HS0 K1 K2 HSd BKd HBd HCd HS6 BK
      generalize World.setCell _ _ _ = w8 at BK7 HS7 ⊢
      obtain ⟨F, hF⟩ : ∃ F, E + x1 = F := ⟨_, rfl⟩
      rw [hF] at BK7 ⊢
      have HF := hide hF
      have hF0 : 0 ≤ F ∧ F ≤ 138 := by omega
      clear hF
      go_wp2_with fail
      have HBd := hide (Nx.drew HS7.out.nx)
      have HCd := hide (HS7.out.cur.below (Nx.drew (Below.refl _ _)))
      have HSd := hide (HS7.out.below (Nx.drew (Below.refl _ _)))
      have BKd := hide (show Blk w8.drew Hp 38 _ from BK7.out.drew)
      have p1 : w8.drew.cell? ⟨Hp, 1, none⟩ = some (.int .i64 F) := BKd.out.cell 1
      have HS0 := hide p1
      have K1 := hide (fun (w' : World) (h : w8.drew.grownBy w' (some g)) => cell_keep p1 h hn1)
      have K2 := hide (fun (w' : World) (u : Value) (h : w8.drew.grownBy w' (some g)) => cell_set_off (i' := 2) (u := u) (BKd.out.grown h (fun e => hn1 (by injection e))) (i := 1) (x := .int .i64 F) rfl (by decide))
      clear p1
      go_region_held3 (fun w' => w'.cell? ⟨Hp, 1, none⟩ = some (.int .i64 F))
        (first | exact HS0.out | exact K1.out _ hg4 | exact K2.out _ _ hg4)
        (first
          | (go_at_call 35; (with_reducible refine (l01Below_any w0 v zs g 15 w8.drew hr hl HBd.out HCd.out (by omega) (by omega)).mono ?_); rintro e w9 ⟨y1, rfl, hy1, hc4, hg4⟩; have BK4 := BKd.out.grown hg4 (fun e => hn1 (by injection e)); have q5 := BK4.cell 2; have f5 := BK4.frozen 2; have w1' : IntKind.i64.wrap (F + y1) = F + y1 := IntWalk.i64_in _ (by omega)))
      have BK9 := hide (show Blk (w9.setCell ⟨Hp, 2, none⟩ (.int .i64 (F + y1))) Hp 38 #[.int .i64 (l : Int), .int .i64 F, .int .i64 (F + y1), .int .i64 (10 * lev)] from BK4.set_ 2 _)
      have HS9 := hide ((HSd.out.drawn hc4 hg4).far 2 (.int .i64 (F + y1)) hgH hge5 hqH (by omega))
      have hy1' : 0 ≤ y1 ∧ y1 ≤ 14 := by omega
      clear hc4 hg4 BK4 q5 f5 w1' HS0 K1 K2 HSd BKd HBd HCd HS7 BK7
      generalize World.setCell _ _ _ = w10 at BK9 HS9 ⊢
      have HR := hide (show FdI (rows ++ [[(l : Int), F, F + y1, 10 * lev]]) (es.set l (F + y1)) (k + 1) from by
        have := hfs.out x1 y1 hx1' hy1' (by omega)
        rwa [HE.out, HF.out] at this)
      obtain ⟨T, hT⟩ : ∃ T, F + y1 = T := ⟨_, rfl⟩
      rw [hT] at BK9 HR ⊢
      clear hT hfs HE HF
      have HBlt : Hp < w10.heap.size := BK9.out.lt
      have q0 := BK9.out.cell 0
      have q2 := BK9.out.cell 2
      have pe := OwN.cellAt HS9.out.ends (j := l) (by omega)
      have fe := OwN.frozenAt HS9.out.ends l
      go_upto_region 11 with (fail)
      have HS11 := hide (HS9.out.end_ l T)
      have BK11 := hide (BK9.out.far (p := ⟨ge, l, none⟩) (by simp; omega) (.int .i64 T))
      have hz11 : Hp < (w10.setCell ⟨ge, l, none⟩ (.int .i64 T)).heap.size := by simp; exact HBlt
      clear q0 q2 pe fe HS9 BK9
      generalize World.setCell _ _ _ = w11 at HS11 BK11 hz11 ⊢
      have q0 := BK11.out.cell 0
      have q1 := BK11.out.cell 1
      have q2 := BK11.out.cell 2
      have q3 := BK11.out.cell 3
      have hrl5 : rows.length ≤ 16777216 := by have := hlen.out; omega
      go_wp2_with (at_builtin; refine wpList_pushF rfl (.tmp 44) (.tmp 46) rfl w11 w.heap.size _ rows (l : Int) F T (10 * lev) rfl rfl HS11.out.out hrl5 (by omega) ?_; intro v3 w12 hown3 hg3)
      have HS12 := hide (HS11.out.pushed hown3 hg3)
      have hz12 := hg3.size
      clear hown3 hg3 q0 q1 q2 q3
      go_roundw
      case rel => exact ⟨k + 1, _, _, by omega, by go_num, HS12.out, HR.out, by omega, by omega⟩
      case measure => simp [intOf]; omega
    · obtain rfl : k = n := by omega
      have hki : ¬ (k : Int) < (k : Int) := by omega
      have HF := hide (hfd.out.fades (by omega))
      have HL := hide hfd.out.len
      go_wp2_with fail
      go_ret
      exact ⟨_, rfl, rows, HS.out.out, HF.out, by rw [HL.out]; omega, HS.out.cur, HS.out.nx⟩

end Go.Proofs.Ytiibegilolijlaa
