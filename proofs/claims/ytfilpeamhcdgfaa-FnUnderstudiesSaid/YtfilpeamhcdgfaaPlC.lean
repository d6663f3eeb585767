/- Players: how the laws copy them. -/
import Derived.Test.YtfilpeamhcdgfaaPlO
import Derived.Laws.MakeOwn
import Derived.WalkKit
import Derived.ProofKit
import Derived.Handy
import Derived.OpenShut
import Derived.ShutString
import Derived.ChangeOld
import Derived.Below
import Derived.BigQuiet
import Derived.Deep.QuietTactic
import Derived.Deep.Draws
import Derived.Deep.DeepCutAuto
import Derived.Deep.DeepFit
import Derived.Deep.LoopGhost
import Derived.Outline
import Derived.WalkSpells
import Derived.WalkLawsBesides
import Derived.WalkSmall
import Derived.Laws.OwnMore
import Derived.OneCell
import Derived.Laws.Rows
import Derived.Maps.AppendAt
import Derived.StillTailTactics
import Derived.Lib.SmallJoins
import Derived.Deep.RegionWith
import Derived.Deep.RegionHeld3
import Derived.RegionTactic
import Derived.Deep.Matrix
import Derived.Deep.Fields
import Derived.ChangeSame
namespace Go.Proofs.Ytfilpeamhcdgfaa
open Go.RowKit

theorem run_make_rowN {P : Program} (t e : TypeId) (i : TypeInfo) (z : Value) (ht : P.underlying t = some (.slice e)) (hi : P.info? e = some i) (hz : i.zero = some z)
    (kl kc : IntKind) (n c : Nat) (hnc : n ≤ c) (hbytes : i.bytes * c ≤ 281474976710656) (h63 : c ≤ 9223372036854775807) (w : World) :
    (Instr.makeSlice t (.int kl (n : Int)) (.int kc (c : Int))).run P w = .ok (.slice (some ⟨w.heap.size, 0, none⟩) n c) (w.alloc (.cells (madeCells z.cells (c * i.size)) e)) := by
  have hb : (i.bytes : Int) * (c : Int) ≤ 281474976710656 := by
    have h : ((i.bytes * c : Nat) : Int) ≤ 281474976710656 := by omega
    rwa [Int.natCast_mul] at h
  have hr := run_make (P := P) w t e i z ht hi hz kl kc n c (by omega) (by omega) hb (by omega)
  simp only [Int.toNat_natCast] at hr
  exact hr

/-- A block that is known whole. -/
def Blk (w : World) (g : Nat) (t : TypeId) (cs : Array Value) : Prop := w.heap[g]? = some (.cells cs t (0, 0))
theorem Blk.lt {w : World} {g : Nat} {t : TypeId} {cs : Array Value} (h : Blk w g t cs) : g < w.heap.size := lt_of_block h
theorem Blk.cell {w : World} {g : Nat} {t : TypeId} {cs : Array Value} (h : Blk w g t cs) (i : Nat) : w.cell? ⟨g, i, none⟩ = cs[i]? := cell_of_row w g i cs t (0, 0) h
theorem Blk.frozen {w : World} {g : Nat} {t : TypeId} {cs : Array Value} (h : Blk w g t cs) (i : Nat) : w.frozen? ⟨g, i, none⟩ = false := by
  unfold Blk at h
  simp [World.frozen?, h]
theorem Blk.new (w : World) (t : TypeId) (cs : Array Value) : Blk (w.alloc (.cells cs t)) w.heap.size t cs := heap_alloc_new w _
theorem Blk.drew {w : World} {g : Nat} {t : TypeId} {cs : Array Value} (h : Blk w g t cs) : Blk w.drew g t cs := h
theorem Blk.drewN {w : World} {g : Nat} {t : TypeId} {cs : Array Value} (h : Blk w g t cs) (n : Nat) : Blk (w.drewN n) g t cs := h
theorem Blk.alloc {w : World} {g : Nat} {t : TypeId} {cs : Array Value} (h : Blk w g t cs) (o : Obj) : Blk (w.alloc o) g t cs := (Below.heap_alloc w o g h.lt).trans h
theorem Blk.set_ {w : World} {g : Nat} {t : TypeId} {cs : Array Value} (h : Blk w g t cs) (i : Nat) (u : Value) : Blk (w.setCell ⟨g, i, none⟩ u) g t (cs.setIfInBounds i u) := by
  unfold Blk at h ⊢
  simp [World.setCell, Array.getElem?_modify, h]
theorem Blk.far {w : World} {g : Nat} {t : TypeId} {cs : Array Value} (h : Blk w g t cs) {p : Addr} (hp : g ≠ p.block) (u : Value) : Blk (w.setCell p u) g t cs := (Below.heap_setCell w p u g hp).trans h
theorem Blk.below {w w' : World} {g : Nat} {t : TypeId} {cs : Array Value} (h : Blk w g t cs) (hb : Nx w w') : Blk w' g t cs := (hb.block g h.lt).trans h
theorem Blk.grown {w w' : World} {g : Nat} {t : TypeId} {cs : Array Value} {row : Option Nat} (h : Blk w g t cs) (hb : w.grownBy w' row) (hg : some g ≠ row) : Blk w' g t cs := (hb.block g h.lt hg).trans h

theorem own_ne_blk {w : World} {g : Nat} {t : TypeId} {cs : Array Value} (h : Blk w g t cs) {B : Nat} {u : Value} {xs : List Int} (ho : OwI w B u xs) (hne : 3 ≠ t) : u.ownBlock ≠ some g := by
  rcases ho.2 with ⟨rfl, _⟩ | ⟨g', cap, cur, rfl, _, hh, _⟩
  · simp [Value.ownBlock]
  · intro he
    have : g' = g := by simpa [Value.ownBlock] using he
    subst this
    have h' := h
    unfold Blk at h'
    rw [hh] at h'
    injection h' with h'
    injection h' with _ ht
    exact hne ht
theorem Blk.ne_ {w : World} {g g' : Nat} {t t' : TypeId} {cs cs' : Array Value} (h : Blk w g t cs) (h' : Blk w g' t' cs') (hne : t ≠ t') : g ≠ g' := by
  rintro rfl
  unfold Blk at h h'
  rw [h] at h'
  injection h' with h'
  injection h' with _ ht
  exact hne ht
/-- one variable's block changes: rows of ints stay. -/
theorem OwI.setFar {w : World} {B : Nat} {u : Value} {xs : List Int} (h : OwI w B u xs) {g : Nat} (hne : u.ownBlock ≠ some g) (i : Nat) (x : Value) : OwI (w.setCell ⟨g, i, none⟩ x) B u xs :=
  h.kept (row := some g) ⟨rfl, rfl, rfl, by simp, fun k _ hk => Below.heap_setCell w ⟨g, i, none⟩ x k (fun e => hk (by rw [e]))⟩ (.inr hne)

theorem fill_pl {ps : List Plr} {k : Nat} (hk : k < ps.length) : (ps.take k ++ List.replicate (ps.length - k) ([], 0)).set k (kn ps k, fr ps k) = ps.take (k + 1) ++ List.replicate (ps.length - (k + 1)) ([], 0) := by
  have hl : (ps.take k).length = k := by simp; omega
  have hr : List.replicate (ps.length - k) (([], 0) : Plr) = ([], 0) :: List.replicate (ps.length - (k + 1)) ([], 0) := by
    rw [show ps.length - k = (ps.length - (k + 1)) + 1 from by omega, List.replicate_succ]
  rw [hr, List.set_append_right _ _ (by omega), hl, Nat.sub_self, List.set_cons_zero, take_pl hk]
  simp
theorem madeCells_at (z : Array Value) (n j : Nat) (h : j < n) : (madeCells z n).toList[j]? = some (z[j % z.size]!) := by simp [madeCells, h]
/-- players with nothing, just made. -/
theorem OwPN.made0 (w : World) (n : Nat) (hn : n ≤ maxLen) : OwPN (w.alloc (.cells (madeCells (Value.cells (.agg #[.slice none 0 0, .int .i64 0])) (n * 2)) 44)) w.heap.size (.slice (some ⟨w.heap.size, 0, none⟩) n n) n (List.replicate n ([], 0)) := by
  have hv : ∀ k, kn (List.replicate n ([], 0)) k = [] := fun k => by
    unfold kn
    rw [List.getD, List.getElem?_replicate]
    split <;> rfl
  have hf : ∀ k, fr (List.replicate n ([], 0)) k = 0 := fun k => by
    unfold fr
    rw [List.getD, List.getElem?_replicate]
    split <;> rfl
  have hs : (madeCells (Value.cells (.agg #[.slice none 0 0, .int .i64 0])) (n * 2)).size = n * 2 := size_madeCells _ _
  refine ⟨by simp, (madeCells (Value.cells (.agg #[.slice none 0 0, .int .i64 0])) (n * 2)).toList, fun _ => .slice none 0 0, ⟨by rw [Array.length_toList, hs], .inr ⟨w.heap.size, n, _, rfl, Nat.le_refl _, heap_alloc_new w _, Nat.le_refl _, hn, hs, by rw [List.take_of_length_le]; rw [Array.length_toList, hs]; exact Nat.le_refl _⟩⟩, fun k hk => ?_, fun i j _ _ => Apart.none_left _⟩
  rw [hv, hf]
  refine ⟨?_, ?_, OwI.nil _ _⟩
  · have e : k * 2 % 2 = 0 := by omega
    rw [madeCells_at _ _ _ (by omega)]
    show some (#[Value.slice none 0 0, Value.int .i64 0][k * 2 % 2]!) = _
    rw [e]
    rfl
  · have e : (k * 2 + 1) % 2 = 1 := by omega
    rw [madeCells_at _ _ _ (by omega)]
    show some (#[Value.slice none 0 0, Value.int .i64 0][(k * 2 + 1) % 2]!) = _
    rw [e]
    rfl
/-- what is left of a bound. -/
def szV (left : Int) (n : Nat) : Int := if left - n < 0 then -1 else left - n
set_option maxHeartbeats 400000 in
theorem szIntS_any (v : Value) (zs : List Int) (left : Int) (w : World) (h : RdI w v zs) (hl : zs.length ≤ maxLen) (h0 : 0 ≤ left) (h1 : left ≤ 1048576) :
    Calls Try.prog 47 #[v, .int .i64 left] w fun e w' => e = .returned (.int .i64 (szV left zs.length)) ∧ w = w' := by
  obtain ⟨A, c, rfl, hx⟩ := h
  clear hx
  unfold maxLen at hl
  by_cases hlt : left - (zs.length : Int) < 0
  · have hf := hide (show szV left zs.length = -1 from by unfold szV; rw [if_pos hlt])
    go_enter Try.func47, Try.ntmps47
    go_wp2
    go_ret
    exact ⟨ret_int hf.out.symm, rfl⟩
  · have hf := hide (show szV left zs.length = left - zs.length from by unfold szV; rw [if_neg hlt])
    go_enter Try.func47, Try.ntmps47
    go_wp2
    go_ret
    exact ⟨ret_int hf.out.symm, rfl⟩
set_option maxHeartbeats 400000 in
theorem szPlayer_any (A : Option Addr) (c : Nat) (zs : List Int) (f left : Int) (w : World) (h : RdI w (.slice A zs.length c) zs) (hl : zs.length ≤ maxLen) (h0 : 0 ≤ left) (h1 : left ≤ 1048576) :
    Calls Try.prog 26 #[.agg #[.slice A zs.length c, .int .i64 f], .int .i64 left] w fun e w' => e = .returned (.int .i64 (szV left zs.length)) ∧ Nx w w' := by
  have H := hide (h.below (Nx.made w (.cells #[.slice A zs.length c, .int .i64 f] 50)))
  have hb := hide (Nx.made w (.cells #[.slice A zs.length c, .int .i64 f] 50))
  clear h
  by_cases hlt : left - (zs.length : Int) < 0
  · have hf := hide (show szV left zs.length = -1 from by unfold szV; rw [if_pos hlt])
    clear hlt
    go_enter Try.func26, Try.ntmps26
    go_wp2_with (go_at_call 47; refine (szIntS_any _ _ _ _ H.out hl h0 h1).mono ?_; rintro e w' ⟨rfl, rfl⟩; rw [hf.out])
    go_ret
    exact ⟨ret_int hf.out.symm, hb.out⟩
  · have hf := hide (show szV left zs.length = left - zs.length from by unfold szV; rw [if_neg hlt])
    go_enter Try.func26, Try.ntmps26
    go_wp2_with (go_at_call 47; refine (szIntS_any _ _ _ _ H.out hl h0 h1).mono ?_; rintro e w' ⟨rfl, rfl⟩; rw [hf.out])
    go_ret
    exact ⟨ret_int hf.out.symm, hb.out⟩
set_option maxHeartbeats 2000000 in
theorem szPlayerS_any (v : Value) (ps : List Plr) (left : Int) (w : World) (h : RdP w v ps) (hl : LenP ps) (l0 : 0 ≤ left) (l1 : left ≤ 1048576) :
    Calls Try.prog 6 #[v, .int .i64 left] w fun e w' => ∃ s, e = .returned (.int .i64 s) ∧ (0 ≤ s → FitP ps ∧ s ≤ 1048576) ∧ Nx w w' := by
  obtain ⟨A, c, rfl, hx⟩ := h
  have hn := hl.1
  have hrow := hide hl.2
  unfold maxLen at hn
  have Hx := hide hx
  clear hl hx
  by_cases hbig : left < (ps.length : Int)
  · go_enter Try.func6, Try.ntmps6
    go_wp2_with fail
    go_ret
    exact ⟨-1, rfl, fun h => absurd h (by omega), Below.refl _ _⟩
  · go_enter Try.func6, Try.ntmps6
    go_wp2_with fail
    go_loopw [1, 5] (fun q i wr => ∃ (k : Nat) (r : Int), k ≤ ps.length ∧ i = .int .i64 k ∧ q = .int .i64 r ∧ 0 ≤ r ∧ r ≤ 1048576 ∧ Hid (r + (sumP ps k : Int) - k = left - ps.length) ∧ Nx w wr) (fun _ i _ => ps.length - (intOf i).toNat)
    case atStart => exact ⟨0, _, Nat.zero_le _, rfl, rfl, by omega, by omega, by show _ + ((0 : Nat) : Int) - ((0 : Nat) : Int) = _; simp, Below.refl _ _⟩
    case round =>
      obtain ⟨k, r, hk, rfl, rfl, hr0, hr1, hs, hb⟩ := hrel
      by_cases hlt : k < ps.length
      · obtain ⟨b0, off, rfl, hb0, hc⟩ := Hx.out (by omega)
        obtain ⟨⟨A1, c1, hc0, hr0'⟩, hc1⟩ := hc k hlt
        have q0 := (hb.cells b0 (off + k * 2) hb0).trans hc0
        have q1 := (hb.cells b0 (off + k * 2 + 1) hb0).trans hc1
        have HR := hide (hr0'.below hb)
        have HL := hide (hrow.out k hlt)
        have Hb := hide hb
        have hk1 : (k : Int) < (ps.length : Int) := by omega
        clear hc hc0 hc1 hr0' hb Hx
        by_cases hneg : r - ((kn ps k).length : Int) < 0
        · have hf := hide (show szV r (kn ps k).length = -1 from by unfold szV; rw [if_pos hneg])
          clear hneg
          go_wp2_with (go_at_call 26; fail)
          refine (szPlayer_any _ _ _ _ _ _ HR.out HL.out hr0 hr1).mono ?_
          rintro e w1 ⟨rfl, b1⟩
          rw [hf.out]
          have HB := hide (Hb.out.trans b1)
          clear b1
          go_wp2_with fail
          go_ret
          exact ⟨-1, rfl, fun h => absurd h (by omega), HB.out⟩
        · have hf := hide (show szV r (kn ps k).length = r - (kn ps k).length from by unfold szV; rw [if_neg hneg])
          have hs' : Hid (r - ((kn ps k).length : Int) + (sumP ps (k + 1) : Int) - ((k + 1 : Nat) : Int) = left - ps.length) := by
            have := hs.out
            show r - ((kn ps k).length : Int) + (sumP ps (k + 1) : Int) - ((k + 1 : Nat) : Int) = left - ps.length
            simp only [sumP]
            omega
          go_wp2_with (go_at_call 26; fail)
          refine (szPlayer_any _ _ _ _ _ _ HR.out HL.out hr0 hr1).mono ?_
          rintro e w1 ⟨rfl, b1⟩
          rw [hf.out]
          have HB := hide (Hb.out.trans b1)
          clear b1
          go_wp2_with fail
          go_roundw
          case rel => exact ⟨k + 1, _, by omega, by go_num, rfl, by omega, by omega, hs'.out, HB.out⟩
          case measure => simp [intOf]; omega
      · obtain rfl : k = ps.length := by omega
        have hok := hide (show FitP ps ∧ r ≤ 1048576 from ⟨⟨by omega, by have := hs.out; omega⟩, hr1⟩)
        have Hb := hide hb
        clear Hx hb
        go_wp2_with fail
        go_ret
        exact ⟨r, rfl, fun _ => hok.out, Hb.out⟩
set_option maxHeartbeats 2000000 in
theorem toPlayer_any (A : Option Addr) (c : Nat) (zs : List Int) (f : Int) (w : World) (h : RdI w (.slice A zs.length c) zs) (hl : zs.length ≤ 1048576) :
    Calls Try.prog 29 #[.agg #[.slice A zs.length c, .int .i64 f]] w fun e w' => ∃ r, e = .returned (.agg #[r, .int .i64 f]) ∧ OwI w' w.heap.size r zs ∧ Nx w w' := by
  go_enter Try.func29, Try.ntmps29
  go_wp2_with (go_at_call 9; fail)
  have e1 : (w.alloc (.cells #[.slice A zs.length c, .int .i64 f] 50)).heap.size = w.heap.size + 1 := by simp
  have e2 : ((w.alloc (.cells #[.slice A zs.length c, .int .i64 f] 50)).alloc (.cells #[.slice none 0 0, .int .i64 0] 44)).heap.size = w.heap.size + 1 + 1 := by simp
  have b0 := ((Blk.new w 50 #[.slice A zs.length c, .int .i64 f]).alloc (.cells #[.slice none 0 0, .int .i64 0] 44)).alloc (.cells #[.slice none 0 0, .int .i64 0] 44)
  have b1 := (Blk.new (w.alloc (.cells #[.slice A zs.length c, .int .i64 f] 50)) 44 #[.slice none 0 0, .int .i64 0]).alloc (.cells #[.slice none 0 0, .int .i64 0] 44)
  have b2 := Blk.new ((w.alloc (.cells #[.slice A zs.length c, .int .i64 f] 50)).alloc (.cells #[.slice none 0 0, .int .i64 0] 44)) 44 #[.slice none 0 0, .int .i64 0]
  have hb := ((Nx.made w (.cells #[.slice A zs.length c, .int .i64 f] 50)).trans (Nx.made _ (.cells #[.slice none 0 0, .int .i64 0] 44))).trans (Nx.made _ (.cells #[.slice none 0 0, .int .i64 0] 44))
  rw [e1] at b1
  rw [e2] at b2
  clear e1 e2
  generalize World.alloc _ _ = w1 at b0 b1 b2 hb ⊢
  refine (toIntS_any _ _ w1 (h.below hb) hl).mono ?_
  rintro e w2 ⟨u, rfl, hu, hb2⟩
  obtain ⟨Au, cu, rfl, _⟩ := hu.open_
  have q0 : w2.cell? ⟨w.heap.size, 1, none⟩ = some (.int .i64 f) := (b0.below hb2).cell 1
  have q1 : w2.cell? ⟨w.heap.size + 1, 0, none⟩ = some (.slice none 0 0) := (b1.below hb2).cell 0
  have q2 : w2.cell? ⟨w.heap.size + 1, 1, none⟩ = some (.int .i64 0) := (b1.below hb2).cell 1
  have q3 : w2.cell? ⟨w.heap.size + 1 + 1, 0, none⟩ = some (.slice none 0 0) := (b2.below hb2).cell 0
  have q4 : w2.cell? ⟨w.heap.size + 1 + 1, 1, none⟩ = some (.int .i64 0) := (b2.below hb2).cell 1
  have f1 := fun i => (b1.below hb2).frozen i
  have f2 := fun i => (b2.below hb2).frozen i
  have n1 := b1.lt
  have n2 := b2.lt
  have m1 : (Value.slice Au zs.length cu).ownBlock ≠ some (w.heap.size + 1) := fun he => by have := (own_lt hu he).1; omega
  have m2 : (Value.slice Au zs.length cu).ownBlock ≠ some (w.heap.size + 1 + 1) := fun he => by have := (own_lt hu he).1; omega
  have Hu : Hid (∀ i (x : Value) j (y : Value) k (z : Value) l (t : Value), OwI ((((w2.setCell ⟨w.heap.size + 1 + 1, i, none⟩ x).setCell ⟨w.heap.size + 1 + 1, j, none⟩ y).setCell ⟨w.heap.size + 1, k, none⟩ z).setCell ⟨w.heap.size + 1, l, none⟩ t) w.heap.size (.slice Au zs.length cu) zs) := fun i x j y k z l t =>
    (((hu.mono hb.size).setFar m2 i x).setFar m2 j y |>.setFar m1 k z).setFar m1 l t
  have Hn : Hid (∀ i (x : Value) j (y : Value) k (z : Value) l (t : Value), Nx w ((((w2.setCell ⟨w.heap.size + 1 + 1, i, none⟩ x).setCell ⟨w.heap.size + 1 + 1, j, none⟩ y).setCell ⟨w.heap.size + 1, k, none⟩ z).setCell ⟨w.heap.size + 1, l, none⟩ t)) := fun i x j y k z l t =>
    ((((hb.trans hb2).setCell (p := ⟨w.heap.size + 1 + 1, i, none⟩) (by simp; omega) x).setCell (p := ⟨w.heap.size + 1 + 1, j, none⟩) (by simp; omega) y).setCell (p := ⟨w.heap.size + 1, k, none⟩) (by simp) z).setCell (p := ⟨w.heap.size + 1, l, none⟩) (by simp) t
  have HG : Hid (Blk ((((w2.setCell ⟨w.heap.size + 1 + 1, 0, none⟩ (.slice Au zs.length cu)).setCell ⟨w.heap.size + 1 + 1, 1, none⟩ (.int .i64 f)).setCell ⟨w.heap.size + 1, 0, none⟩ (.slice Au zs.length cu)).setCell ⟨w.heap.size + 1, 1, none⟩ (.int .i64 f)) (w.heap.size + 1) 44 #[.slice Au zs.length cu, .int .i64 f]) := by
    have := (((((b1.below hb2).far (p := ⟨w.heap.size + 1 + 1, 0, none⟩) (by simp) (.slice Au zs.length cu)).far (p := ⟨w.heap.size + 1 + 1, 1, none⟩) (by simp) (.int .i64 f)).set_ 0 (.slice Au zs.length cu)).set_ 1 (.int .i64 f))
    exact hide (by simpa using this)
  clear b0 b1 b2 hb hb2 hu h m1 m2
  go_wp2_with fail
  refine bodyPost_ret (v := .agg #[.slice Au zs.length cu, .int .i64 f]) (results_cell_row rfl _ _ (w.heap.size + 1) 44 _ (0, 0) _ rfl HG.out Try.underlying44 rfl (by kernel_rfl)) rfl ?_
  exact ⟨_, rfl, Hu.out _ _ _ _ _ _ _ _, Hn.out _ _ _ _ _ _ _ _⟩

set_option maxHeartbeats 2000000 in
theorem toPlayerS_any (v : Value) (ps : List Plr) (w : World) (h : RdP w v ps) (hl : FitP ps) :
    Calls Try.prog 8 #[v] w fun e w' => ∃ u, e = .returned u ∧ OwP w' w.heap.size u ps ∧ Nx w w' := by
  obtain ⟨A, c, rfl, hx⟩ := h
  have hn := hl.1
  have hrow := hide (fun i hi => hl.row (k := i) hi)
  obtain ⟨i0, hi, hz0, hz1, hz2⟩ := info_parts playerInfo
  have hmk := fun W => run_make_rowN (P := Try.prog) 26 44 i0 (.agg #[.slice none 0 0, .int .i64 0]) Try.underlying26 hi hz0 .i64 .i64 ps.length ps.length (Nat.le_refl _) (by rw [hz2]; omega) (by omega) W
  rw [hz1] at hmk
  have Hx := hide hx
  clear hx hi hz0 hz1 hz2 hl
  go_enter Try.func8, Try.ntmps8
  go_wp2_with fail
  have H0 := hide (OwPN.made0 w ps.length (by unfold maxLen; omega))
  have Hb0 := hide (Nx.made w (.cells (madeCells (Value.cells (.agg #[.slice none 0 0, .int .i64 0])) (ps.length * 2)) 44))
  clear hmk
  go_loopw [4] (fun i wr => ∃ k : Nat, k ≤ ps.length ∧ i = .int .i64 k ∧ OwPN wr w.heap.size (.slice (some ⟨w.heap.size, 0, none⟩) ps.length ps.length) ps.length (ps.take k ++ List.replicate (ps.length - k) ([], 0)) ∧ Nx w wr) (fun i _ => ps.length - (intOf i).toNat)
  case atStart => exact ⟨0, Nat.zero_le _, rfl, by rw [List.take_zero, List.nil_append, Nat.sub_zero]; exact H0.out, Hb0.out⟩
  case round =>
    clear H0 Hb0
    obtain ⟨k, hk, rfl, hh, hb⟩ := hrel
    by_cases hlt : k < ps.length
    · obtain ⟨b0, off, rfl, hb0, hc⟩ := Hx.out (by omega)
      obtain ⟨⟨A1, c1, hc0, hr0'⟩, hc1⟩ := hc k hlt
      have q0 := (hb.cells b0 (off + k * 2) hb0).trans hc0
      have q1 := (hb.cells b0 (off + k * 2 + 1) hb0).trans hc1
      have HR := hide (hr0'.below hb)
      have Hh := hide hh
      have Hb := hide hb
      have hk1 : (k : Int) < (ps.length : Int) := by omega
      clear hh hb hc hc0 hc1 hr0'
      go_wp2_with (go_at_call 29; fail)
      refine (toPlayer_any _ _ _ _ _ HR.out (hrow.out k hlt)).mono ?_
      rintro e w1 ⟨r, rfl, hr, b⟩
      have hh1 := Hh.out.below b
      obtain ⟨⟨o0, hq0, _, _⟩, hq1⟩ := hh1.cells hlt
      have hfz := fun o => hh1.frozenAt o
      have R0 := Hh.out.put b hr Hb.out.size hlt
      have R1 := R0.free hlt (fr ps k)
      rw [List.set_set, kn_set_same (by have := R0.1; rw [List.length_set] at this; omega), fill_pl hlt] at R1
      have R := hide R1
      have Rb := hide (Hb.out.trans b)
      obtain ⟨Ar, cr, rfl, _⟩ := hr.open_
      clear b R0 R1 hh1 hr HR Hh Hb q0 q1
      go_wp2_with fail
      go_roundw
      case rel => exact ⟨k + 1, by omega, by go_num, R.out, ((Rb.out).setCell (p := ⟨w.heap.size, k * 2, none⟩) (Nat.le_refl _) _).setCell (p := ⟨w.heap.size, k * 2 + 1, none⟩) (Nat.le_refl _) _⟩
      case measure => simp [intOf]; omega
    · obtain rfl : k = ps.length := by omega
      have Hh := hide hh
      have Hb := hide hb
      clear hh hb
      go_wp2_with fail
      go_ret
      exact ⟨_, rfl, by have := Hh.out.toP; simpa using this, Hb.out⟩
set_option maxHeartbeats 1000000 in
theorem eqPlayer_same (A A' : Option Addr) (c c' : Nat) (zs : List Int) (f : Int) (w : World) (h : RdI w (.slice A zs.length c) zs) (h' : RdI w (.slice A' zs.length c') zs) (hl : zs.length ≤ 1048576) :
    Calls Try.prog 32 #[.agg #[.slice A zs.length c, .int .i64 f], .agg #[.slice A' zs.length c', .int .i64 f]] w fun e w' => e = .returned (.bool true) ∧ Nx w w' := by
  have hb := (Nx.made w (.cells #[.slice A zs.length c, .int .i64 f] 44)).trans (Nx.made _ (.cells #[.slice A' zs.length c', .int .i64 f] 44))
  have e1 : (w.alloc (.cells #[.slice A zs.length c, .int .i64 f] 44)).heap.size = w.heap.size + 1 := by simp
  have b0 := (Blk.new w 44 #[.slice A zs.length c, .int .i64 f]).alloc (.cells #[.slice A' zs.length c', .int .i64 f] 44)
  have b1 := Blk.new (w.alloc (.cells #[.slice A zs.length c, .int .i64 f] 44)) 44 #[.slice A' zs.length c', .int .i64 f]
  rw [e1] at b1
  clear e1
  go_enter Try.func32, Try.ntmps32
  go_wp2_with (go_at_call 11; fail)
  generalize World.alloc _ _ = w1 at b0 b1 hb ⊢
  refine (eqIntS_same _ _ _ w1 (h.below hb) (h'.below hb) hl).mono ?_
  rintro e w2 ⟨rfl, hb2⟩
  have q0 : w2.cell? ⟨w.heap.size, 1, none⟩ = some (.int .i64 f) := (b0.below hb2).cell 1
  have q1 : w2.cell? ⟨w.heap.size + 1, 1, none⟩ = some (.int .i64 f) := (b1.below hb2).cell 1
  have HB := hide (hb.trans hb2)
  clear b0 b1 hb hb2 h h'
  go_wp2_with fail
  go_ret
  exact ⟨rfl, HB.out⟩
set_option maxHeartbeats 1000000 in
theorem eqPlayerS_same (v u : Value) (ps : List Plr) (w : World) (h : RdP w v ps) (h' : RdP w u ps) (hl : FitP ps) :
    Calls Try.prog 12 #[v, u] w fun e w' => e = .returned (.bool true) ∧ Nx w w' := by
  obtain ⟨A, c, rfl, hx⟩ := h
  obtain ⟨A', c', rfl, hx'⟩ := h'
  have hn := hl.1
  have hrow := hide (fun i hi => hl.row (k := i) hi)
  have Hx := hide hx
  have Hx' := hide hx'
  clear hx hx' hl
  go_enter Try.func12, Try.ntmps12
  go_wp2_with fail
  go_loopw [5] (fun i wr => ∃ k : Nat, k ≤ ps.length ∧ i = .int .i64 k ∧ Nx w wr) (fun i _ => ps.length - (intOf i).toNat)
  case atStart => exact ⟨0, Nat.zero_le _, rfl, Below.refl _ _⟩
  case round =>
    obtain ⟨k, hk, rfl, hb⟩ := hrel
    by_cases hlt : k < ps.length
    · obtain ⟨b0, off, rfl, hb0, hc⟩ := Hx.out (by omega)
      obtain ⟨⟨A1, c1, hc0, hr0'⟩, hc1⟩ := hc k hlt
      obtain ⟨b1, off1, rfl, hb1, hcB⟩ := Hx'.out (by omega)
      obtain ⟨⟨A2, c2, hd0, hr1'⟩, hd1⟩ := hcB k hlt
      have q0 := (hb.cells b0 (off + k * 2) hb0).trans hc0
      have q1 := (hb.cells b0 (off + k * 2 + 1) hb0).trans hc1
      have q2 := (hb.cells b1 (off1 + k * 2) hb1).trans hd0
      have q3 := (hb.cells b1 (off1 + k * 2 + 1) hb1).trans hd1
      have HR := hide ((hr0'.below hb).below (Nx.drew (Below.refl _ _)))
      have HR1 := hide ((hr1'.below hb).below (Nx.drew (Below.refl _ _)))
      have Hb := hide hb
      have hk1 : (k : Int) < (ps.length : Int) := by omega
      clear hb hc hcB Hx Hx' hc0 hc1 hd0 hd1 hr0' hr1'
      go_wp2_with fail
      go_still_tail 8, (by kernel_rfl)
      go_wp2_with (go_at_call 32; fail)
      refine (eqPlayer_same _ _ _ _ _ _ _ HR.out HR1.out (hrow.out k hlt)).mono ?_
      rintro e w1 ⟨rfl, h1⟩
      have Rb := hide (Hb.out.trans_drew h1)
      clear h1
      go_wp2_with fail
      go_roundw
      case rel => exact ⟨k + 1, by omega, by go_num, Rb.out⟩
      case measure => simp [intOf]; omega
    · obtain rfl : k = ps.length := by omega
      go_wp2_with fail
      go_ret
      exact ⟨rfl, hb⟩

end Go.Proofs.Ytfilpeamhcdgfaa
