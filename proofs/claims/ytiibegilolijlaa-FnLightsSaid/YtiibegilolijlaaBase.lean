/- The words of this seat: how a slice reads, what the program owns. -/
import Derived.Test.YtiibegilolijlaaRows
import Derived.WalkKit
import Derived.ProofKit
import Derived.Handy
import Derived.OpenShut
import Derived.ShutString
import Derived.ChangeOld
import Derived.Below
import Derived.BigQuiet
import Derived.Deep.QuietTactic
import Derived.Deep.Draws
import Derived.Deep.DeepCutAuto
import Derived.Deep.DeepFit
import Derived.Deep.LoopGhost
import Derived.Outline
import Derived.WalkSpells
import Derived.WalkLawsBesides
import Derived.WalkSmall
import Derived.Laws.OwnMore
import Derived.OneCell
import Derived.Laws.Rows
import Derived.Maps.AppendAt
import Derived.StillTailTactics
import Derived.Lib.SmallJoins
import Derived.Deep.RegionWith
import Derived.Deep.RegionHeld3
import Derived.RegionTactic
import Derived.Deep.Matrix
import Derived.Deep.Fields
import Derived.ChangeSame
namespace Go.Proofs.Ytiibegilolijlaa
open Go.RowKit

/-- The number at place k of a list, 0 outside. -/
def gt (zs : List Int) (k : Nat) : Int := zs.getD k 0

theorem gt_getElem {zs : List Int} {k : Nat} (h : k < zs.length) : gt zs k = zs[k] := by simp [gt, h]
theorem gt_mem {zs : List Int} {k : Nat} (h : k < zs.length) : gt zs k ∈ zs := by rw [gt_getElem h]; exact List.getElem_mem h
theorem take_gt {zs : List Int} {k : Nat} (h : k < zs.length) : zs.take (k + 1) = zs.take k ++ [gt zs k] := by
  rw [gt_getElem h, List.take_succ_eq_append_getElem h]
theorem gt_append_left {xs ys : List Int} {k : Nat} (h : k < xs.length) : gt (xs ++ ys) k = gt xs k := by
  unfold gt; simp [List.getD, List.getElem?_append_left h]
theorem gt_snoc (xs : List Int) (y : Int) : gt (xs ++ [y]) xs.length = y := by unfold gt; simp
theorem gt_map (zs : List Int) (k : Nat) (h : k < zs.length) : (zs.map (Value.int .i64))[k]? = some (.int .i64 (gt zs k)) := by
  simp [gt, h]
theorem ext_gt {xs ys : List Int} (hl : xs.length = ys.length) (h : ∀ k, k < xs.length → gt xs k = gt ys k) : xs = ys := by
  apply List.ext_getElem hl
  intro k h1 h2
  rw [← gt_getElem h1, ← gt_getElem h2]
  exact h k h1
theorem gt_set_same {zs : List Int} {k : Nat} (h : k < zs.length) (x : Int) : gt (zs.set k x) k = x := by
  unfold gt; simp [h]
theorem gt_set_other {zs : List Int} {k j : Nat} (h : j ≠ k) (x : Int) : gt (zs.set k x) j = gt zs j := by
  unfold gt; simp [Ne.symm h]
theorem gt_replicate (n : Nat) (x : Int) (k : Nat) (h : k < n) : gt (List.replicate n x) k = x := by
  unfold gt; simp [h]

/-- A slice value that reads as a list of ints (nil and empty ones included). -/
def RdI (w : World) (v : Value) (zs : List Int) : Prop :=
  ∃ A c, v = .slice A zs.length c ∧ (0 < zs.length → ∃ b off, A = some ⟨b, off, none⟩ ∧ b < w.heap.size ∧ ∀ j, j < zs.length → w.cell? ⟨b, off + j, none⟩ = some (.int .i64 (gt zs j)))

/-- A slice of the program's own, in a block from B on. -/
def OwI (w : World) (B : Nat) (v : Value) (zs : List Int) : Prop := w.ownsRow B 3 1 v zs.length (zs.map (Value.int .i64))

theorem RdI.below {w w' : World} {v : Value} {zs : List Int} (h : RdI w v zs) (hb : Below w.heap.size w w') : RdI w' v zs := by
  obtain ⟨A, c, rfl, hx⟩ := h
  refine ⟨A, c, rfl, fun h0 => ?_⟩
  obtain ⟨b, off, rfl, hlt, hc⟩ := hx h0
  exact ⟨b, off, rfl, Nat.lt_of_lt_of_le hlt hb.size, fun j hj => (hb.cell (p := ⟨b, off + j, none⟩) hlt).trans (hc j hj)⟩

theorem RdI.nil (w : World) (A : Option Addr) (c : Nat) : RdI w (.slice A 0 c) [] := ⟨A, c, rfl, fun h => absurd h (by simp)⟩

theorem OwI.form {w : World} {B : Nat} {v : Value} {zs : List Int} (h : OwI w B v zs) :
    (v = .slice none 0 0 ∧ zs = []) ∨ ∃ g cap, v = .slice (some ⟨g, 0, none⟩) zs.length cap ∧ B ≤ g ∧ g < w.heap.size ∧ zs.length ≤ cap ∧ cap ≤ maxLen := by
  rcases h.2 with ⟨rfl, h0⟩ | ⟨g, cap, cur, rfl, hB, hg, h1, h2, _, _⟩
  · exact .inl ⟨rfl, List.eq_nil_of_length_eq_zero h0⟩
  · exact .inr ⟨g, cap, rfl, hB, lt_of_block hg, h1, h2⟩

theorem OwI.reads {w : World} {B : Nat} {v : Value} {zs : List Int} (h : OwI w B v zs) : RdI w v zs := by
  rcases h.form with ⟨rfl, rfl⟩ | ⟨g, cap, rfl, hB, hg, hl, hm⟩
  · exact RdI.nil _ _ _
  · refine ⟨_, cap, rfl, fun _ => ⟨g, 0, rfl, hg, fun j hj => ?_⟩⟩
    rw [Nat.zero_add, World.ownsRow.cellAt h j (by omega), gt_map _ _ hj]

theorem OwI.below {w w' : World} {B : Nat} {v : Value} {zs : List Int} (h : OwI w B v zs) (hb : Below w.heap.size w w') : OwI w' B v zs := by
  obtain ⟨h1, h2⟩ := h
  refine ⟨h1, ?_⟩
  rcases h2 with h2 | ⟨g, cap, cur, hv, hB, hg, h3⟩
  · exact .inl h2
  · exact .inr ⟨g, cap, cur, hv, hB, (hb.block g (lt_of_block hg)).trans hg, h3⟩

theorem OwI.mono {w : World} {B B' : Nat} {v : Value} {zs : List Int} (h : OwI w B v zs) (hB : B' ≤ B) : OwI w B' v zs := by
  obtain ⟨h1, h2⟩ := h
  refine ⟨h1, ?_⟩
  rcases h2 with h2 | ⟨g, cap, cur, hv, hb, h3⟩
  · exact .inl h2
  · exact .inr ⟨g, cap, cur, hv, by omega, h3⟩

theorem OwI.kept {w w' : World} {B : Nat} {v : Value} {zs : List Int} {row : Option Nat} (h : OwI w B v zs) (hg : w.grownBy w' row) (hne : v.ownBlock = none ∨ v.ownBlock ≠ row) : OwI w' B v zs := World.ownsRow.kept h hg hne

/-- A row made at a later time lies elsewhere. -/
theorem OwI.apart {w w1 : World} {B B1 : Nat} {v v1 : Value} {zs zs1 : List Int} (h : OwI w B v zs) (h1 : OwI w1 B1 v1 zs1) (hB : w.heap.size ≤ B1) : v1.ownBlock = none ∨ v1.ownBlock ≠ v.ownBlock := by
  rcases h1.form with ⟨rfl, _⟩ | ⟨g1, c1, rfl, hb1, _⟩
  · exact .inl rfl
  · refine .inr fun he => ?_
    rcases h.form with ⟨rfl, _⟩ | ⟨g, c, rfl, _, hlt, _⟩
    · simp [Value.ownBlock] at he
    · simp [Value.ownBlock] at he
      omega
theorem OwI.apart' {w w1 : World} {B B1 : Nat} {v v1 : Value} {zs zs1 : List Int} (h : OwI w B v zs) (h1 : OwI w1 B1 v1 zs1) (hB : w.heap.size ≤ B1) : v.ownBlock = none ∨ v.ownBlock ≠ v1.ownBlock := by
  rcases h.form with ⟨rfl, _⟩ | ⟨g, c, rfl, _, hlt, _⟩
  · exact .inl rfl
  · refine .inr fun he => ?_
    rcases h1.form with ⟨rfl, _⟩ | ⟨g1, c1, rfl, hb1, _⟩
    · simp [Value.ownBlock] at he
    · simp [Value.ownBlock] at he
      omega

theorem OwI.nil (w : World) (B : Nat) : OwI w B (.slice none 0 0) [] := World.ownsRow_nil _ _ _ _

theorem OwI.base {w : World} {B : Nat} {v : Value} {zs : List Int} (h : OwI w B v zs) : ∀ k, v.ownBlock = some k → B ≤ k := fun k hk => (World.ownsRow.lt h k hk).1

/-- The world goes on: nothing that was there has changed. -/
abbrev Nx (w w' : World) : Prop := Below w.heap.size w w'
theorem Nx.trans {a b c : World} (h : Nx a b) (k : Nx b c) : Nx a c := Below.trans h (k.mono h.size)
theorem Nx.only {a b c : World} {B : Nat} {v : Value} {zs : List Int} (h : Nx a b) (ho : OwI b B v zs) (hg : b.grownBy c v.ownBlock) (hB : a.heap.size ≤ B) : Nx a c :=
  Below.grown h hg h.size (fun k hk => Nat.le_trans hB (ho.base k hk))
theorem Nx.drew {a b : World} (h : Nx a b) : Nx a b.drew := Below.drew h
theorem Nx.drewN {a b : World} (h : Nx a b) (n : Nat) : Nx a (b.drewN n) := ⟨h.os, h.tape, h.output, h.size, h.block⟩
theorem Nx.trans_drew {a b c : World} (h : Nx a b) (k : Nx b.drew c) : Nx a c := Nx.trans (Nx.drew h) k
theorem Nx.size {a b : World} (h : Nx a b) : a.heap.size ≤ b.heap.size := Below.size h

theorem Nx.made (w : World) (o : Obj) : Nx w (w.alloc o) := (Below.refl _ _).alloc (Nat.le_refl _) o
theorem Nx.cells {W w1 : World} (hb : Nx W w1) (b o : Nat) (h : b < W.heap.size) : w1.cell? ⟨b, o, none⟩ = W.cell? ⟨b, o, none⟩ := hb.cell (p := ⟨b, o, none⟩) h

theorem intInfo : (Try.prog.info? 3).map (fun i => (i.zero, i.size, i.bytes)) = some (some (.int .i64 0), 1, 8) := by kernel_rfl

theorem ret_int {k : IntKind} {a b : Int} (h : a = b) : Ending.returned (.int k a) = .returned (.int k b) := by rw [h]
theorem ret_bool {a b : Bool} (h : a = b) : Ending.returned (.bool a) = .returned (.bool b) := by rw [h]

theorem hide {p : Prop} (h : p) : Hid p := h
theorem unhide {p : Prop} (h : Hid p) : p := h

/-- n lies from a to b. -/
def inR (n a b : Int) : Bool := decide (a ≤ n) && decide (n ≤ b)
theorem inR_iff {n a b : Int} : inR n a b = true ↔ a ≤ n ∧ n ≤ b := by simp [inR]
theorem inR_false {n a b : Int} : inR n a b = false ↔ ¬ (a ≤ n ∧ n ≤ b) := by simp [inR]
/-- all numbers lie from a to b. -/
def allW (a b : Int) (zs : List Int) : Bool := zs.all fun z => inR z a b
theorem allW_iff {a b : Int} {zs : List Int} : allW a b zs = true ↔ ∀ k, k < zs.length → a ≤ gt zs k ∧ gt zs k ≤ b := by
  unfold allW
  rw [List.all_eq_true]
  constructor
  · intro h k hk
    exact inR_iff.1 (h _ (gt_mem hk))
  · intro h x hx
    obtain ⟨k, hk, rfl⟩ := List.getElem_of_mem hx
    rw [← gt_getElem hk]
    exact inR_iff.2 (h k hk)
theorem allW_false {a b : Int} {zs : List Int} {k : Nat} (hk : k < zs.length) (h : inR (gt zs k) a b = false) : allW a b zs = false := by
  rw [Bool.eq_false_iff]
  intro ht
  have := inR_iff.2 (allW_iff.1 ht k hk)
  rw [h] at this
  cases this
theorem allW_of {a b : Int} {zs : List Int} (h : ∀ k, k < zs.length → inR (gt zs k) a b = true) : allW a b zs = true := allW_iff.2 fun k hk => inR_iff.1 (h k hk)

/-- k, k + 1, .. : n numbers. -/
def marks (k : Int) (n : Nat) : List Int := (List.range n).map fun (i : Nat) => k + (i : Int)
theorem marks_length (k : Int) (n : Nat) : (marks k n).length = n := by simp [marks]
theorem gt_marks {k : Int} {n j : Nat} (h : j < n) : gt (marks k n) j = k + j := by simp [gt, marks, h]
theorem marks_succ (k : Int) (n : Nat) : marks k (n + 1) = marks k n ++ [k + (n : Int)] := by simp [marks, List.range_succ]

/-- One place filled: what was done, what is left. -/
theorem set_step {done rest : List Int} {x y : Int} : (done ++ y :: rest).set done.length x = (done ++ [x]) ++ rest := by
  rw [List.set_append_right _ _ (Nat.le_refl _)]; simp
theorem fill_set {zs : List Int} {k : Nat} (hk : k < zs.length) : (zs.take k ++ List.replicate (zs.length - k) 0).set k (gt zs k) = zs.take (k + 1) ++ List.replicate (zs.length - (k + 1)) 0 := by
  have hl : (zs.take k).length = k := by simp; omega
  have hr : List.replicate (zs.length - k) (0 : Int) = 0 :: List.replicate (zs.length - (k + 1)) 0 := by
    rw [show zs.length - k = (zs.length - (k + 1)) + 1 from by omega, List.replicate_succ]
  rw [hr]
  have := set_step (done := zs.take k) (rest := List.replicate (zs.length - (k + 1)) 0) (x := gt zs k) (y := 0)
  rw [hl] at this
  rw [this, take_gt hk]
theorem mark_set {zs : List Int} {k : Int} {j : Nat} (hj : j < zs.length) : (marks k j ++ zs.drop j).set j (k + (j : Int)) = marks k (j + 1) ++ zs.drop (j + 1) := by
  have hd : zs.drop j = zs[j] :: zs.drop (j + 1) := List.drop_eq_getElem_cons hj
  rw [hd]
  have := set_step (done := marks k j) (rest := zs.drop (j + 1)) (x := k + (j : Int)) (y := zs[j])
  rw [marks_length] at this
  rw [this, marks_succ]

/-- The owned row whose length is known by another name. -/
def OwN (w : World) (B : Nat) (v : Value) (n : Nat) (zs : List Int) : Prop := w.ownsRow B 3 1 v n (zs.map (Value.int .i64))
theorem OwN.len {w : World} {B : Nat} {v : Value} {n : Nat} {zs : List Int} (h : OwN w B v n zs) : zs.length = n := by have := h.1; simpa using this
theorem OwN.toI {w : World} {B : Nat} {v : Value} {n : Nat} {zs : List Int} (h : OwN w B v n zs) : OwI w B v zs := by
  have := h.len; subst this; exact h
theorem OwI.toN {w : World} {B : Nat} {v : Value} {zs : List Int} (h : OwI w B v zs) : OwN w B v zs.length zs := h
theorem OwN.cellAt {w : World} {B g cap : Nat} {n : Nat} {zs : List Int} (h : OwN w B (.slice (some ⟨g, 0, none⟩) n cap) n zs) {j : Nat} (hj : j < n) : w.cell? ⟨g, j, none⟩ = some (.int .i64 (gt zs j)) := by
  rw [World.ownsRow.cellAt h j (by omega), gt_map _ _ (by rw [h.len]; exact hj)]
theorem OwN.frozenAt {w : World} {B g cap : Nat} {n : Nat} {zs : List Int} (h : OwN w B (.slice (some ⟨g, 0, none⟩) n cap) n zs) (j : Nat) : w.frozen? ⟨g, j, none⟩ = false := World.ownsRow.frozenAt h j
theorem OwN.stored {w : World} {B g cap : Nat} {n : Nat} {zs : List Int} (h : OwN w B (.slice (some ⟨g, 0, none⟩) n cap) n zs) (j : Nat) (x : Int) :
    OwN (w.setCell ⟨g, j, none⟩ (.int .i64 x)) B (.slice (some ⟨g, 0, none⟩) n cap) n (zs.set j x) ∧ w.grownBy (w.setCell ⟨g, j, none⟩ (.int .i64 x)) (some g) := by
  have := World.ownsRow.stored h j (.int .i64 x)
  refine ⟨?_, this.2⟩
  unfold OwN
  rw [List.map_set]
  exact this.1
theorem OwN.block {w : World} {B g cap : Nat} {n : Nat} {zs : List Int} (h : OwN w B (.slice (some ⟨g, 0, none⟩) n cap) n zs) : B ≤ g ∧ g < w.heap.size := World.ownsRow.lt h g rfl
theorem OwI.open_ {w : World} {B : Nat} {v : Value} {zs : List Int} (h : OwI w B v zs) : ∃ A c, v = .slice A zs.length c ∧ (0 < zs.length → ∃ g, A = some ⟨g, 0, none⟩) ∧ (zs.length = 0 → True) := by
  rcases h.form with ⟨rfl, rfl⟩ | ⟨g, cap, rfl, _⟩
  · exact ⟨none, 0, rfl, fun h => absurd h (by simp), fun _ => trivial⟩
  · exact ⟨_, cap, rfl, fun _ => ⟨g, rfl⟩, fun _ => trivial⟩
theorem grownBy_trans {a b c : World} {row : Option Nat} (h : a.grownBy b row) (k : b.grownBy c row) : a.grownBy c row :=
  ⟨k.os.trans h.os, k.tape.trans h.tape, k.output.trans h.output, Nat.le_trans h.size k.size, fun i hi hne => (k.block i (Nat.lt_of_lt_of_le hi h.size) hne).trans (h.block i hi hne)⟩
theorem own_lt {w : World} {B : Nat} {v : Value} {zs : List Int} (h : OwI w B v zs) {g : Nat} (hg : v.ownBlock = some g) : B ≤ g ∧ g < w.heap.size := World.ownsRow.lt h g hg

/-- What is known of a slice of integers that came in. -/
def IsRow (k : IntKind) (w : World) (a : Option Addr) (len cap : Nat) (zs : List Int) : Prop :=
  (a = none ∧ len = 0 ∧ cap = 0 ∧ zs = []) ∨
  ∃ x, a = some x ∧ len ≤ cap ∧ cap ≤ maxLen ∧ zs.length = cap ∧ (∀ i, i < zs.length → w.cell? (x.add i) = some (.int k (zs.getD i 0))) ∧ ∀ n ∈ zs, (Lit.int k n).wf = true

theorem add_off (b off i : Nat) : (⟨b, off, none⟩ : Addr).add i = ⟨b, off + i, none⟩ := by
  unfold Addr.add; split
  · rename_i h; subst h; rfl
  · rfl

theorem isRow_reads {w : World} {a : Option Addr} {len cap : Nat} {zs : List Int} (h : IsRow .i64 w a len cap zs) :
    ∃ ys, RdI w (.slice a len cap) ys ∧ ys.length ≤ maxLen ∧ ∀ n ∈ ys, (Lit.int .i64 n).wf = true := by
  rcases h with ⟨rfl, rfl, rfl, rfl⟩ | ⟨x, rfl, hl, hm, hz, hcell, hwz⟩
  · exact ⟨[], RdI.nil _ _ _, by simp, by simp⟩
  · have hlen : (zs.take len).length = len := by rw [List.length_take]; omega
    refine ⟨zs.take len, ⟨some x, cap, by rw [hlen], fun h0 => ?_⟩, by rw [hlen]; omega, fun n hn => hwz n (List.mem_of_mem_take hn)⟩
    rw [hlen] at h0 ⊢
    have hc := hcell 0 (by omega)
    obtain ⟨b, off, spot⟩ := x
    have hspot : spot = none := by simpa [Addr.add] using World.cell?_spot hc
    subst hspot
    refine ⟨b, off, rfl, by simpa [Addr.add] using block_lt_of_cell hc, fun j hj => ?_⟩
    have := hcell j (by omega)
    rw [add_off] at this
    rw [this]
    simp [gt, hj]

/-- The numbers that an int can be. -/
def I64 (n : Int) : Prop := -9223372036854775808 ≤ n ∧ n ≤ 9223372036854775807
theorem I64.of_wf {n : Int} (h : (Lit.int .i64 n).wf = true) : I64 n := bounds_i64 h

theorem own : ownKnob Try.prog.godebug = none := by kernel_rfl
theorem laidOut : laidOutB Try.prog = true := by kernel_rfl

theorem quiet_left {P : Program} {f : FuncId} {args : Array Value} {w : World} {n : Nat} {v : Value}
    (h : Calls P f args (w.drewN n) fun e w' => e = .returned v ∧ w.drewN n = w') : Calls P f args (w.drewN n) fun e w'' => e = .returned v ∧ ∃ m, w'' = w.drewN m :=
  h.mono fun _ _ ⟨he, hm⟩ => ⟨he, n, hm.symm⟩
theorem quiet_add_left {P : Program} {f : FuncId} {args : Array Value} {w : World} {a n : Nat} {v : Value}
    (h : Calls P f args (w.drewN (a + n)) fun e w' => e = .returned v ∧ w.drewN (a + n) = w') :
    Calls P f args (w.drewN (a + n)) fun e w'' => e = .returned v ∧ ∃ m, w'' = w.drewN (a + m) :=
  h.mono fun _ _ ⟨he, hm⟩ => ⟨he, n, hm.symm⟩
theorem calls_nx {P : Program} {f : FuncId} {args : Array Value} {w : World} {v : Value} (h : Calls P f args w fun e w' => e = .returned v ∧ ∃ m, w' = w.drewN m) : Calls P f args w fun e w' => e = .returned v ∧ Nx w w' :=
  h.mono fun _ _ ⟨he, _, hm⟩ => ⟨he, by rw [hm]; exact Nx.drewN (Below.refl _ _) _⟩
theorem quiet_add {P : Program} {f : FuncId} {args : Array Value} {w : World} {a n : Nat} {v : Value}
    (h : Calls P f args (w.drewN (a + n)) fun e w' => e = .returned v ∧ ∃ m, w' = (w.drewN (a + n)).drewN m) :
    Calls P f args (w.drewN (a + n)) fun e w'' => e = .returned v ∧ ∃ m, w'' = w.drewN (a + m) :=
  h.mono fun _ _ ⟨he, m, hm⟩ => ⟨he, n + m, by rw [hm, World.drewN_drewN, Nat.add_assoc]⟩

end Go.Proofs.Ytiibegilolijlaa
