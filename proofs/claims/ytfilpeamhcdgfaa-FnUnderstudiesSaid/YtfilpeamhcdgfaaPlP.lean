/- Players: the plain law. -/
import Derived.Test.YtfilpeamhcdgfaaPlM
import Derived.Test.YtfilpeamhcdgfaaPut
import Derived.WalkKit
import Derived.ProofKit
import Derived.Handy
import Derived.OpenShut
import Derived.ShutString
import Derived.ChangeOld
import Derived.Below
import Derived.BigQuiet
import Derived.Deep.QuietTactic
import Derived.Deep.Draws
import Derived.Deep.DeepCutAuto
import Derived.Deep.DeepFit
import Derived.Deep.LoopGhost
import Derived.Outline
import Derived.WalkSpells
import Derived.WalkLawsBesides
import Derived.WalkSmall
import Derived.Laws.OwnMore
import Derived.OneCell
import Derived.Laws.Rows
import Derived.Maps.AppendAt
import Derived.StillTailTactics
import Derived.Lib.SmallJoins
import Derived.Deep.RegionWith
import Derived.Deep.RegionHeld3
import Derived.RegionTactic
import Derived.Deep.Matrix
import Derived.Deep.Fields
import Derived.ChangeSame
namespace Go.Proofs.Ytfilpeamhcdgfaa
open Go.RowKit

/-- players are ones. -/
def playersOk (ps : List Plr) : Bool := ((List.range ps.length).all fun k => strictL 0 6 (kn ps k) && inR (fr ps k) 0 2) && inR (ps.length : Int) 1 6
theorem playersOk_iff {ps : List Plr} : playersOk ps = true ↔ (∀ k, k < ps.length → strictL 0 6 (kn ps k) = true ∧ 0 ≤ fr ps k ∧ fr ps k ≤ 2) ∧ 1 ≤ ps.length ∧ ps.length ≤ 6 := by
  simp only [playersOk, Bool.and_eq_true, List.all_eq_true, List.mem_range, inR_iff]
  constructor
  · rintro ⟨h1, h2⟩; exact ⟨h1, by omega⟩
  · rintro ⟨h1, h2⟩; exact ⟨h1, by omega⟩
theorem playersOk_no {ps : List Plr} {k : Nat} (hk : k < ps.length) (h : strictL 0 6 (kn ps k) = false ∨ inR (fr ps k) 0 2 = false) : playersOk ps = false := by
  rw [Bool.eq_false_iff]
  intro ht
  have := (playersOk_iff.1 ht).1 k hk
  rcases h with h | h
  · rw [this.1] at h; cases h
  · rw [inR_iff.2 this.2] at h; cases h
theorem playersOk_end {ps : List Plr} (h : ∀ k, k < ps.length → strictL 0 6 (kn ps k) = true ∧ inR (fr ps k) 0 2 = true) : playersOk ps = inR (ps.length : Int) 1 6 := by
  have : ((List.range ps.length).all fun k => strictL 0 6 (kn ps k) && inR (fr ps k) 0 2) = true := by
    simp only [List.all_eq_true, List.mem_range, Bool.and_eq_true]
    exact h
  simp [playersOk, this]
/-- there is a casting of the puppets from place pu.length - f on, for the free hands fs. -/
def canF (ps : List Plr) (pu : List Int) : Nat → List Int → Bool
  | 0, _ => true
  | f + 1, fs => (List.range ps.length).any fun p => decide (0 < gt fs p) && decide (gt pu (pu.length - (f + 1)) ∈ kn ps p) && canF ps pu f (fs.set p (gt fs p - 1))
/-- one of the first k players can be taken. -/
def canTo (ps : List Plr) (pu : List Int) (f : Nat) (fs : List Int) : Nat → Bool
  | 0 => false
  | p + 1 => canTo ps pu f fs p || (decide (0 < gt fs p) && decide (gt pu (pu.length - (f + 1)) ∈ kn ps p) && canF ps pu f (fs.set p (gt fs p - 1)))
theorem canTo_any (ps : List Plr) (pu : List Int) (f : Nat) (fs : List Int) (k : Nat) : canTo ps pu f fs k = (List.range k).any fun p => decide (0 < gt fs p) && decide (gt pu (pu.length - (f + 1)) ∈ kn ps p) && canF ps pu f (fs.set p (gt fs p - 1)) := by
  induction k with
  | zero => rfl
  | succ k ih => simp [canTo, ih, List.range_succ, List.any_append]
theorem canF_succ (ps : List Plr) (pu : List Int) (f : Nat) (fs : List Int) : canF ps pu (f + 1) fs = canTo ps pu f fs ps.length := by rw [canTo_any]; rfl
theorem canF_take {ps : List Plr} {pu : List Int} {f : Nat} {fs : List Int} {k : Nat} (hk : k < ps.length) (h : canTo ps pu f fs (k + 1) = true) : canF ps pu (f + 1) fs = true := by
  rw [canF_succ, canTo_any, List.any_eq_true]
  rw [canTo_any, List.any_eq_true] at h
  obtain ⟨p, hp, h⟩ := h
  exact ⟨p, List.mem_range.2 (by have := List.mem_range.1 hp; omega), h⟩
/-- the free hands of all. -/
def frL (ps : List Plr) : List Int := (List.range ps.length).map (fr ps)
theorem frL_length (ps : List Plr) : (frL ps).length = ps.length := by simp [frL]
theorem gt_frL {ps : List Plr} {k : Nat} (h : k < ps.length) : gt (frL ps) k = fr ps k := by simp [gt, frL, h]
/-- there is a casting. -/
def canP (ps : List Plr) (pu : List Int) : Bool := playersOk ps && strictL 0 6 pu && canF ps pu pu.length (frL ps)
/-- players without the hands of one. -/
def ill (ps : List Plr) (k : Nat) : List Plr := ps.set k (kn ps k, 0)
def illP (ps : List Plr) (k : Int) : List Plr := if playersOk ps && inR k 0 ((ps.length : Int) - 1) then ill ps k.toNat else ps
def illB (ps : List Plr) (k : Int) : Bool := playersOk ps && inR k 0 ((ps.length : Int) - 1)
/-- there is a casting without any one player. -/
def safeP (ps : List Plr) (pu : List Int) : Bool := canP ps pu && (List.range ps.length).all fun k => canP (illP ps (k : Int)) pu
/-- the players among the first k without whom there is none. -/
def needTo (ps : List Plr) (pu : List Int) : Nat → List Int
  | 0 => []
  | k + 1 => if canP (illP ps (k : Int)) pu then needTo ps pu k else needTo ps pu k ++ [(k : Int)]
def needed (ps : List Plr) (pu : List Int) : List Int := if canP ps pu then needTo ps pu ps.length else []
theorem needTo_length (ps : List Plr) (pu : List Int) (k : Nat) : (needTo ps pu k).length ≤ k := by
  induction k with
  | zero => simp [needTo]
  | succ k ih =>
    simp only [needTo]
    split
    · omega
    · rw [List.length_append, List.length_singleton]; omega
/-- a player learns a puppet. -/
def teachB (ps : List Plr) (k x : Int) : Bool := playersOk ps && inR k 0 ((ps.length : Int) - 1) && inR x 0 6 && !decide (x ∈ kn ps k.toNat)
def teachP (ps : List Plr) (k x : Int) : List Plr := if teachB ps k x then ps.set k.toNat (putL (kn ps k.toNat) x, fr ps k.toNat) else ps
/-- a lesson that makes a cast safe. -/
def lessonB (ps : List Plr) (pu : List Int) (k : Nat) (i : Nat) : Bool := teachB ps (k : Int) (gt pu i) && safeP (teachP ps (k : Int) (gt pu i)) pu
def lessonIn (ps : List Plr) (pu : List Int) (k : Nat) : Nat → Option Nat
  | 0 => none
  | i + 1 => match lessonIn ps pu k i with
    | some j => some j
    | none => if lessonB ps pu k i then some i else none
def lessonTo (ps : List Plr) (pu : List Int) : Nat → Option (Nat × Nat)
  | 0 => none
  | k + 1 => match lessonTo ps pu k with
    | some q => some q
    | none => (lessonIn ps pu k pu.length).map fun i => (k, i)
/-- the first lesson. -/
def lesson (ps : List Plr) (pu : List Int) : Option (Nat × Nat) := if playersOk ps && strictL 0 6 pu && !safeP ps pu then lessonTo ps pu ps.length else none

end Go.Proofs.Ytfilpeamhcdgfaa
