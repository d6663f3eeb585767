/- Castings: the function. -/
import Derived.Test.YtfilpeamhcdgfaaCsR
import Derived.WalkKit
import Derived.ProofKit
import Derived.Handy
import Derived.OpenShut
import Derived.ShutString
import Derived.ChangeOld
import Derived.Below
import Derived.BigQuiet
import Derived.Deep.QuietTactic
import Derived.Deep.Draws
import Derived.Deep.DeepCutAuto
import Derived.Deep.DeepFit
import Derived.Deep.LoopGhost
import Derived.Outline
import Derived.WalkSpells
import Derived.WalkLawsBesides
import Derived.WalkSmall
import Derived.Laws.OwnMore
import Derived.OneCell
import Derived.Laws.Rows
import Derived.Maps.AppendAt
import Derived.StillTailTactics
import Derived.Lib.SmallJoins
import Derived.Deep.RegionWith
import Derived.Deep.RegionHeld3
import Derived.RegionTactic
import Derived.Deep.Matrix
import Derived.Deep.Fields
import Derived.ChangeSame
namespace Go.Proofs.Ytfilpeamhcdgfaa
open Go.RowKit

theorem OwI.snoc_form {w : World} {B : Nat} {v : Value} {xs : List Int} {x : Int} (h : OwI w B v (xs ++ [x])) : ∃ g cap, v = .slice (some ⟨g, 0, none⟩) (xs.length + 1) cap ∧ (xs.length + 1 ≤ cap ∧ cap ≤ maxLen) ∧ B ≤ g ∧ g < w.heap.size := by
  rcases h.form with ⟨_, e⟩ | ⟨g, cap, e, hB, hg, hl, hm⟩
  · simp at e
  · rw [List.length_append, List.length_singleton] at e hl
    exact ⟨g, cap, e, ⟨hl, hm⟩, hB, hg⟩
/-- while the free hands are laid out. -/
structure CJ (w0 w : World) (s gU gB : Nat) (vp vl : Value) (fs : List Int) (vf : Value) : Prop where
  bO : Blk w (s + 1 + 1 + 1 + 1 + 1 + 1) 23 #[.slice (some ⟨s + 1 + 1 + 1 + 1, 0, none⟩) 0 0]
  bP : Blk w (s + 1) 23 #[vp]
  bC : Blk w (s + 1 + 1) 62 #[.func (.func 57) #[] #[ptr gU, ptr gB]]
  bL : Blk w s 26 #[vl]
  bF : Blk w (s + 1 + 1 + 1 + 1 + 1) 23 #[vf]
  bU : Blk w gU 23 #[.slice none 0 0]
  bB : Blk w gB 4 #[.bool false]
  ow : OwI w s (.slice (some ⟨s + 1 + 1 + 1 + 1, 0, none⟩) 0 0) []
  of : OwI w s vf fs
  ap : vf.ownBlock ≠ some (s + 1 + 1 + 1 + 1)
  nx : Nx w0 w
theorem CJ.below {w0 w w' : World} {s gU gB : Nat} {vp vl : Value} {fs : List Int} {vf : Value} (h : CJ w0 w s gU gB vp vl fs vf) (hb : Nx w w') : CJ w0 w' s gU gB vp vl fs vf :=
  ⟨h.bO.below hb, h.bP.below hb, h.bC.below hb, h.bL.below hb, h.bF.below hb, h.bU.below hb, h.bB.below hb, h.ow.below hb, h.of.below hb, h.ap, h.nx.trans hb⟩
theorem CJ.pushed {w0 w w1 : World} {s gU gB : Nat} {vp vl : Value} {fs : List Int} {vf : Value} (h : CJ w0 w s gU gB vp vl fs vf) (hs : w0.heap.size ≤ s) (hU : gU < s) {v1 : Value} {x : Int}
    (ho : OwI w1 s v1 (fs ++ [x])) (hg : w.grownBy w1 vf.ownBlock) (hat : v1.ownBlock = vf.ownBlock ∨ v1.ownBlock = some (w.heap.size + 1)) : CJ w0 (w1.setCell ⟨s + 1 + 1 + 1 + 1 + 1, 0, none⟩ v1) s gU gB vp vl (fs ++ [x]) v1 := by
  have ne : ∀ {g : Nat} {t : TypeId} {cs : Array Value}, Blk w g t cs → 3 ≠ t → some g ≠ vf.ownBlock := fun hb ht e => own_ne_blk hb h.of ht e.symm
  have bF := h.bF.grown hg (ne h.bF (by decide))
  have u1 : v1.ownBlock ≠ some (s + 1 + 1 + 1 + 1 + 1) := own_ne_blk bF ho (by decide)
  have ow1 : OwI w1 s (.slice (some ⟨s + 1 + 1 + 1 + 1, 0, none⟩) 0 0) [] := h.ow.kept hg (.inr fun e => h.ap e.symm)
  refine ⟨(h.bO.grown hg (ne h.bO (by decide))).far (by simp) _, (h.bP.grown hg (ne h.bP (by decide))).far (by simp) _, (h.bC.grown hg (ne h.bC (by decide))).far (by simp) _, (h.bL.grown hg (ne h.bL (by decide))).far (by simp; omega) _, ?_, (h.bU.grown hg (ne h.bU (by decide))).far (by simp; omega) _, (h.bB.grown hg (ne h.bB (by decide))).far (h.bB.ne_ h.bF (by decide)) _, ow1.setFar (by simp [Value.ownBlock]) 0 _, ho.setFar u1 0 _, ?_, (h.nx.only h.of hg hs).setCell (p := ⟨s + 1 + 1 + 1 + 1 + 1, 0, none⟩) (by simp; omega) _⟩
  · have := bF.set_ 0 v1
    simpa using this
  · rcases hat with e | e
    · rw [e]; exact h.ap
    · rw [e]
      intro he
      injection he with he
      have : s + 1 + 1 + 1 + 1 < w.heap.size := (own_lt h.ow rfl).2
      omega
theorem CJ.start {w0 w : World} {gU gB : Nat} (vp vl : Value) (hb : Nx w0 w) (hU : Blk w gU 23 #[.slice none 0 0]) (hB : Blk w gB 4 #[.bool false]) :
    CJ w0 (((((((w.alloc (.cells #[vl] 26)).alloc (.cells #[vp] 23)).alloc (.cells #[.func (.func 57) #[] #[ptr gU, ptr gB]] 62)).alloc (.cells #[] 3)).alloc (.cells #[] 3)).alloc (.cells #[.slice (some ⟨w.heap.size + 1 + 1 + 1, 0, none⟩) 0 0] 23)).alloc (.cells #[.slice (some ⟨w.heap.size + 1 + 1 + 1 + 1, 0, none⟩) 0 0] 23))
      w.heap.size gU gB vp vl [] (.slice (some ⟨w.heap.size + 1 + 1 + 1, 0, none⟩) 0 0) := by
  have e1 : (w.alloc (.cells #[vl] 26)).heap.size = w.heap.size + 1 := by simp
  have b0 := Blk.new w 26 #[vl]
  have b1 := Blk.new (w.alloc (.cells #[vl] 26)) 23 #[vp]
  rw [e1] at b1
  have hU1 := hU.alloc (.cells #[vl] 26)
  have hB1 := hB.alloc (.cells #[vl] 26)
  have n1 := hb.trans (Nx.made w (.cells #[vl] 26))
  generalize w.alloc _ = w1 at *
  have e2 : (w1.alloc (.cells #[vp] 23)).heap.size = w.heap.size + 1 + 1 := by simp [e1]
  have b2 := Blk.new (w1.alloc (.cells #[vp] 23)) 62 #[.func (.func 57) #[] #[ptr gU, ptr gB]]
  rw [e2] at b2
  replace b0 := b0.alloc (.cells #[vp] 23)
  replace hU1 := hU1.alloc (.cells #[vp] 23)
  replace hB1 := hB1.alloc (.cells #[vp] 23)
  replace n1 := n1.trans (Nx.made w1 (.cells #[vp] 23))
  generalize w1.alloc _ = w2 at *
  have e3 : (w2.alloc (.cells #[.func (.func 57) #[] #[ptr gU, ptr gB]] 62)).heap.size = w.heap.size + 1 + 1 + 1 := by simp [e2]
  replace b0 := b0.alloc (.cells #[.func (.func 57) #[] #[ptr gU, ptr gB]] 62)
  replace b1 := b1.alloc (.cells #[.func (.func 57) #[] #[ptr gU, ptr gB]] 62)
  replace hU1 := hU1.alloc (.cells #[.func (.func 57) #[] #[ptr gU, ptr gB]] 62)
  replace hB1 := hB1.alloc (.cells #[.func (.func 57) #[] #[ptr gU, ptr gB]] 62)
  replace n1 := n1.trans (Nx.made w2 (.cells #[.func (.func 57) #[] #[ptr gU, ptr gB]] 62))
  generalize w2.alloc _ = w3 at *
  have o3 := OwI.made0 w3
  rw [e3] at o3
  have e4 : (w3.alloc (.cells #[] 3)).heap.size = w.heap.size + 1 + 1 + 1 + 1 := by simp [e3]
  have o4 := OwI.made0 (w3.alloc (.cells #[] 3))
  rw [e4] at o4
  replace o3 := own_alloc o3 (.cells #[] 3)
  have e5 : ((w3.alloc (.cells #[] 3)).alloc (.cells #[] 3)).heap.size = w.heap.size + 1 + 1 + 1 + 1 + 1 := by simp [e3]
  replace b0 := (b0.alloc (.cells #[] 3)).alloc (.cells #[] 3)
  replace b1 := (b1.alloc (.cells #[] 3)).alloc (.cells #[] 3)
  replace b2 := (b2.alloc (.cells #[] 3)).alloc (.cells #[] 3)
  replace hU1 := (hU1.alloc (.cells #[] 3)).alloc (.cells #[] 3)
  replace hB1 := (hB1.alloc (.cells #[] 3)).alloc (.cells #[] 3)
  replace n1 := (n1.trans (Nx.made w3 (.cells #[] 3))).trans (Nx.made (w3.alloc (.cells #[] 3)) (.cells #[] 3))
  generalize World.alloc (World.alloc _ _) _ = w5 at *
  have b5 := Blk.new w5 23 #[.slice (some ⟨w.heap.size + 1 + 1 + 1, 0, none⟩) 0 0]
  rw [e5] at b5
  have e6 : (w5.alloc (.cells #[.slice (some ⟨w.heap.size + 1 + 1 + 1, 0, none⟩) 0 0] 23)).heap.size = w.heap.size + 1 + 1 + 1 + 1 + 1 + 1 := by simp [e5]
  have b6 := Blk.new (w5.alloc (.cells #[.slice (some ⟨w.heap.size + 1 + 1 + 1, 0, none⟩) 0 0] 23)) 23 #[.slice (some ⟨w.heap.size + 1 + 1 + 1 + 1, 0, none⟩) 0 0]
  rw [e6] at b6
  exact ⟨b6, (b1.alloc _).alloc _, (b2.alloc _).alloc _, (b0.alloc _).alloc _, b5.alloc _, (hU1.alloc _).alloc _, (hB1.alloc _).alloc _, (own_alloc (own_alloc o4 _) _).mono (by omega), (own_alloc (own_alloc o3 _) _).mono (by omega), by simp [Value.ownBlock], (n1.trans (Nx.made _ _)).trans (Nx.made _ _)⟩
/-- all is laid out: the closure's own state. -/
theorem CJ.toI {w0 w : World} {s gU gB : Nat} {vp vl : Value} {fs : List Int} {gf cf n : Nat} (h : CJ w0 w s gU gB vp vl fs (.slice (some ⟨gf, 0, none⟩) n cf)) (hn : fs.length = n)
    {K : CB} (hK : K = ⟨s + 1 + 1 + 1 + 1 + 1 + 1, s + 1, s + 1 + 1, s, s + 1 + 1 + 1 + 1 + 1, w.heap.size, gU, gB⟩) : CI w0 (w.alloc (.cells #[rsV K] 72)) s K vp vl gf cf n fs 0 false (.slice (some ⟨s + 1 + 1 + 1 + 1, 0, none⟩) 0 0) (.slice none 0 0) := by
  subst hK
  subst hn
  exact ⟨h.bO.alloc _, h.bP.alloc _, h.bC.alloc _, h.bL.alloc _, h.bF.alloc _, Blk.new _ _ _, h.bU.alloc _, h.bB.alloc _, ⟨[], rfl, own_alloc h.ow _⟩, own_alloc h.of _, by have := h.ap; simp [Value.ownBlock] at this ⊢; omega, h.nx.trans (Nx.made _ _)⟩
set_option maxHeartbeats 4000000 in
theorem castings_any {w0 : World} {ps : List Plr} {pu : List Int} {A Ap : Option Addr} {c cp : Nat} (hd : RdP w0 (.slice A ps.length c) ps) (hfit : FitP ps) (hp : RdI w0 (.slice Ap pu.length cp) pu) (hpl : pu.length ≤ 1048576) (hok : playersOk ps = true)
    {gU gB : Nat} (w : World) (hb : Nx w0 w) (hU : Blk w gU 23 #[.slice none 0 0]) (hB : Blk w gB 4 #[.bool false]) (n_u : w0.heap.size ≤ gU) (n_b : w0.heap.size ≤ gB) :
    Calls Try.prog 56 #[.slice A ps.length c, .slice Ap pu.length cp, .func (.func 57) #[] #[ptr gU, ptr gB]] w fun e w' => e = .returned (.tuple #[]) ∧ ∃ vu, Blk w' gU 23 #[vu] ∧ Blk w' gB 4 #[.bool (canF ps pu pu.length (frL ps))] ∧ Nx w0 w' := by
  have hlt0 := hU.lt
  have hs := hb.size
  have hO := playersOk_iff.1 hok
  have hn1 := hO.2
  have hfb := hide (fun p (hp : p < ps.length) => (hO.1 p hp).2)
  have HJ := hide (CJ.start (.slice Ap pu.length cp) (.slice A ps.length c) hb hU hB)
  have Hstep := hide (fun q (hq : q < ps.length) => take_gt (zs := frL ps) (k := q) (by rw [frL_length]; exact hq))
  have Hgt := hide (fun q (hq : q < ps.length) => gt_frL hq)
  have hbs : w.heap.size ≤ (((((((w.alloc (.cells #[Value.slice A ps.length c] 26)).alloc (.cells #[Value.slice Ap pu.length cp] 23)).alloc (.cells #[.func (.func 57) #[] #[ptr gU, ptr gB]] 62)).alloc (.cells #[] 3)).alloc (.cells #[] 3)).alloc (.cells #[.slice (some ⟨w.heap.size + 1 + 1 + 1, 0, none⟩) 0 0] 23)).alloc (.cells #[.slice (some ⟨w.heap.size + 1 + 1 + 1 + 1, 0, none⟩) 0 0] 23)).heap.size := by simp; omega
  clear hb hU hB hO
  go_enter Try.func56, Try.ntmps56
  go_upto_region 2 with (fail)
  generalize World.alloc _ _ = w1 at HJ hbs ⊢
  have kL : w1.cell? ⟨w.heap.size, 0, none⟩ = some (.slice A ps.length c) := HJ.out.bL.cell 0
  go_wp2_with fail
  clear kL
  go_loopw [15] (fun i wr => ∃ q : Nat, q ≤ ps.length ∧ i = .int .i64 (q : Int) ∧ ∃ vf, CJ w0 wr w.heap.size gU gB (.slice Ap pu.length cp) (.slice A ps.length c) ((frL ps).take q) vf) (fun i _ => ps.length - (intOf i).toNat)
  case atStart => exact ⟨0, Nat.zero_le _, rfl, _, by rw [List.take_zero]; exact HJ.out⟩
  case round =>
    clear HJ hbs
    obtain ⟨q, hq, rfl, vf, hJ⟩ := hrel
    have hsz : w.heap.size + 1 + 1 + 1 + 1 < wr.heap.size := (own_lt hJ.ow rfl).2
    have htl : ((frL ps).take q).length = q := by rw [List.length_take, frL_length]; omega
    by_cases hlt : q < ps.length
    · obtain ⟨Af, cf, rfl, _⟩ := hJ.of.reads
      rw [htl] at hJ
      obtain ⟨b0, off, rfl, hb0, hc⟩ := hd.cells (by omega)
      obtain ⟨⟨A1, c1, hk0, hrk⟩, hf0⟩ := hc q hlt
      have q0 := (hJ.nx.cells b0 (off + q * 2) hb0).trans hk0
      have q1 := (hJ.nx.cells b0 (off + q * 2 + 1) hb0).trans hf0
      have hqi : (q : Int) < (ps.length : Int) := by omega
      have hst := Hstep.out q hlt
      rw [Hgt.out q hlt] at hst
      have Hst := hide hst
      have bN := hide (Blk.new wr 44 #[.slice A1 (kn ps q).length c1, .int .i64 (fr ps q)])
      have HJ1 := hide (hJ.below (Nx.made wr (.cells #[.slice A1 (kn ps q).length c1, .int .i64 (fr ps q)] 44)))
      have hB1 : w.heap.size ≤ (wr.alloc (.cells #[.slice A1 (kn ps q).length c1, .int .i64 (fr ps q)] 44)).heap.size := by simp; omega
      have Htl := hide htl
      clear hJ hc hk0 hrk hf0 hst htl hsz
      go_upto_region 5 with (fail)
      clear q0 q1
      generalize World.alloc _ _ = w2 at bN HJ1 hB1 ⊢
      have kF : w2.cell? ⟨w.heap.size + 1 + 1 + 1 + 1 + 1, 0, none⟩ = some (.slice Af q cf) := HJ1.out.bF.cell 0
      have kN : w2.cell? ⟨wr.heap.size, 1, none⟩ = some (.int .i64 (fr ps q)) := bN.out.cell 1
      have kF1 : (w2.alloc (.cells #[.int .i64 (fr ps q)] 3)).cell? ⟨w.heap.size + 1 + 1 + 1 + 1 + 1, 0, none⟩ = some (.slice Af q cf) := (HJ1.out.bF.alloc _).cell 0
      have hl16 : ((frL ps).take q).length ≤ 16777216 := by have := Htl.out; omega
      go_upto_region 6 with (at_builtin; go_loud (refine wpList_push rfl (.tmp 19) (.tmp 22) rfl w2 w.heap.size _ ((frL ps).take q) (fr ps q) rfl rfl HJ1.out.of hl16 hB1 ?_; intro v1 w4 hown1 hg1 hat1; have hP := hide (HJ1.out.pushed hs hlt0 hown1 hg1 hat1); have hG := HJ1.out.bF.grown hg1 (Ne.symm (own_ne_blk HJ1.out.bF HJ1.out.of (by decide))); have kO2 := hG.cell 0; have kO3 := hG.frozen 0; obtain ⟨g1, cap1, ev1, hcap1, hg1B, hg1l⟩ := hown1.snoc_form; rw [Htl.out] at ev1; subst ev1; clear hown1 hg1 hat1 hG))
      clear kF kN kF1 kO2 kO3 hB1 HJ1 bN
      rw [← Hst.out] at hP
      go_wp2_with fail
      go_roundw
      case rel => exact ⟨q + 1, by omega, by go_num, _, hP.out⟩
      case measure => simp [intOf]; omega
    · obtain rfl : q = ps.length := by omega
      have htk : (frL ps).take ps.length = frL ps := by rw [List.take_of_length_le]; rw [frL_length]; exact Nat.le_refl _
      rw [htk] at hJ
      obtain ⟨gf, cf, rfl⟩ : ∃ gf cf, vf = .slice (some ⟨gf, 0, none⟩) ps.length cf := by
        rcases hJ.of.form with ⟨_, e⟩ | ⟨g, cap, e, _⟩
        · have : ps.length = 0 := by rw [← frL_length ps, e]; rfl
          omega
        · rw [frL_length] at e
          exact ⟨g, cap, e⟩
      have HI := hide (hJ.toI (frL_length ps) rfl)
      have hB5 : w.heap.size ≤ (wr.alloc (.cells #[rsV ⟨w.heap.size + 1 + 1 + 1 + 1 + 1 + 1, w.heap.size + 1, w.heap.size + 1 + 1, w.heap.size, w.heap.size + 1 + 1 + 1 + 1 + 1, wr.heap.size, gU, gB⟩] 72)).heap.size := by simp; omega
      have hD : Hid (CB.Ok ⟨w.heap.size + 1 + 1 + 1 + 1 + 1 + 1, w.heap.size + 1, w.heap.size + 1 + 1, w.heap.size, w.heap.size + 1 + 1 + 1 + 1 + 1, wr.heap.size, gU, gB⟩ w0.heap.size) := ⟨by simp, by simp, by simp; omega, by simp; omega, by simp; omega, by simp; omega, n_u, n_b⟩
      have hfs := fun (W : World) (a : Addr) (fn : Fn) (x y : Array Value) (m : Mode) => (run_store Try.prog W a (.func fn x y) m rfl : (store a (.func fn x y) m).run Try.prog W = stored Try.prog W a (.func fn x y) m)
      clear hJ htk htl
      go_upto_region 9 with (fail)
      clear hfs
      generalize World.alloc _ _ = w5 at HI hB5 ⊢
      have kR := HI.out.bR.cell 0
      have kR : w5.cell? ⟨wr.heap.size, 0, none⟩ = some (rsV ⟨w.heap.size + 1 + 1 + 1 + 1 + 1 + 1, w.heap.size + 1, w.heap.size + 1 + 1, w.heap.size, w.heap.size + 1 + 1 + 1 + 1 + 1, wr.heap.size, gU, gB⟩) := HI.out.bR.cell 0
      go_wp2_with (go_at_call 60; fail)
      refine (rest_any hd hfit hp hpl hD.out hs pu.length (frL ps) 0 w5 _ _ (by simp) (frL_length ps) (fun p hp => by rw [gt_frL hp]; exact hfb.out p hp) HI.out hB5).mono ?_
      rintro e w6 ⟨rfl, vo6, vu6, hV⟩
      have G := hide (And.intro hV.bU (And.intro hV.bB hV.nx))
      clear hV HI kR
      go_wp2_with fail
      go_returns
      exact ⟨rfl, _, G.out.1, G.out.2.1, G.out.2.2⟩

end Go.Proofs.Ytfilpeamhcdgfaa
