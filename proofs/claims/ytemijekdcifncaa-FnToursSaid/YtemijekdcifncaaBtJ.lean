/- BestTour: impl. -/
import Derived.Test.YtemijekdcifncaaBtI
import Derived.WalkKit
import Derived.ProofKit
import Derived.Handy
import Derived.OpenShut
import Derived.ShutString
import Derived.ChangeOld
import Derived.Below
import Derived.BigQuiet
import Derived.Deep.QuietTactic
import Derived.Deep.Draws
import Derived.Deep.DeepCutAuto
import Derived.Deep.DeepFit
import Derived.Deep.LoopGhost
import Derived.Outline
import Derived.WalkSpells
import Derived.WalkLawsBesides
import Derived.WalkSmall
import Derived.Laws.OwnMore
import Derived.OneCell
import Derived.Laws.Rows
import Derived.Maps.AppendAt
import Derived.StillTailTactics
import Derived.Lib.SmallJoins
import Derived.Deep.RegionWith
import Derived.Deep.RegionHeld3
import Derived.RegionTactic
import Derived.Deep.Matrix
import Derived.Deep.Fields
import Derived.ChangeSame
namespace Go.Proofs.Ytemijekdcifncaa
open Go.RowKit

theorem VI.start {w w1 : World} {gD : Nat} {vd : Value} (hD : Blk w1 gD 27 #[vd]) (hb : Nx w w1) :
    VI w (((((w1.alloc (.cells #[.slice none 0 0] 22)).alloc (.cells #[] 3)).alloc (.cells #[.int .i64 0] 3)).alloc (.cells #[.slice (some ⟨w1.heap.size + 1, 0, none⟩) 0 0] 22)).alloc (.cells #[frV (w1.heap.size + 1 + 1 + 1) gD w1.heap.size (w1.heap.size + 1 + 1) (w1.heap.size + 1 + 1 + 1 + 1)] 1))
      w.heap.size gD w1.heap.size (w1.heap.size + 1 + 1) (w1.heap.size + 1 + 1 + 1) (w1.heap.size + 1 + 1 + 1 + 1) vd [] none (.slice (some ⟨w1.heap.size + 1, 0, none⟩) 0 0) (.slice none 0 0) 0 := by
  have hsz := hb.size
  have e1 : (w1.alloc (.cells #[.slice none 0 0] 22)).heap.size = w1.heap.size + 1 := by simp
  have e2 : ((w1.alloc (.cells #[.slice none 0 0] 22)).alloc (.cells #[] 3)).heap.size = w1.heap.size + 1 + 1 := by simp
  have e3 : (((w1.alloc (.cells #[.slice none 0 0] 22)).alloc (.cells #[] 3)).alloc (.cells #[.int .i64 0] 3)).heap.size = w1.heap.size + 1 + 1 + 1 := by simp
  have e4 : ((((w1.alloc (.cells #[.slice none 0 0] 22)).alloc (.cells #[] 3)).alloc (.cells #[.int .i64 0] 3)).alloc (.cells #[.slice (some ⟨w1.heap.size + 1, 0, none⟩) 0 0] 22)).heap.size = w1.heap.size + 1 + 1 + 1 + 1 := by simp
  have b1 := Blk.new w1 22 #[.slice none 0 0]
  have o2 := OwI.made0 (w1.alloc (.cells #[.slice none 0 0] 22))
  have b3 := Blk.new ((w1.alloc (.cells #[.slice none 0 0] 22)).alloc (.cells #[] 3)) 3 #[.int .i64 0]
  have b4 := Blk.new (((w1.alloc (.cells #[.slice none 0 0] 22)).alloc (.cells #[] 3)).alloc (.cells #[.int .i64 0] 3)) 22 #[.slice (some ⟨w1.heap.size + 1, 0, none⟩) 0 0]
  have b5 := Blk.new ((((w1.alloc (.cells #[.slice none 0 0] 22)).alloc (.cells #[] 3)).alloc (.cells #[.int .i64 0] 3)).alloc (.cells #[.slice (some ⟨w1.heap.size + 1, 0, none⟩) 0 0] 22)) 1 #[frV (w1.heap.size + 1 + 1 + 1) gD w1.heap.size (w1.heap.size + 1 + 1) (w1.heap.size + 1 + 1 + 1 + 1)]
  rw [e1] at o2
  rw [e2] at b3
  rw [e3] at b4
  rw [e4] at b5
  refine ⟨b4.alloc _, ((((hD.alloc _).alloc _).alloc _).alloc _).alloc _, ((((b1).alloc _).alloc _).alloc _).alloc _, ((b3).alloc _).alloc _, b5, (own_alloc (own_alloc (own_alloc o2 _) _) _).mono (by omega), ?_, .inl ⟨rfl, rfl⟩, ?_⟩
  · simp [Value.ownBlock]
  · exact Nx.trans (Nx.trans (Nx.trans (Nx.trans (Nx.trans hb (Nx.made _ _)) (Nx.made _ _)) (Nx.made _ _)) (Nx.made _ _)) (Nx.made _ _)

set_option maxHeartbeats 4000000 in
theorem impl_BestTour (v : Value) (rows : List (List Int)) (w : World) (h : RdM w v rows) (hl : OkM rows) :
    Calls Try.prog 30 #[v] w fun e w' => ∃ u, e = .returned u ∧ OwI w' w.heap.size u (bestTour rows) ∧ Nx w w' := by
  have hv := h
  obtain ⟨A, c, rfl, hx⟩ := h
  clear hx
  cases hm : mapOk rows with
  | false =>
    have hf := hide (show bestTour rows = [] from by simp [bestTour, hm])
    go_enter Try.func30, Try.ntmps30
    go_wp2_with (go_at_call 19; fail)
    refine (impl_MapOk _ rows _ (hv.below (Nx.made w _)) hl).mono ?_
    rintro e w1 ⟨rfl, b1⟩
    rw [hm]
    have HB := hide ((Nx.made w _).trans b1)
    clear b1
    go_wp2_with fail
    go_ret
    exact ⟨_, rfl, by rw [hf.out]; exact OwI.nil _ _, HB.out⟩
  | true =>
    have hn := mapP_len (mapOk_iff.1 hm)
    go_enter Try.func30, Try.ntmps30
    go_wp2_with (go_at_call 19; fail)
    refine (impl_MapOk _ rows _ (hv.below (Nx.made w _)) hl).mono ?_
    rintro e w1 ⟨rfl, b1⟩
    rw [hm]
    have HM := hide hm
    have HD := hide ((Blk.new w 27 #[.slice A rows.length c]).below b1)
    have HB := hide ((Nx.made w _).trans b1)
    have hsz : w.heap.size + 1 ≤ w1.heap.size := by have := b1.size; simpa using this
    clear b1 hm
    have hfs := fun (W : World) (a : Addr) (fn : Fn) (x y : Array Value) (m : Mode) => (run_store Try.prog W a (.func fn x y) m rfl : (store a (.func fn x y) m).run Try.prog W = stored Try.prog W a (.func fn x y) m)
    go_upto_region 7 with (fail)
    clear hfs
    have hV := hide (VI.start HD.out HB.out)
    have hne : w1.heap.size + 1 + 1 + 1 ≠ w1.heap.size := by omega
    have hB5 : w.heap.size ≤ (((((w1.alloc (.cells #[.slice none 0 0] 22)).alloc (.cells #[] 3)).alloc (.cells #[.int .i64 0] 3)).alloc (.cells #[.slice (some ⟨w1.heap.size + 1, 0, none⟩) 0 0] 22)).alloc (.cells #[frV (w1.heap.size + 1 + 1 + 1) w.heap.size w1.heap.size (w1.heap.size + 1 + 1) (w1.heap.size + 1 + 1 + 1 + 1)] 1)).heap.size := by simp; omega
    generalize World.alloc _ _ = w5 at hV hB5 ⊢
    have kR : w5.cell? ⟨w1.heap.size + 1 + 1 + 1 + 1, 0, none⟩ = some (frV (w1.heap.size + 1 + 1 + 1) w.heap.size w1.heap.size (w1.heap.size + 1 + 1) (w1.heap.size + 1 + 1 + 1 + 1)) := hV.out.bR.cell 0
    go_wp2_with (go_at_call 43; fail)
    refine (visit_any hv hl HM.out hne (Nat.le_refl _) (by omega) (by omega) (by omega) (rows.length - 1) [] none w5 _ _ _ (headT_nil _) (by simp) hV.out hB5).mono ?_
    rintro e w6 ⟨rfl, vo, vb, l, hV6⟩
    have hbo : OwI w6 w.heap.size vb (bestTour rows) := by
      rcases hV6.best with ⟨h, _⟩ | ⟨p, h, h2, _⟩
      · cases h
      · have e : bestTour rows = p.1 := by
          unfold bestTour
          rw [if_pos HM.out]
          injection h with h
          rw [h]
        rw [e]; exact h2
    have kB : w6.cell? ⟨w1.heap.size, 0, none⟩ = some vb := hV6.bB.cell 0
    have HO := hide hbo
    have HX := hide hV6.nx
    clear hV hB5 kR hV6 hbo hne
    go_wp2_with fail
    go_ret
    exact ⟨vb, rfl, HO.out, HX.out⟩

end Go.Proofs.Ytemijekdcifncaa
