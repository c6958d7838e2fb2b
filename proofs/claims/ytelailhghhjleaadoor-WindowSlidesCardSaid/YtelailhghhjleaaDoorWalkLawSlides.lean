/- The walk of weirlaw4.WindowSlides. -/
import Derived.Test.YtelailhghhjleaaDoorWalkSlides2
import Derived.Test.YtelailhghhjleaaDoorWalkPanes
import Derived.Test.YtelailhghhjleaaDoorWalkAs
namespace Go.Proofs.YtelailhghhjleaaDoor
open Go.RowKit

set_option maxRecDepth 100000 in
set_option maxHeartbeats 4000000 in
theorem lawslides_any (A : Option Addr) (c : Nat) (l : List Rec) (size by_ slack : Int) (w : World) (hg : HasErr w) (hr : Rd w w.heap.size 3 A l.length (recCells l)) (hok : ∀ r ∈ l, r.Ok) (hl : l.length ≤ 140737488355328)
    (hs0 : -9223372036854775808 ≤ size) (hs1 : size ≤ 9223372036854775807) (hb0 : -9223372036854775808 ≤ by_) (hb1 : by_ ≤ 9223372036854775807) :
    Calls Tryd.prog 7 #[.slice A l.length c, .int .i64 size, .int .i64 by_, .int .i64 slack] w fun e w' => e = .returned (.bool true) ∧ Below w.heap.size w w' := by
  have hR1 := fun W (hW : Below w.heap.size w W) => rslide_any A c w.heap.size l size by_ slack W (hr.below hW (Nat.le_refl _)) hW.size hok hl hb0 hb1
  have hS1 := fun W (hW : Below w.heap.size w W) => slide_any A c w.heap.size l size by_ slack W (hr.below hW (Nat.le_refl _)) hW.size hok hl hb0 hb1
  have hR2 := fun W (hW : Below w.heap.size w W) => rslide_any A c w.heap.size l size size slack W (hr.below hW (Nat.le_refl _)) hW.size hok hl hs0 hs1
  have hS2 := fun W (hW : Below w.heap.size w W) => tumble_any A c w.heap.size l size slack W (hr.below hW (Nat.le_refl _)) hW.size hok hl hs0 hs1
  have hl1 := panesOf_len l size by_ slack
  have hl2 := panesOf_len l size size slack
  generalize panesOf l size by_ slack = P1 at *
  generalize panesOf l size size slack = P2 at *
  generalize slideE l size by_ slack = E1 at *
  generalize slideE l size size slack = E2 at *
  generalize l.length = n at *
  go_enter Tryd.func7, Tryd.ntmps7
  go_wp2_with fail
  refine (hR1 _ (Below.refl _ _)).mono ?_
  rintro e w1 ⟨A1, c1, rfl, r1, hb1⟩
  go_wp2_with fail
  refine (hS1 _ hb1).mono ?_
  rintro e w2 ⟨A2, c2, rfl, r2, hb2⟩
  have hbb2 := below_up hb1 hb2
  go_wp2_with fail
  refine (same_err _ _ _ (hg.below hbb2 hg.2)).mono ?_
  rintro e w3 ⟨rfl, hb3⟩
  have hbb3 := below_up hbb2 hb3
  have q1 := (r1.below hb2 (Nat.le_refl _)).below hb3 hb2.size
  have q2 := (r2.below hb3 (Nat.le_refl _)).more hb3.size
  go_wp2_with fail
  refine (panes_same A2 A1 c2 c1 w3.heap.size P1 w3 q2 (q1.more (Nat.le_trans hb2.size hb3.size)) hl1).mono ?_
  rintro e w4 ⟨rfl, n4, hw4⟩
  have hbb4 : Below w.heap.size w w4 := hw4 ▸ below_drewN hbb3 n4
  clear hw4 q1 q2 r1 r2
  go_wp2_with fail
  refine (hR2 _ hbb4).mono ?_
  rintro e w5 ⟨A5, c5, rfl, r5, hb5⟩
  have hbb5 := below_up hbb4 hb5
  go_wp2_with fail
  refine (hS2 _ hbb5).mono ?_
  rintro e w6 ⟨A6, c6, rfl, r6, hb6⟩
  have hbb6 := below_up hbb5 hb6
  go_wp2_with fail
  refine (same_err _ _ _ (hg.below hbb6 hg.2)).mono ?_
  rintro e w7 ⟨rfl, hb7⟩
  have hbb7 := below_up hbb6 hb7
  have q5 := (r5.below hb6 (Nat.le_refl _)).below hb7 hb6.size
  have q6 := (r6.below hb7 (Nat.le_refl _)).more hb7.size
  go_wp2_with fail
  refine (panes_same A6 A5 c6 c5 w7.heap.size P2 w7 q6 (q5.more (Nat.le_trans hb6.size hb7.size)) hl2).mono ?_
  rintro e w8 ⟨rfl, n8, hw8⟩
  have hbb8 : Below w.heap.size w w8 := hw8 ▸ below_drewN hbb7 n8
  clear hw8
  go_wp2_with fail
  go_ret
  exact ⟨by simp, hbb8⟩
end Go.Proofs.YtelailhghhjleaaDoor
