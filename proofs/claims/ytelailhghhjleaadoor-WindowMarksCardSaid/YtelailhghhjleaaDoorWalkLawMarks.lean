/- The walk of weirlaw4.WindowMarks. -/
import Derived.Test.YtelailhghhjleaaDoorWalkMarks3
import Derived.Test.YtelailhghhjleaaDoorWalkMarks4
import Derived.Test.YtelailhghhjleaaDoorWalkAs
namespace Go.Proofs.YtelailhghhjleaaDoor
open Go.RowKit

theorem marksL_le (ls : List (List Rec)) (slack : Int) : (marksL ls slack).length ≤ 400 := by
  unfold marksL
  split
  · rename_i h
    unfold marksE at h
    split at h
    · cases h
    · rename_i h2
      have := outsTo_le ls slack 400
      omega
  · simp
set_option maxRecDepth 100000 in
set_option maxHeartbeats 2000000 in
theorem lawmarks_walk (A : Option Addr) (c : Nat) (ls : List (List Rec)) (slack : Int) (w : World) (hg : HasErr w) (hr : RdLL w w.heap.size A ls) (hok : ∀ l ∈ ls, (∀ r ∈ l, r.Ok) ∧ l.length ≤ 140737488355328) (hl : ls.length ≤ 140737488355328)
    (hs0 : -9223372036854775808 ≤ slack) (hs1 : slack ≤ 9223372036854775807) :
    Calls Tryd.prog 3 #[.slice A ls.length c, .int .i64 slack] w fun e w' => e = .returned (.bool true) ∧ Below w.heap.size w w' := by
  have hm4 := marksL_le ls slack
  go_enter Tryd.func3, Tryd.ntmps3
  go_wp2_with fail
  refine (smarks_any A c w.heap.size ls slack _ hr (Nat.le_refl _) hok hl hs0 hs1).mono ?_
  rintro e w1 ⟨v1, rfl, ho1, hb1⟩
  have hr1 : RdLL w1 w.heap.size A ls := fun hn => by
    obtain ⟨ad, e, hlt, hc⟩ := hr hn
    exact ⟨ad, e, hlt, fun i l hl => by
      obtain ⟨A', c', h1, h2, h3, h4⟩ := hc i l hl
      exact ⟨A', c', (hb1.cell (by rw [block_add]; omega)).trans h1, h2, h3, h4.below hb1 (Nat.le_refl _)⟩⟩
  go_wp2_with fail
  refine (marks_any A c w.heap.size ls slack _ hr1 hb1.size hok hl hs0 hs1).mono ?_
  rintro e w2 ⟨v2, rfl, ho2, hb2⟩
  have hbb2 := below_up hb1 hb2
  replace ho1 := own_up ho1 hb2
  obtain ⟨E, hE⟩ : ∃ E, E = marksE ls slack := ⟨_, rfl⟩
  rw [← hE]
  clear hE
  obtain ⟨L, hL⟩ : ∃ L, L = marksL ls slack := ⟨_, rfl⟩
  rw [← hL] at ho1 ho2 hm4
  clear hL
  go_wp2_with fail
  refine (same_err E E _ (hg.up hbb2)).mono ?_
  rintro e w4 ⟨rfl, hb4⟩
  have hbb4 := below_up hbb2 hb4
  replace ho1 := own_up ho1 hb4
  replace ho2 := own_up ho2 hb4
  rw [decide_eq_true (rfl : (E : Int) = (E : Int))]
  obtain ⟨A1, c1, rfl, hn1, hc1, _, r1⟩ := own_form ho1
  obtain ⟨A2, c2, rfl, hn2, hc2, _, r2⟩ := own_form ho2
  clear ho1 ho2 hb1 hb2 hb4 hbb2
  go_wp2_with fail
  refine (ints_same A2 A1 c2 c1 w4.heap.size L _ r2 r1 (Nat.le_refl _) (by omega)).mono ?_
  rintro e w5 ⟨rfl, hb5⟩
  have hbb5 := below_up hbb4 hb5
  go_wp2
  go_ret
  exact ⟨rfl, hbb5⟩
end Go.Proofs.YtelailhghhjleaaDoor
