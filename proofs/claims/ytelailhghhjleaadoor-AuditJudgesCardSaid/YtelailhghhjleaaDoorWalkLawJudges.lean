/- The walk of weirlaw4.AuditJudges. -/
import Derived.Test.YtelailhghhjleaaDoorWalkJudge
import Derived.Test.YtelailhghhjleaaDoorWalkRJudge
import Derived.Test.YtelailhghhjleaaDoorWalkAs
namespace Go.Proofs.YtelailhghhjleaaDoor
open Go.RowKit

set_option maxRecDepth 100000 in
set_option maxHeartbeats 4000000 in
theorem lawjudges_any (A1 A2 : Option Addr) (c1 c2 : Nat) (p1 p2 : List Pl) (w : World) (hg : HasErr w) (hr1 : RdPs w w.heap.size A1 p1.length p1) (hr2 : RdPs w w.heap.size A2 p2.length p2)
    (hc1 : p1.length ≤ c1) (hc2 : p2.length ≤ c2) (hm1 : c1 ≤ maxLen) (hm2 : c2 ≤ maxLen) (hl1 : p1.length ≤ 140737488355328) (hl2 : p2.length ≤ 140737488355328) :
    Calls Tryd.prog 9 #[.slice A1 p1.length c1, .slice A2 p2.length c2] w fun e w' => e = .returned (.bool true) ∧ Below w.heap.size w w' := by
  by_cases h1 : linesE (lnsOf p1) = 0
  · by_cases h2 : linesE (lnsOf p2) = 0
    · have hj := fun W (hW : Below w.heap.size w W) => judge_good A1 A2 c1 c2 w.heap.size p1 p2 W (hr1.below hW (Nat.le_refl _)) (hr2.below hW (Nat.le_refl _)) hW.size hc1 hc2 hm1 hm2 h1 h2
      have hrj := fun W (hW : Below w.heap.size w W) => rjudge_any A1 A2 c1 c2 w.heap.size _ _ p1 p2 W (hr1.below hW (Nat.le_refl _)) (hr2.below hW (Nat.le_refl _)) (linesE_ok h1) (linesE_ok h2)
      generalize judge (lnsOf p1) (lnsOf p2) = J at *
      obtain ⟨kd, key, pt⟩ := J
      dsimp only at hj hrj
      go_enter Tryd.func9, Tryd.ntmps9
      go_wp2_with fail
      refine (rlines_any A1 c1 w.heap.size _ p1 _ hr1 hl1).mono ?_
      rintro e w1 ⟨rfl, q1, hw1⟩
      have hb1 : Below w.heap.size w w1 := hw1 ▸ below_drewN (Below.refl _ _) q1
      clear hw1
      go_wp2_with fail
      refine (acheck_any A1 c1 w.heap.size _ p1 _ (hr1.below hb1 (Nat.le_refl _)) hb1.size hl1).mono ?_
      rintro e w2 ⟨rfl, hb2⟩
      have hbb2 := below_up hb1 hb2
      go_wp2_with fail
      refine (same_err _ _ _ (hg.below hbb2 hg.2)).mono ?_
      rintro e w3 ⟨rfl, hb3⟩
      have hbb3 := below_up hbb2 hb3
      clear hb1 hb2 hb3 hbb2
      go_wp2_with fail
      refine (rlines_any A2 c2 w.heap.size _ p2 _ (hr2.below hbb3 (Nat.le_refl _)) hl2).mono ?_
      rintro e w4 ⟨rfl, q4, hw4⟩
      have hbb4 : Below w.heap.size w w4 := hw4 ▸ below_drewN hbb3 q4
      clear hw4
      go_wp2_with fail
      refine (hrj _ hbb4).mono ?_
      rintro e w5 ⟨rfl, q5, hw5⟩
      have hbb5 : Below w.heap.size w w5 := hw5 ▸ below_drewN hbb4 q5
      clear hw5
      go_wp2_with fail
      refine (hj _ hbb5).mono ?_
      rintro e w6 ⟨rfl, hb6⟩
      have hbb6 := below_up hbb5 hb6
      have hs0 := same_err 0 0 w6 (hg.below hbb6 hg.2)
      rw [errV_zero] at hs0
      go_wp2_with fail
      refine hs0.mono ?_
      rintro e w7 ⟨rfl, hb7⟩
      have hbb7 := below_up hbb6 hb7
      go_wp2_with fail
      go_ret
      exact ⟨rfl, hbb7⟩
    · have hb0 : bothE (lnsOf p1) (lnsOf p2) = linesE (lnsOf p2) := by rw [bothE, if_neg (by simp [h1])]
      have hj := fun W (hW : Below w.heap.size w W) => judge_bad A1 A2 c1 c2 w.heap.size p1 p2 W (hr1.below hW (Nat.le_refl _)) (hr2.below hW (Nat.le_refl _)) hW.size hl1 hl2 (by rw [hb0]; exact h2)
      rw [hb0] at hj
      clear hb0
      go_enter Tryd.func9, Tryd.ntmps9
      go_wp2_with fail
      refine (rlines_any A1 c1 w.heap.size _ p1 _ hr1 hl1).mono ?_
      rintro e w1 ⟨rfl, q1, hw1⟩
      have hb1 : Below w.heap.size w w1 := hw1 ▸ below_drewN (Below.refl _ _) q1
      clear hw1
      go_wp2_with fail
      refine (acheck_any A1 c1 w.heap.size _ p1 _ (hr1.below hb1 (Nat.le_refl _)) hb1.size hl1).mono ?_
      rintro e w2 ⟨rfl, hb2⟩
      have hbb2 := below_up hb1 hb2
      go_wp2_with fail
      refine (same_err _ _ _ (hg.below hbb2 hg.2)).mono ?_
      rintro e w3 ⟨rfl, hb3⟩
      have hbb3 := below_up hbb2 hb3
      clear hb1 hb2 hb3 hbb2
      go_wp2_with fail
      refine (rlines_any A2 c2 w.heap.size _ p2 _ (hr2.below hbb3 (Nat.le_refl _)) hl2).mono ?_
      rintro e w4 ⟨rfl, q4, hw4⟩
      have hbb4 : Below w.heap.size w w4 := hw4 ▸ below_drewN hbb3 q4
      clear hw4
      generalize linesE (lnsOf p2) = E at *
      have h3 : ¬ ((E : Int) = 0) := by omega
      go_wp2_with fail
      refine (hj _ hbb4).mono ?_
      rintro e w6 ⟨rfl, hb6⟩
      have hbb6 := below_up hbb4 hb6
      go_wp2_with fail
      refine (same_err _ _ _ (hg.below hbb6 hg.2)).mono ?_
      rintro e w7 ⟨rfl, hb7⟩
      have hbb7 := below_up hbb6 hb7
      go_wp2_with fail
      go_ret
      exact ⟨rfl, hbb7⟩
  · have hb0 : bothE (lnsOf p1) (lnsOf p2) = linesE (lnsOf p1) := by rw [bothE, if_pos h1]
    have hj := fun W (hW : Below w.heap.size w W) => judge_bad A1 A2 c1 c2 w.heap.size p1 p2 W (hr1.below hW (Nat.le_refl _)) (hr2.below hW (Nat.le_refl _)) hW.size hl1 hl2 (by rw [hb0]; exact h1)
    rw [hb0] at hj
    clear hb0
    go_enter Tryd.func9, Tryd.ntmps9
    go_wp2_with fail
    refine (rlines_any A1 c1 w.heap.size _ p1 _ hr1 hl1).mono ?_
    rintro e w1 ⟨rfl, q1, hw1⟩
    have hb1 : Below w.heap.size w w1 := hw1 ▸ below_drewN (Below.refl _ _) q1
    clear hw1
    go_wp2_with fail
    refine (acheck_any A1 c1 w.heap.size _ p1 _ (hr1.below hb1 (Nat.le_refl _)) hb1.size hl1).mono ?_
    rintro e w2 ⟨rfl, hb2⟩
    have hbb2 := below_up hb1 hb2
    go_wp2_with fail
    refine (same_err _ _ _ (hg.below hbb2 hg.2)).mono ?_
    rintro e w3 ⟨rfl, hb3⟩
    have hbb3 := below_up hbb2 hb3
    clear hb1 hb2 hb3 hbb2
    generalize linesE (lnsOf p1) = E at *
    have h3 : ¬ ((E : Int) = 0) := by omega
    go_wp2_with fail
    refine (hj _ hbb3).mono ?_
    rintro e w6 ⟨rfl, hb6⟩
    have hbb6 := below_up hbb3 hb6
    go_wp2_with fail
    refine (same_err _ _ _ (hg.below hbb6 hg.2)).mono ?_
    rintro e w7 ⟨rfl, hb7⟩
    have hbb7 := below_up hbb6 hb7
    go_wp2_with fail
    go_ret
    exact ⟨rfl, hbb7⟩
end Go.Proofs.YtelailhghhjleaaDoor
