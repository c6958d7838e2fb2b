/- The walk of the law FrameRecords. -/
import Derived.Test.YtcfijljagohmlaaDoorWalkAs
import Derived.Test.YtcfijljagohmlaaDoorWalkSRec
import Derived.Test.YtcfijljagohmlaaDoorWalkSRead
import Derived.Test.YtcfijljagohmlaaDoorWalkRecords
import Derived.Test.YtcfijljagohmlaaDoorWalkReadRecords
import Derived.Test.YtcfijljagohmlaaDoorWalkSame
namespace Go.Proofs.YtcfijljagohmlaaDoor
open Go.RowKit

theorem recsS_le (l : List UInt8) : ∀ (m : Nat) (s : Option Nat), (recsS l m s).1.length ≤ m := by
  intro m
  induction m with
  | zero => intro s; simp [recsS]
  | succ m ih =>
    intro s
    rcases h : (recS l s).2 with _ | a
    · rw [recsS_bad h]; simp
    · rw [recsS_good h]; have := ih (some a); simp; omega
theorem readRecs_le {l : List UInt8} {rs : List Rec} (h : readRecs l = some rs) : rs.length ≤ 400 := by
  unfold readRecs at h
  simp only at h
  have hu : (uptoS l 400 (some 0)).1 ≤ 400 ∧ 0 ≤ (uptoS l 400 (some 0)).1 := by
    have := uptoS_bd l 400 (some 0) (by intro a h; injection h with h; omega) (by omega)
    omega
  have := recsS_le l (uptoS l 400 (some 0)).1.toNat (uptoS l 400 (some 0)).2
  split at h
  · injection h with h
    rw [← h]; omega
  · cases h

set_option maxRecDepth 100000 in
set_option maxHeartbeats 8000000 in
theorem lawrecs_walk (A Ab : Option Addr) (c cb : Nat) (l : List Rec) (b : List UInt8) (w : World) (hg : HasErr w)
    (hr : Rd w w.heap.size 3 A l.length (recCells l)) (hb : Rd w w.heap.size 1 Ab b.length (b.map bv))
    (hl1 : l.length ≤ 140737488355328) (hl3 : b.length ≤ 140737488355328) (hcb : b.length ≤ cb) (hrok : ∀ x ∈ l, x.Ok) :
    Calls Tryd.prog 3 #[.slice A l.length c, .slice Ab b.length cb] w fun e w' => e = .returned (.bool true) ∧ Below w.heap.size w w' := by
  go_enter Tryd.func3, Tryd.ntmps3
  go_wp2_with fail
  refine (srecords_any A c w.heap.size l _ hr (Nat.le_refl _) hrok hl1).mono ?_
  rintro e w1 ⟨v1, rfl, ho1, hb1⟩
  go_wp2_with fail
  refine (records_any A c w.heap.size l _ (hr.below hb1 (Nat.le_refl _)) hb1.size hrok hl1).mono ?_
  rintro e w2 ⟨v2, rfl, ho2, hb2⟩
  have hbb2 := below_up hb1 hb2
  replace ho1 := own_up ho1 hb2
  obtain ⟨E, hE⟩ : ∃ E, E = recsE l := ⟨_, rfl⟩
  rw [← hE]
  clear hE
  go_wp2_with fail
  refine (same_err E _ _ (hg.up hbb2)).mono ?_
  rintro e w4 ⟨rfl, hb4⟩
  have hbb4 := below_up hbb2 hb4
  replace ho1 := own_up ho1 hb4
  replace ho2 := own_up ho2 hb4
  rw [decide_eq_true (rfl : (E : Int) = (E : Int))]
  obtain ⟨A1, c1, rfl, hn1, hc1, _, r1⟩ := own_form ho1
  obtain ⟨A2, c2, rfl, hn2, hc2, _, r2⟩ := own_form ho2
  have q1 := run_string_rd (c := c1) Tryd.underlying23 Tryd.underlying5 Tryd.underlying9 r1
  have q2 := run_string_rd (c := c2) Tryd.underlying23 Tryd.underlying5 Tryd.underlying9 r2
  clear ho1 ho2 hb1 hb2 hb4 hbb2
  rcases hq : readRecs b with _ | rs
  · have HQ := Lib.hid hq
    have HQL : Hid (([] : List Rec).length ≤ 140737488355328) := Lib.hid (by simp)
    clear hq
    go_wp2_with fail
    refine (sreadrecs_any Ab cb w.heap.size b _ (hb.below hbb4 (Nat.le_refl _)) hbb4.size hl3 hcb).mono ?_
    rintro e w5 ⟨v5, rfl, ho5, hb5⟩
    have hbb5 := below_up hbb4 hb5
    rw [HQ.out, Option.isSome_none]
    clear q1 q2 r1 r2
    have HRR := Lib.hid (rrE_none HQ.out)
    go_wp2_with fail
    refine (readrecs_any Ab cb w.heap.size b _ (hb.below hbb5 (Nat.le_refl _)) hbb5.size hl3 hcb).mono ?_
    rintro e w6 ⟨v6, rfl, ho6, hb6⟩
    have hbb6 := below_up hbb5 hb6
    replace ho5 := own_up ho5 hb6
    rw [HRR.out]
    go_wp2_with fail
    refine (same_err _ _ _ (hg.up hbb6)).mono ?_
    rintro e w7 ⟨rfl, hb7⟩
    have hbb7 := below_up hbb6 hb7
    replace ho5 := own_up ho5 hb7
    replace ho6 := own_up ho6 hb7
    rw [HQ.out] at ho5 ho6
    obtain ⟨A5, c5, rfl, hn5, hc5, _, r5⟩ := own_form ho5
    obtain ⟨A6, c6, rfl, hn6, hc6, _, r6⟩ := own_form ho6
    go_wp2_with fail
    refine (samerecs_any A6 A5 c6 c5 w7.heap.size _ _ _ r6 r5 (Nat.le_refl _) HQL.out HQL.out).mono ?_
    rintro e w8 ⟨t, rfl, ht, hb8⟩
    have hbb8 := below_up hbb7 hb8
    obtain rfl : t = true := ht.2 rfl
    go_wp2
    go_ret
    exact ⟨rfl, hbb8⟩
  · have HQ := Lib.hid hq
    have HQL : Hid (rs.length ≤ 140737488355328) := Lib.hid (by have := readRecs_le hq; omega)
    clear hq
    go_wp2_with fail
    refine (sreadrecs_any Ab cb w.heap.size b _ (hb.below hbb4 (Nat.le_refl _)) hbb4.size hl3 hcb).mono ?_
    rintro e w5 ⟨v5, rfl, ho5, hb5⟩
    have hbb5 := below_up hbb4 hb5
    rw [HQ.out, Option.isSome_some]
    clear q1 q2 r1 r2
    have HRR := Lib.hid (rrE_some HQ.out)
    go_wp2_with fail
    refine (readrecs_any Ab cb w.heap.size b _ (hb.below hbb5 (Nat.le_refl _)) hbb5.size hl3 hcb).mono ?_
    rintro e w6 ⟨v6, rfl, ho6, hb6⟩
    have hbb6 := below_up hbb5 hb6
    replace ho5 := own_up ho5 hb6
    rw [HRR.out]
    go_wp2_with fail
    refine (same_err _ _ _ (hg.up hbb6)).mono ?_
    rintro e w7 ⟨rfl, hb7⟩
    have hbb7 := below_up hbb6 hb7
    replace ho5 := own_up ho5 hb7
    replace ho6 := own_up ho6 hb7
    rw [HQ.out] at ho5 ho6
    obtain ⟨A5, c5, rfl, hn5, hc5, _, r5⟩ := own_form ho5
    obtain ⟨A6, c6, rfl, hn6, hc6, _, r6⟩ := own_form ho6
    go_wp2_with fail
    refine (samerecs_any A6 A5 c6 c5 w7.heap.size _ _ _ r6 r5 (Nat.le_refl _) HQL.out HQL.out).mono ?_
    rintro e w8 ⟨t, rfl, ht, hb8⟩
    have hbb8 := below_up hbb7 hb8
    obtain rfl : t = true := ht.2 rfl
    go_wp2
    go_ret
    exact ⟨rfl, hbb8⟩
end Go.Proofs.YtcfijljagohmlaaDoor
