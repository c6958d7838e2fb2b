/- The walk of the law FrameHelds. -/
import Derived.Test.YtcfijljagohmlaaDoorWalkAs
import Derived.Test.YtcfijljagohmlaaDoorWalkSHld
import Derived.Test.YtcfijljagohmlaaDoorWalkSReadH
import Derived.Test.YtcfijljagohmlaaDoorWalkSOpen
import Derived.Test.YtcfijljagohmlaaDoorWalkHelds
import Derived.Test.YtcfijljagohmlaaDoorWalkReadHelds
import Derived.Test.YtcfijljagohmlaaDoorWalkOpen
import Derived.Test.YtcfijljagohmlaaDoorWalkSame
namespace Go.Proofs.YtcfijljagohmlaaDoor
open Go.RowKit

theorem hldsS_le (l : List UInt8) : ∀ (m : Nat) (p : Option Hld) (s : Option Nat), (hldsS l m p s).1.length ≤ m := by
  intro m
  induction m with
  | zero => intro p s; simp [hldsS]
  | succ m ih =>
    intro p s
    rcases h : riseS p (hldS l s).1 (hldS l s).2 with _ | a
    · rw [hldsS_bad h]; simp
    · rw [hldsS_good h]; have := ih (some (hldS l s).1) (some a); simp; omega
theorem readHelds_le {l : List UInt8} {rs : List Hld} (h : readHelds l = some rs) : rs.length ≤ 400 := by
  unfold readHelds at h
  simp only at h
  have hu : (uptoS l 400 (some 0)).1 ≤ 400 ∧ 0 ≤ (uptoS l 400 (some 0)).1 := by
    have := uptoS_bd l 400 (some 0) (by intro a h; injection h with h; omega) (by omega)
    omega
  have := hldsS_le l (uptoS l 400 (some 0)).1.toNat none (uptoS l 400 (some 0)).2
  split at h
  · injection h with h
    rw [← h]; omega
  · cases h

set_option maxRecDepth 100000 in
set_option maxHeartbeats 8000000 in
theorem lawhelds_walk (A Ab : Option Addr) (c cb : Nat) (l : List Hld) (b : List UInt8) (w : World) (hg : HasErr w)
    (hr : Rd w w.heap.size 4 A l.length (hldCells l)) (hb : Rd w w.heap.size 1 Ab b.length (b.map bv))
    (hl1 : l.length ≤ 140737488355328) (hl3 : b.length ≤ 140737488355300) (hcb : b.length ≤ cb) (hrok : ∀ x ∈ l, x.Ok) :
    Calls Tryd.prog 4 #[.slice A l.length c, .slice Ab b.length cb] w fun e w' => e = .returned (.bool true) ∧ Below w.heap.size w w' := by
  go_enter Tryd.func4, Tryd.ntmps4
  go_wp2_with fail
  refine (shelds_any A c w.heap.size l _ hr (Nat.le_refl _) hrok hl1).mono ?_
  rintro e w1 ⟨v1, rfl, ho1, hb1⟩
  go_wp2_with fail
  refine (helds_any A c w.heap.size l _ (hr.below hb1 (Nat.le_refl _)) hb1.size hrok hl1).mono ?_
  rintro e w2 ⟨v2, rfl, ho2, hb2⟩
  have hbb2 := below_up hb1 hb2
  replace ho1 := own_up ho1 hb2
  obtain ⟨E, hE⟩ : ∃ E, E = heldsE l := ⟨_, rfl⟩
  rw [← hE]
  clear hE
  go_wp2_with fail
  refine (same_err E _ _ (hg.up hbb2)).mono ?_
  rintro e w4 ⟨rfl, hb4⟩
  have hbb4 := below_up hbb2 hb4
  replace ho1 := own_up ho1 hb4
  replace ho2 := own_up ho2 hb4
  rw [decide_eq_true (rfl : (E : Int) = (E : Int))]
  obtain ⟨A1, c1, rfl, hn1, hc1, _, r1⟩ := own_form ho1
  obtain ⟨A2, c2, rfl, hn2, hc2, _, r2⟩ := own_form ho2
  have q1 := run_string_rd (c := c1) Tryd.underlying23 Tryd.underlying5 Tryd.underlying9 r1
  have q2 := run_string_rd (c := c2) Tryd.underlying23 Tryd.underlying5 Tryd.underlying9 r2
  clear ho1 ho2 hb1 hb2 hb4 hbb2
  rcases hq : readHelds b with _ | rs
  · have HQ := Lib.hid hq
    have HQL : Hid (([] : List Hld).length ≤ 140737488355328) := Lib.hid (by simp)
    clear hq
    go_wp2_with fail
    refine (sreadhelds_any Ab cb w.heap.size b _ (hb.below hbb4 (Nat.le_refl _)) hbb4.size (by omega) hcb).mono ?_
    rintro e w5 ⟨v5, rfl, ho5, hb5⟩
    have hbb5 := below_up hbb4 hb5
    rw [HQ.out, Option.isSome_none]
    clear q1 q2 r1 r2
    have HRR := Lib.hid (rhE_none HQ.out)
    go_wp2_with fail
    refine (readhelds_any Ab cb w.heap.size b _ (hb.below hbb5 (Nat.le_refl _)) hbb5.size (by omega) hcb).mono ?_
    rintro e w6 ⟨v6, rfl, ho6, hb6⟩
    have hbb6 := below_up hbb5 hb6
    replace ho5 := own_up ho5 hb6
    rw [HRR.out]
    go_wp2_with fail
    refine (same_err _ _ _ (hg.up hbb6)).mono ?_
    rintro e w7 ⟨rfl, hb7⟩
    have hbb7 := below_up hbb6 hb7
    replace ho5 := own_up ho5 hb7
    replace ho6 := own_up ho6 hb7
    rw [HQ.out] at ho5 ho6
    obtain ⟨A5, c5, rfl, hn5, hc5, _, r5⟩ := own_form ho5
    obtain ⟨A6, c6, rfl, hn6, hc6, _, r6⟩ := own_form ho6
    go_wp2_with fail
    refine (samehelds_any A6 A5 c6 c5 w7.heap.size _ _ _ r6 r5 (Nat.le_refl _) HQL.out HQL.out).mono ?_
    rintro e w8 ⟨t, rfl, ht, hb8⟩
    have hbb8 := below_up hbb7 hb8
    obtain rfl : t = true := ht.2 rfl
    clear ht ho5 ho6 r5 r6 hb5 hb6 hb7 hb8 hbb5 hbb6 hbb7
    go_wp2_with fail
    refine (sopen_any Ab cb w.heap.size b _ (hb.below hbb8 (Nat.le_refl _)) hbb8.size (by omega) hcb).mono ?_
    rintro e w9 ⟨A9, c9, rfl, r9, hb9⟩
    have hbb9 := below_up hbb8 hb9
    rcases hop : openS b with _ | ⟨i0, n0⟩
    · have HOP := Lib.hid hop
      clear hop
      rw [Option.isSome_none]
      have HOE : Hid (opE b = 9) := Lib.hid (op_none HOP.out).2.2
      go_wp2_with fail
      refine (open_any Ab cb w.heap.size b _ (hb.below hbb9 (Nat.le_refl _)) hbb9.size (by omega) hcb).mono ?_
      rintro e wa ⟨va, rfl, hoa, hba⟩
      have hbba := below_up hbb9 hba
      rw [HOE.out]
      go_wp2_with fail
      refine (same_err _ _ _ (hg.up hbba)).mono ?_
      rintro e wb ⟨rfl, hbb⟩
      have hbbb := below_up hbba hbb
      replace hoa := own_up hoa hbb
      obtain ⟨Aa, ca, rfl, hna, hca, _, ra⟩ := own_form hoa
      have q1 := run_string_rd (c := ca) Tryd.underlying23 Tryd.underlying5 Tryd.underlying9 ra
      have q2 := run_string_rd (c := c9) Tryd.underlying23 Tryd.underlying5 Tryd.underlying9 (r9.below (below_up hba hbb) hbb9.size)
      go_wp2
      go_ret
      exact ⟨rfl, hbbb⟩
    · have HOP := Lib.hid hop
      clear hop
      rw [Option.isSome_some]
      have HOE : Hid (opE b = 0) := Lib.hid (op_some HOP.out).2.2
      go_wp2_with fail
      refine (open_any Ab cb w.heap.size b _ (hb.below hbb9 (Nat.le_refl _)) hbb9.size (by omega) hcb).mono ?_
      rintro e wa ⟨va, rfl, hoa, hba⟩
      have hbba := below_up hbb9 hba
      rw [HOE.out]
      go_wp2_with fail
      refine (same_err _ _ _ (hg.up hbba)).mono ?_
      rintro e wb ⟨rfl, hbb⟩
      have hbbb := below_up hbba hbb
      replace hoa := own_up hoa hbb
      obtain ⟨Aa, ca, rfl, hna, hca, _, ra⟩ := own_form hoa
      have q1 := run_string_rd (c := ca) Tryd.underlying23 Tryd.underlying5 Tryd.underlying9 ra
      have q2 := run_string_rd (c := c9) Tryd.underlying23 Tryd.underlying5 Tryd.underlying9 (r9.below (below_up hba hbb) hbb9.size)
      go_wp2
      go_ret
      exact ⟨rfl, hbbb⟩
  · have HQ := Lib.hid hq
    have HQL : Hid (rs.length ≤ 140737488355328) := Lib.hid (by have := readHelds_le hq; omega)
    clear hq
    go_wp2_with fail
    refine (sreadhelds_any Ab cb w.heap.size b _ (hb.below hbb4 (Nat.le_refl _)) hbb4.size (by omega) hcb).mono ?_
    rintro e w5 ⟨v5, rfl, ho5, hb5⟩
    have hbb5 := below_up hbb4 hb5
    rw [HQ.out, Option.isSome_some]
    clear q1 q2 r1 r2
    have HRR := Lib.hid (rhE_some HQ.out)
    go_wp2_with fail
    refine (readhelds_any Ab cb w.heap.size b _ (hb.below hbb5 (Nat.le_refl _)) hbb5.size (by omega) hcb).mono ?_
    rintro e w6 ⟨v6, rfl, ho6, hb6⟩
    have hbb6 := below_up hbb5 hb6
    replace ho5 := own_up ho5 hb6
    rw [HRR.out]
    go_wp2_with fail
    refine (same_err _ _ _ (hg.up hbb6)).mono ?_
    rintro e w7 ⟨rfl, hb7⟩
    have hbb7 := below_up hbb6 hb7
    replace ho5 := own_up ho5 hb7
    replace ho6 := own_up ho6 hb7
    rw [HQ.out] at ho5 ho6
    obtain ⟨A5, c5, rfl, hn5, hc5, _, r5⟩ := own_form ho5
    obtain ⟨A6, c6, rfl, hn6, hc6, _, r6⟩ := own_form ho6
    go_wp2_with fail
    refine (samehelds_any A6 A5 c6 c5 w7.heap.size _ _ _ r6 r5 (Nat.le_refl _) HQL.out HQL.out).mono ?_
    rintro e w8 ⟨t, rfl, ht, hb8⟩
    have hbb8 := below_up hbb7 hb8
    obtain rfl : t = true := ht.2 rfl
    clear ht ho5 ho6 r5 r6 hb5 hb6 hb7 hb8 hbb5 hbb6 hbb7
    go_wp2_with fail
    refine (sopen_any Ab cb w.heap.size b _ (hb.below hbb8 (Nat.le_refl _)) hbb8.size (by omega) hcb).mono ?_
    rintro e w9 ⟨A9, c9, rfl, r9, hb9⟩
    have hbb9 := below_up hbb8 hb9
    rcases hop : openS b with _ | ⟨i0, n0⟩
    · have HOP := Lib.hid hop
      clear hop
      rw [Option.isSome_none]
      have HOE : Hid (opE b = 9) := Lib.hid (op_none HOP.out).2.2
      go_wp2_with fail
      refine (open_any Ab cb w.heap.size b _ (hb.below hbb9 (Nat.le_refl _)) hbb9.size (by omega) hcb).mono ?_
      rintro e wa ⟨va, rfl, hoa, hba⟩
      have hbba := below_up hbb9 hba
      rw [HOE.out]
      go_wp2_with fail
      refine (same_err _ _ _ (hg.up hbba)).mono ?_
      rintro e wb ⟨rfl, hbb⟩
      have hbbb := below_up hbba hbb
      replace hoa := own_up hoa hbb
      obtain ⟨Aa, ca, rfl, hna, hca, _, ra⟩ := own_form hoa
      have q1 := run_string_rd (c := ca) Tryd.underlying23 Tryd.underlying5 Tryd.underlying9 ra
      have q2 := run_string_rd (c := c9) Tryd.underlying23 Tryd.underlying5 Tryd.underlying9 (r9.below (below_up hba hbb) hbb9.size)
      go_wp2
      go_ret
      exact ⟨rfl, hbbb⟩
    · have HOP := Lib.hid hop
      clear hop
      rw [Option.isSome_some]
      have HOE : Hid (opE b = 0) := Lib.hid (op_some HOP.out).2.2
      go_wp2_with fail
      refine (open_any Ab cb w.heap.size b _ (hb.below hbb9 (Nat.le_refl _)) hbb9.size (by omega) hcb).mono ?_
      rintro e wa ⟨va, rfl, hoa, hba⟩
      have hbba := below_up hbb9 hba
      rw [HOE.out]
      go_wp2_with fail
      refine (same_err _ _ _ (hg.up hbba)).mono ?_
      rintro e wb ⟨rfl, hbb⟩
      have hbbb := below_up hbba hbb
      replace hoa := own_up hoa hbb
      obtain ⟨Aa, ca, rfl, hna, hca, _, ra⟩ := own_form hoa
      have q1 := run_string_rd (c := ca) Tryd.underlying23 Tryd.underlying5 Tryd.underlying9 ra
      have q2 := run_string_rd (c := c9) Tryd.underlying23 Tryd.underlying5 Tryd.underlying9 (r9.below (below_up hba hbb) hbb9.size)
      go_wp2
      go_ret
      exact ⟨rfl, hbbb⟩
end Go.Proofs.YtcfijljagohmlaaDoor
