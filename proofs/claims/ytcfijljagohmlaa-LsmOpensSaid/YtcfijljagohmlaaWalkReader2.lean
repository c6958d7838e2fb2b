/- The walks of frame.Reader's Text and End. -/
import Derived.Test.YtcfijljagohmlaaWalkReader
namespace Go.Proofs.Ytcfijljagohmlaa
open Go.RowKit

set_option maxRecDepth 100000 in
set_option maxHeartbeats 4000000 in
theorem rdtext_any (g : Nat) (A : Option Addr) (c B : Nat) (l : List UInt8) (most : Int) (s : Option Nat) (w : World) (hb : Rdr w g A c l s) (hr : Rd w B 1 A l.length (l.map bv)) (hB : B ≤ g)
    (hs : Stands l s) (hl : l.length ≤ 140737488355328) (hm : 0 ≤ most) (hmb : most ≤ 1000000) (hc : l.length ≤ c) :
    Calls Try.prog 46 #[.pointer (some ⟨g, 0, none⟩), .int .i64 most] w (RPost g A c l (.string ⟨(textS l most s).1.toArray⟩) (textS l most s).2 w) := by
  obtain ⟨hs1, hv0, hv1⟩ := uptoS_bd l most s hs hm
  obtain ⟨v, hv⟩ : ∃ v, v = (uptoS l most s).1 := ⟨_, rfl⟩
  obtain ⟨s1, hs1'⟩ : ∃ s1, s1 = (uptoS l most s).2 := ⟨_, rfl⟩
  have HT : Hid (uptoS l most s = (v, s1)) := by rw [hv, hs1']; rfl
  rw [← hv] at hv0 hv1
  rw [← hs1'] at hs1
  have C := rdupto_any g A c B l most s w hb hr hB hs hl
  rw [← hv, ← hs1'] at C
  have HC := Lib.hid C
  clear C hv hs1'
  have hBw : B ≤ w.heap.size := by
    rcases s with _ | a
    · obtain ⟨_, _, h⟩ := hb; have := h.lt; omega
    · have := Blk.lt hb; omega
  rcases s1 with _ | a1
  · have hU : textS l most s = ([], none) := by simp only [textS, HT.out]
    rw [hU]
    clear hU
    go_enter Try.func46, Try.ntmps46
    go_wp2_with (first | (go_at_call 45; go_must (refine HC.out.mono ?_); rintro e w1 ⟨hg1, rfl, hr1⟩))
    obtain ⟨a1, ha1, hb1⟩ := hr1
    have d2 := hb1.cell 2
    simp [errV] at d2
    go_quiet (fail)
    go_wp2_with (first | (go_at_call 51; go_must (refine (rdfail_any g A c l none _ ⟨a1, ha1, hb1.drewN _⟩ hs1).mono ?_); rintro e w2 ⟨hg2, rfl, hr2⟩))
    go_ret
    exact ⟨only_trans (only_drewN hg1 _) hg2, rfl, hr2⟩
  · obtain ⟨m, rfl⟩ : ∃ m : Nat, v = (m : Int) := ⟨v.toNat, by omega⟩
    have ha1 := hs1 a1 rfl
    by_cases hle : m + a1 ≤ l.length
    · have hU : textS l most s = ((l.drop a1).take m, some (a1 + m)) := by
        simp only [textS, HT.out]
        rw [if_pos (by omega)]; simp
      rw [hU]
      clear hU
      obtain ⟨n, hn⟩ : ∃ n, n = l.length := ⟨_, rfl⟩
      have Hn := Lib.hid hn
      rw [← hn] at hle ha1 hr hl hc
      clear hn
      have t1 : decide ((n : Int) - (a1 : Int) < (m : Int)) = false := by simp; omega
      go_enter Try.func46, Try.ntmps46
      go_wp2_with (first | (go_at_call 45; go_must (refine HC.out.mono ?_); rintro e w1 ⟨hg1, rfl, hr1⟩))
      have hb1 : Blk w1 g _ _ := hr1
      have hr1' := hr.only hg1 hB hBw
      rw [← Hn.out] at hb1
      have d0 := hb1.cell 0
      have d1 := hb1.cell 1
      have d2 := hb1.cell 2
      have f1 := hb1.frozen 1
      simp at d0 d1 d2
      go_quiet (fail)
      go_wp2_with fail
      have hr2 : ∀ x : Nat, Rd (((w1.drewN nq).setCell ⟨g, 1, none⟩ (.int .i64 ((a1 : Int) + (m : Int)))).drewN x) B 1 A n (l.map bv) := fun x =>
        ((hr1'.drewN nq).setCell (p := ⟨g, 1, none⟩) hB _).drewN x
      have hconv := fun x : Nat => run_string_rd (P := Try.prog) (c := c - a1) Try.underlying22 Try.underlying5 Try.underlying9 ((hr2 x).sub hle hc)
      go_quiet (fail)
      clear hconv
      generalize (if c = a1 then A else Option.map (fun x => x.add a1) A) = Z
      go_wp2
      go_ret
      refine ⟨only_drewN (only_set (only_drewN hg1 _) _ _) _, rfl, ?_⟩
      exact rdr_some (x := (a1 : Int) + (m : Int)) (by simpa using ((hb1.drewN _).set_ 1 (.int .i64 ((a1 : Int) + (m : Int)))).drewN _) Hn.out (by omega)
    · have hU : textS l most s = ([], none) := by
        simp only [textS, HT.out]
        rw [if_neg (by omega)]
      rw [hU]
      clear hU
      obtain ⟨n, hn⟩ : ∃ n, n = l.length := ⟨_, rfl⟩
      have Hn := Lib.hid hn
      rw [← hn] at hle ha1 hr hl hc
      clear hn
      have t1 : decide ((n : Int) - (a1 : Int) < (m : Int)) = true := by simp; omega
      go_enter Try.func46, Try.ntmps46
      go_wp2_with (first | (go_at_call 45; go_must (refine HC.out.mono ?_); rintro e w1 ⟨hg1, rfl, hr1⟩))
      have hb1 : Blk w1 g _ _ := hr1
      have hb1' := Lib.hid hb1
      rw [← Hn.out] at hb1
      have d0 := hb1.cell 0
      have d1 := hb1.cell 1
      have d2 := hb1.cell 2
      simp at d0 d1 d2
      go_quiet (fail)
      go_wp2_with (first | (go_at_call 51; go_must (refine (rdfail_any g A c l (some a1) _ (hb1'.out.drewN _) hs1).mono ?_); rintro e w2 ⟨hg2, rfl, hr2⟩))
      go_ret
      exact ⟨only_trans (only_drewN hg1 _) hg2, rfl, hr2⟩

/-- What End leaves: an error, or none. -/
def EndPost (g : Nat) (l : List UInt8) (s : Option Nat) (w : World) (e : Ending) (w' : World) : Prop :=
  w.grownBy w' (some g) ∧ e = .returned (errV (if endS l s then 0 else 9))

set_option maxRecDepth 100000 in
set_option maxHeartbeats 4000000 in
theorem rdend_any (g : Nat) (A : Option Addr) (c : Nat) (l : List UInt8) (s : Option Nat) (w : World) (hb : Rdr w g A c l s) (hs : Stands l s) :
    Calls Try.prog 48 #[.pointer (some ⟨g, 0, none⟩)] w (EndPost g l s w) := by
  rcases s with _ | a1
  · obtain ⟨a1, ha1, hb1⟩ := hb
    have d2 := hb1.cell 2
    simp [errV] at d2
    go_enter Try.func48, Try.ntmps48
    go_wp2
    go_quiet (fail)
    go_wp2
    go_ret
    exact ⟨only_drewN (only_refl _ _) _, rfl⟩
  · have ha1 := hs a1 rfl
    obtain ⟨n, hn⟩ : ∃ n, n = l.length := ⟨_, rfl⟩
    have Hn := Lib.hid hn
    have hb1 : Blk w g _ _ := hb
    have HB := Lib.hid hb
    rw [← hn] at ha1 hb1
    clear hn hb
    have d0 := hb1.cell 0
    have d1 := hb1.cell 1
    have d2 := hb1.cell 2
    simp at d0 d1 d2
    by_cases hlt : a1 < n
    · have t1 : decide (a1 < n) = true := by simpa using hlt
      have hE : Hid (endS l (some a1) = false) := by simp only [Hid, endS, decide_eq_false_iff_not]; have := Hn.out; omega
      go_enter Try.func48, Try.ntmps48
      go_wp2
      go_quiet (fail)
      go_wp2_with (first | (go_at_call 51; go_must (refine (fail_any g _ _ _ _ (hb1.drewN _)).mono ?_); rintro e w2 ⟨rfl, hb2, hg2⟩; have k2 := hb2.cell 2; simp only [List.size_toArray, List.length_cons, List.length_nil, Nat.reduceAdd, Nat.reduceLT, getElem?_pos, List.getElem_toArray, List.getElem_cons_succ, List.getElem_cons_zero] at k2))
      go_ret
      refine ⟨only_trans (only_drewN (only_refl _ _) _) hg2, ?_⟩
      rw [hE.out]; rfl
    · have t1 : decide (a1 < n) = false := by simpa using hlt
      have hE : Hid (endS l (some a1) = true) := by simp only [Hid, endS, decide_eq_true_eq]; have := Hn.out; omega
      go_enter Try.func48, Try.ntmps48
      go_wp2
      go_quiet (fail)
      go_wp2
      go_ret
      refine ⟨only_drewN (only_refl _ _) _, ?_⟩
      rw [hE.out]; rfl
end Go.Proofs.Ytcfijljagohmlaa
