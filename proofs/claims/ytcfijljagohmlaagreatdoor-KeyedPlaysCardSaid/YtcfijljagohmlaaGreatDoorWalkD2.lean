/- The walks of weirref2.D, part two: wherever it stands; Upto, Text. -/
import Derived.Test.YtcfijljagohmlaaGreatDoorWalkD
namespace Go.Proofs.YtcfijljagohmlaaGreatDoor
open Go.RowKit

set_option maxRecDepth 100000 in
set_option maxHeartbeats 400000 in
theorem dnum_bad (g : Nat) (A : Option Addr) (c : Nat) (l : List UInt8) (w : World) (hb : Drd w g A c l none) :
    Calls Tryz.prog 48 #[.pointer (some ⟨g, 0, none⟩)] w (DPost g A c l (.int .i64 0) none w) := by
  obtain ⟨a0, ha, hb⟩ := hb
  have d2 := hb.cell 2
  have f2 := hb.frozen 2
  simp at d2
  go_enter Tryz.func48, Tryz.ntmps48
  go_wp2
  refine wp_loop_rounds 1 ?_
  rw [rounds_succ]
  go_wp2
  go_ret
  exact ⟨only_set (only_refl _ _) _ _, rfl, a0, ha, by simpa using hb.set_ 2 (.bool true)⟩

theorem dnum_any (g : Nat) (A : Option Addr) (c B : Nat) (l : List UInt8) (s : Option Nat) (w : World) (hb : Drd w g A c l s) (hr : Rd w B 1 A l.length (l.map bv)) (hB : B ≤ g)
    (hs : Stands l s) (hl : l.length ≤ 140737488355328) :
    Calls Tryz.prog 48 #[.pointer (some ⟨g, 0, none⟩)] w (DPost g A c l (.int .i64 (numS l s).1) (numS l s).2 w) := by
  rcases s with _ | a0
  · exact dnum_bad g A c l w hb
  · exact dnum_good g A c B l a0 w hb hr hB (hs a0 rfl) hl

theorem Drd.bad {w : World} {g : Nat} {A : Option Addr} {c : Nat} {l : List UInt8} {s : Option Nat} (h : Drd w g A c l s) : w.cell? ⟨g, 2, none⟩ = some (.bool s.isNone) := by
  rcases s with _ | a
  · obtain ⟨a, ha, hb⟩ := h
    exact hb.cell 2
  · exact Blk.cell h 2
theorem Drd.lt {w : World} {g : Nat} {A : Option Addr} {c : Nat} {l : List UInt8} {s : Option Nat} (h : Drd w g A c l s) : g < w.heap.size := by
  rcases s with _ | a
  · obtain ⟨a, ha, hb⟩ := h
    exact hb.lt
  · exact Blk.lt h
theorem Drd.free {w : World} {g : Nat} {A : Option Addr} {c : Nat} {l : List UInt8} {s : Option Nat} (h : Drd w g A c l s) (i : Nat) : w.frozen? ⟨g, i, none⟩ = false := by
  rcases s with _ | a
  · obtain ⟨a, ha, hb⟩ := h
    exact hb.frozen i
  · exact Blk.frozen h i
/-- Something is wrong now. -/
theorem Drd.fail {w : World} {g : Nat} {A : Option Addr} {c : Nat} {l : List UInt8} {s : Option Nat} (h : Drd w g A c l s) (hs : Stands l s) : Drd (w.setCell ⟨g, 2, none⟩ (.bool true)) g A c l none := by
  rcases s with _ | a
  · obtain ⟨a, ha, hb⟩ := h
    exact ⟨a, ha, by simpa using hb.set_ 2 (.bool true)⟩
  · exact ⟨a, hs a rfl, by simpa using Blk.set_ h 2 (.bool true)⟩
theorem Drd.kept {w w' : World} {g : Nat} {A : Option Addr} {c : Nat} {l : List UInt8} {s : Option Nat} (h : Drd w g A c l s) (hk : ∀ t cs, Blk w g t cs → Blk w' g t cs) : Drd w' g A c l s := by
  rcases s with _ | a
  · obtain ⟨a, ha, hb⟩ := h
    exact ⟨a, ha, hk _ _ hb⟩
  · exact hk _ _ h

set_option maxRecDepth 100000 in
set_option maxHeartbeats 400000 in
theorem dupto_any (g : Nat) (A : Option Addr) (c B : Nat) (l : List UInt8) (most : Int) (s : Option Nat) (w : World) (hb : Drd w g A c l s) (hr : Rd w B 1 A l.length (l.map bv)) (hB : B ≤ g)
    (hs : Stands l s) (hl : l.length ≤ 140737488355328) :
    Calls Tryz.prog 46 #[.pointer (some ⟨g, 0, none⟩), .int .i64 most] w (DPost g A c l (.int .i64 (uptoS l most s).1) (uptoS l most s).2 w) := by
  obtain ⟨hs1, hv0, hv1⟩ := numS_bd l s hs
  obtain ⟨v, hv⟩ : ∃ v, v = (numS l s).1 := ⟨_, rfl⟩
  obtain ⟨s1, hs1'⟩ : ∃ s1, s1 = (numS l s).2 := ⟨_, rfl⟩
  rw [← hv] at hv0 hv1
  rw [← hs1'] at hs1
  have CN := dnum_any g A c B l s w hb hr hB hs hl
  rw [← hv, ← hs1'] at CN
  have HCN := Lib.hid CN
  have HU : Hid (uptoS l most s = if v < 0 ∨ most < v then (0, none) else (v, s1)) := Lib.hid (by rw [uptoS, hv, hs1'])
  have HST := Lib.hid hs1
  clear CN hv hs1' hs1 hs
  by_cases h1 : v < 0
  · go_enter Tryz.func46, Tryz.ntmps46
    go_wp2_with (first | (go_at_call 48; go_must (refine HCN.out.mono ?_); rintro e w1 ⟨hg1, rfl, hb1⟩; have d2 := hb1.bad; have f2 := hb1.free 2))
    go_ret
    rw [HU.out, if_pos (.inl h1)]
    exact ⟨only_set hg1 _ _, rfl, hb1.fail HST.out⟩
  · by_cases h2 : most < v
    · go_enter Tryz.func46, Tryz.ntmps46
      go_wp2_with (first | (go_at_call 48; go_must (refine HCN.out.mono ?_); rintro e w1 ⟨hg1, rfl, hb1⟩; have d2 := hb1.bad; have f2 := hb1.free 2))
      go_ret
      rw [HU.out, if_pos (.inr h2)]
      exact ⟨only_set hg1 _ _, rfl, hb1.fail HST.out⟩
    · go_enter Tryz.func46, Tryz.ntmps46
      go_wp2_with (first | (go_at_call 48; go_must (refine HCN.out.mono ?_); rintro e w1 ⟨hg1, rfl, hb1⟩; have d2 := hb1.bad; have f2 := hb1.free 2))
      go_ret
      rw [HU.out, if_neg (by omega)]
      exact ⟨hg1, rfl, hb1⟩

set_option maxRecDepth 100000 in
set_option maxHeartbeats 4000000 in
theorem dtext_any (g : Nat) (A : Option Addr) (c B : Nat) (l : List UInt8) (most : Int) (s : Option Nat) (w : World) (hb : Drd w g A c l s) (hr : Rd w B 1 A l.length (l.map bv)) (hB : B ≤ g)
    (hs : Stands l s) (hl : l.length ≤ 140737488355328) (hm : 0 ≤ most) (hmb : most ≤ 1000000) (hc : l.length ≤ c) :
    Calls Tryz.prog 47 #[.pointer (some ⟨g, 0, none⟩), .int .i64 most] w (DPost g A c l (.string ⟨(textS l most s).1.toArray⟩) (textS l most s).2 w) := by
  obtain ⟨hs1, hv0, hv1⟩ := uptoS_bd l most s hs hm
  obtain ⟨v, hv⟩ : ∃ v, v = (uptoS l most s).1 := ⟨_, rfl⟩
  obtain ⟨s1, hs1'⟩ : ∃ s1, s1 = (uptoS l most s).2 := ⟨_, rfl⟩
  have HT : Hid (uptoS l most s = (v, s1)) := Lib.hid (by rw [hv, hs1'])
  rw [← hv] at hv0 hv1
  rw [← hs1'] at hs1
  have C := dupto_any g A c B l most s w hb hr hB hs hl
  rw [← hv, ← hs1'] at C
  have HC := Lib.hid C
  clear C hv hs1'
  have hBw : B ≤ w.heap.size := by have := hb.lt; omega
  rcases s1 with _ | a1
  · have hU : textS l most s = ([], none) := by simp only [textS, HT.out]
    rw [hU]
    clear hU
    go_enter Tryz.func47, Tryz.ntmps47
    go_wp2_with (first | (go_at_call 46; go_must (refine HC.out.mono ?_); rintro e w1 ⟨hg1, rfl, hr1⟩))
    obtain ⟨a1, ha1, hb1⟩ := hr1
    have d2 := hb1.cell 2
    have f2 := hb1.frozen 2
    simp at d2
    go_quiet (fail)
    go_wp2
    go_ret
    exact ⟨only_set (only_drewN hg1 _) _ _, rfl, a1, ha1, by simpa using (hb1.drewN _).set_ 2 (.bool true)⟩
  · obtain ⟨m, rfl⟩ : ∃ m : Nat, v = (m : Int) := ⟨v.toNat, by omega⟩
    have ha1 := hs1 a1 rfl
    by_cases hle : m + a1 ≤ l.length
    · have hU : textS l most s = ((l.drop a1).take m, some (a1 + m)) := by
        simp only [textS, HT.out]
        rw [if_pos (by omega)]; simp
      rw [hU]
      clear hU
      obtain ⟨n, hn⟩ : ∃ n, n = l.length := ⟨_, rfl⟩
      have Hn := Lib.hid hn
      rw [← hn] at hle ha1 hr hl hc
      clear hn
      have t1 : decide ((n : Int) - (a1 : Int) < (m : Int)) = false := by simp; omega
      go_enter Tryz.func47, Tryz.ntmps47
      go_wp2_with (first | (go_at_call 46; go_must (refine HC.out.mono ?_); rintro e w1 ⟨hg1, rfl, hr1⟩))
      have hb1 : Blk w1 g _ _ := hr1
      have hr1' := hr.only hg1 hB hBw
      rw [← Hn.out] at hb1
      have d0 := hb1.cell 0
      have d1 := hb1.cell 1
      have d2 := hb1.cell 2
      have f1 := hb1.frozen 1
      simp at d0 d1 d2
      go_quiet (fail)
      go_wp2_with fail
      have hr2 : ∀ x : Nat, Rd (((w1.drewN nq).setCell ⟨g, 1, none⟩ (.int .i64 ((a1 : Int) + (m : Int)))).drewN x) B 1 A n (l.map bv) := fun x =>
        ((hr1'.drewN nq).setCell (p := ⟨g, 1, none⟩) hB _).drewN x
      have hconv := fun x : Nat => run_string_rd (P := Tryz.prog) (c := c - a1) Tryz.underlying23 Tryz.underlying5 Tryz.underlying9 ((hr2 x).sub hle hc)
      go_quiet (fail)
      clear hconv
      generalize (if c = a1 then A else Option.map (fun x => x.add a1) A) = Z
      go_wp2
      go_ret
      refine ⟨only_drewN (only_set (only_drewN hg1 _) _ _) _, rfl, ?_⟩
      exact drd_some (x := (a1 : Int) + (m : Int)) (by simpa using ((hb1.drewN _).set_ 1 (.int .i64 ((a1 : Int) + (m : Int)))).drewN _) Hn.out (by omega)
    · have hU : textS l most s = ([], none) := by
        simp only [textS, HT.out]
        rw [if_neg (by omega)]
      rw [hU]
      clear hU
      obtain ⟨n, hn⟩ : ∃ n, n = l.length := ⟨_, rfl⟩
      have Hn := Lib.hid hn
      rw [← hn] at hle ha1 hr hl hc
      clear hn
      have t1 : decide ((n : Int) - (a1 : Int) < (m : Int)) = true := by simp; omega
      go_enter Tryz.func47, Tryz.ntmps47
      go_wp2_with (first | (go_at_call 46; go_must (refine HC.out.mono ?_); rintro e w1 ⟨hg1, rfl, hr1⟩))
      have hb1 : Blk w1 g _ _ := hr1
      rw [← Hn.out] at hb1
      have d0 := hb1.cell 0
      have d1 := hb1.cell 1
      have d2 := hb1.cell 2
      have f2 := hb1.frozen 2
      simp at d0 d1 d2
      go_quiet (fail)
      go_wp2
      go_ret
      exact ⟨only_set (only_drewN hg1 _) _ _, rfl, a1, by have := Hn.out; omega, by rw [← Hn.out]; simpa using (hb1.drewN _).set_ 2 (.bool true)⟩
end Go.Proofs.YtcfijljagohmlaaGreatDoor
