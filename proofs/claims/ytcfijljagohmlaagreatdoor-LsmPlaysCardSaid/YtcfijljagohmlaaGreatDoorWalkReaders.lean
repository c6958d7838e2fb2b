/- WalkReader WalkReader2 in one text. -/
import Derived.Test.YtcfijljagohmlaaGreatDoorErr
import Derived.Test.YtcfijljagohmlaaGreatDoorPlainRead
import Derived.Deep.RegionHeld3
import Derived.Deep.RegionWith
import Derived.Deep.DrawnRows
import Derived.BigQuiet
import Derived.Deep.QuietTactic
/- The walks of frame.Reader: what reads numbers and texts, up to the first fault. -/
namespace Go.Proofs.YtcfijljagohmlaaGreatDoor
open Go.RowKit

/-- A frame.Reader at block g: it reads the bytes l; where it stands, or that it has failed. -/
def Rdr (w : World) (g : Nat) (A : Option Addr) (c : Nat) (l : List UInt8) : Option Nat → Prop
  | some at_ => Blk w g 124 #[.slice A l.length c, .int .i64 at_, .nilIface]
  | none => ∃ at_ : Nat, at_ ≤ l.length ∧ Blk w g 124 #[.slice A l.length c, .int .i64 at_, errV 9]

theorem rdr_some {w : World} {g : Nat} {A : Option Addr} {c n at_ : Nat} {l : List UInt8} {x : Int} (h : Blk w g 124 #[.slice A n c, .int .i64 x, .nilIface]) (hn : n = l.length) (hx : x = (at_ : Int)) : Rdr w g A c l (some at_) := by
  subst hn hx; exact h

set_option maxRecDepth 100000 in
set_option maxHeartbeats 400000 in
theorem fail_any (g : Nat) (x y z : Value) (w : World) (hb : Blk w g 124 #[x, y, z]) :
    Calls Tryz.prog 76 #[.pointer (some ⟨g, 0, none⟩)] w fun e w' => e = .returned (.tuple #[]) ∧ Blk w' g 124 #[x, y, errV 9] ∧ w.grownBy w' (some g) := by
  have c2 := hb.cell 2
  have f2 := hb.frozen 2
  simp at c2
  go_enter Tryz.func76, Tryz.ntmps76
  go_wp2
  go_end0
  exact ⟨rfl, hb.set_ 2 (errV 9), only_set (only_refl _ _) _ _⟩

/-- What a reader's function leaves: a value, and the reader at another place. -/
def RPost (g : Nat) (A : Option Addr) (c : Nat) (l : List UInt8) (v : Value) (s : Option Nat) (w : World) (e : Ending) (w' : World) : Prop :=
  w.grownBy w' (some g) ∧ e = .returned v ∧ Rdr w' g A c l s

/-- What Num does with a reader that has not failed. -/
def NumPost (g : Nat) (A : Option Addr) (c : Nat) (l : List UInt8) (at_ : Nat) (w : World) (e : Ending) (w' : World) : Prop :=
  RPost g A c l (.int .i64 (numS l (some at_)).1) (numS l (some at_)).2 w e w'

set_option maxRecDepth 100000 in
set_option maxHeartbeats 8000000 in
theorem rdnum_good (g : Nat) (A : Option Addr) (c B : Nat) (l : List UInt8) (a0 : Nat) (w : World) (hb : Blk w g 124 #[.slice A l.length c, .int .i64 a0, .nilIface]) (hr : Rd w B 1 A l.length (l.map bv)) (hB : B ≤ g)
    (ha : a0 ≤ l.length) (hl : l.length ≤ 140737488355328) :
    Calls Tryz.prog 75 #[.pointer (some ⟨g, 0, none⟩)] w (NumPost g A c l a0 w) := by
  obtain ⟨n, hn⟩ : ∃ n, n = l.length := ⟨_, rfl⟩
  have Hn := Lib.hid hn
  have hBw : B ≤ w.heap.size := by have := hb.lt; omega
  rw [← hn] at hb hr ha hl
  clear hn
  go_enter Tryz.func75, Tryz.ntmps75
  go_wp2
  go_loopw [2, 3, 4] (fun z x i wr => ∃ k : Nat, ∃ X : Nat, ∃ q : Nat, k ≤ 9 ∧ q ≤ n ∧ z = .int .i64 0 ∧ i = .int .i64 k ∧ x = .int .u64 X ∧ Blk wr g 124 #[.slice A n c, .int .i64 q, .nilIface] ∧ w.grownBy wr (some g) ∧
      Hid (q = a0 + k ∧ X < 128 ^ k ∧ vrd 0 (l.drop a0) = (vrd k (l.drop q)).map fun p => (X + 128 ^ k * p.1, k + p.2))) (fun _ _ i _ => 10 - (intOf i).toNat)
  case atStart => exact ⟨0, 0, a0, by omega, ha, rfl, rfl, rfl, hb, only_refl _ _, rfl, by simp, by simp⟩
  case round =>
    obtain ⟨k, X, q, hk, hak, rfl, rfl, rfl, hbk, hgk, HX⟩ := hrel
    have d0 := hbk.cell 0
    have d1 := hbk.cell 1
    have d2 := hbk.cell 2
    have f1 := hbk.frozen 1
    simp at d0 d1 d2
    have hrr := hr.only hgk hB hBw
    have hq0 := HX.out.1
    have hlen := Hn.out
    by_cases hE : q < n
    · obtain ⟨ad, rfl, hc⟩ := hrr.byte hE
      have hbyte := drop_byte (l := l) (k := q) (by omega)
      obtain ⟨b, hbb⟩ : ∃ b, b = l.getD q 0 := ⟨_, rfl⟩
      rw [← hbb] at hc hbyte
      have HB := Lib.hid hbyte
      have hb1 : (b.toNat : Int) < 256 := by have := b.toNat_lt; omega
      clear hbb hbyte
      have t1 : decide (n ≤ q) = false := by simp; omega
      have hi0 : (0 : Int) ≤ (q : Int) := by omega
      have hi1 : (q : Int) < (n : Int) := by omega
      by_cases h0 : k = 0
      · have HV : Hid (vbad k b = false) := by simp [Hid, vbad, h0]
        have Hk := Lib.hid hq0
        clear hq0 hlen
        subst h0
        go_wp2_with fail
        go_quiet (fail)
        go_wp2_with fail
        go_quiet (fail)
        by_cases hlt : b.toNat < 128
        ·
          have t8 : decide ((b.toNat : Int) < 128) = true := by simp; omega
          go_wp2_with fail
          have lx := acc_last (l := l) HX.out.2.2 HB.out HV.out hlt
          have eX := acc_or (b := b) HX.out.2.1 (by omega) (vbad_not HV.out).2.1
          have hlen := Hn.out
          go_ret
          refine ⟨only_set (only_drewN hgk _) _ _, ?_, ?_⟩
          · rw [numS, lx.1, ← unzig_xor _ lx.2, ← eX]
            first | rfl | (simp; done)
          · rw [numS, lx.1]
            exact rdr_some (x := (q : Int) + 1) (by simpa using (hbk.drewN _).set_ 1 (.int .i64 ((q : Int) + 1))) hlen (by have := Hk.out; omega)
        · have t8 : decide ((b.toNat : Int) < 128) = false := by simp; omega
          go_wp2_with fail
          have nx := acc_next (l := l) Hk.out HX.out.2.1 HX.out.2.2 HB.out HV.out (by omega)
          have eX := acc_or (b := b) HX.out.2.1 (by omega) (vbad_not HV.out).2.1
          refine ⟨⟨_, X + 128 ^ _ * (b.toNat % 128), q + 1, nx.1, by omega, rfl, by go_num, ?_, by simpa using (hbk.drewN _).set_ 1 (.int .i64 ((q : Int) + 1)), only_set (only_drewN hgk _) _ _, nx.2⟩, ?_⟩
          · first | (rw [← eX]; done) | (rw [← eX]; simp)
          · first | (simp [intOf]; done) | (simp [intOf]; omega)
      · have t5 : decide (0 < (k : Int)) = true := by simp; omega
        have t2 : decide ((9 : Int) < (k : Int)) = false := by simp; omega
        by_cases h9 : k = 9
        · by_cases hb1' : 1 < b.toNat
          · have t4 : decide (1 < (b.toNat : Int)) = true := by simp; omega
            have HN : Hid (vrd k (l.drop q) = none) := vrd_bad HB.out (by simp [vbad, h9, hb1'])
            have Hk := Lib.hid hq0
            clear hq0 hlen
            subst h9
            go_wp2_with fail
            go_quiet (fail)
            go_wp2_with (go_at_call 76; go_must (refine (fail_any g _ _ _ _ (hbk.drewN _)).mono ?_); rintro e w2 ⟨rfl, hb2, hg2⟩)
            go_ret
            have hlen := Hn.out
            have hx := HX.out.2.2
            have hz : rdNum (l.drop a0) = none := by rw [rdNum, hx, HN.out]; rfl
            refine ⟨only_trans (only_drewN hgk _) hg2, by rw [numS, hz]; rfl, ?_⟩
            rw [numS, hz]
            exact ⟨q, by omega, by rw [← hlen]; exact hb2⟩
          · have t4 : decide (1 < (b.toNat : Int)) = false := by simp; omega
            have Hk := Lib.hid hq0
            clear hq0 hlen
            subst h9
            go_wp2_with fail
            go_quiet (fail)
            by_cases hb0 : b.toNat = 0
            · have t6 : ((b.toNat : Int) == 0) = true := by simp; omega
              have HN : Hid (vrd 9 (l.drop q) = none) := vrd_bad HB.out (by simp [vbad, hb0])
              have H0 := Lib.hid hb0
              clear hb0
              go_wp2_with (go_at_call 76; go_must (refine (fail_any g _ _ _ _ (hbk.drewN _)).mono ?_); rintro e w2 ⟨rfl, hb2, hg2⟩)
              go_ret
              have hlen := Hn.out
              have hx := HX.out.2.2
              have hz : rdNum (l.drop a0) = none := by rw [rdNum, hx, HN.out]; rfl
              refine ⟨only_trans (only_drewN hgk _) hg2, by rw [numS, hz]; rfl, ?_⟩
              rw [numS, hz]
              exact ⟨q, by omega, by rw [← hlen]; exact hb2⟩
            · have t6 : ((b.toNat : Int) == 0) = false := by simp; omega
              have HV : Hid (vbad 9 b = false) := by simp [Hid, vbad, hb0]; omega
              have hlt : b.toNat < 128 := by omega
              go_wp2_with fail
              go_quiet (fail)
              have t8 : decide ((b.toNat : Int) < 128) = true := by simp; omega
              go_wp2_with fail
              have lx := acc_last (l := l) HX.out.2.2 HB.out HV.out hlt
              have eX := acc_or (b := b) HX.out.2.1 (by omega) (vbad_not HV.out).2.1
              have hlen := Hn.out
              go_ret
              refine ⟨only_set (only_drewN hgk _) _ _, ?_, ?_⟩
              · rw [numS, lx.1, ← unzig_xor _ lx.2, ← eX]
                first | rfl | (simp; done)
              · rw [numS, lx.1]
                exact rdr_some (x := (q : Int) + 1) (by simpa using (hbk.drewN _).set_ 1 (.int .i64 ((q : Int) + 1))) hlen (by have := Hk.out; omega)
        · have t3 : ((k : Int) == 9) = false := by simp; omega
          have h0k : 0 < k := by omega
          have hk8 : k ≤ 8 := by omega
          have Hk := Lib.hid hq0
          clear hq0 hlen h0 h9 hk
          go_wp2_with fail
          go_quiet (fail)
          by_cases hb0 : b.toNat = 0
          · have t6 : ((b.toNat : Int) == 0) = true := by simp; omega
            have HN : Hid (vrd k (l.drop q) = none) := vrd_bad HB.out (by simp [vbad, hb0]; omega)
            have H0 := Lib.hid hb0
            clear hb0
            go_wp2_with (go_at_call 76; go_must (refine (fail_any g _ _ _ _ (hbk.drewN _)).mono ?_); rintro e w2 ⟨rfl, hb2, hg2⟩)
            go_ret
            have hlen := Hn.out
            have hx := HX.out.2.2
            have hz : rdNum (l.drop a0) = none := by rw [rdNum, hx, HN.out]; rfl
            refine ⟨only_trans (only_drewN hgk _) hg2, by rw [numS, hz]; rfl, ?_⟩
            rw [numS, hz]
            exact ⟨q, by omega, by rw [← hlen]; exact hb2⟩
          · have t6 : ((b.toNat : Int) == 0) = false := by simp; omega
            have HV : Hid (vbad k b = false) := by simp [Hid, vbad, hb0]; omega
            go_wp2_with fail
            go_quiet (fail)
            by_cases hlt : b.toNat < 128
            ·
              have t8 : decide ((b.toNat : Int) < 128) = true := by simp; omega
              go_wp2_with fail
              have lx := acc_last (l := l) HX.out.2.2 HB.out HV.out hlt
              have eX := acc_or (b := b) HX.out.2.1 (by omega) (vbad_not HV.out).2.1
              have hlen := Hn.out
              go_ret
              refine ⟨only_set (only_drewN hgk _) _ _, ?_, ?_⟩
              · rw [numS, lx.1, ← unzig_xor _ lx.2, ← eX]
                first | rfl | (simp; done)
              · rw [numS, lx.1]
                exact rdr_some (x := (q : Int) + 1) (by simpa using (hbk.drewN _).set_ 1 (.int .i64 ((q : Int) + 1))) hlen (by have := Hk.out; omega)
            · have t8 : decide ((b.toNat : Int) < 128) = false := by simp; omega
              go_wp2_with fail
              have nx := acc_next (l := l) Hk.out HX.out.2.1 HX.out.2.2 HB.out HV.out (by omega)
              have eX := acc_or (b := b) HX.out.2.1 (by omega) (vbad_not HV.out).2.1
              refine ⟨⟨_, X + 128 ^ _ * (b.toNat % 128), q + 1, nx.1, by omega, rfl, by go_num, ?_, by simpa using (hbk.drewN _).set_ 1 (.int .i64 ((q : Int) + 1)), only_set (only_drewN hgk _) _ _, nx.2⟩, ?_⟩
              · first | (rw [← eX]; done) | (rw [← eX]; simp)
              · first | (simp [intOf]; done) | (simp [intOf]; omega)
    · have t1 : decide (n ≤ q) = true := by simp; omega
      have HN : Hid (vrd k (l.drop q) = none) := vrd_end (List.drop_eq_nil_of_le (by omega))
      have Hk := Lib.hid hq0
      clear hq0 hlen
      go_wp2_with fail
      go_quiet (fail)
      go_wp2_with (go_at_call 76; go_must (refine (fail_any g _ _ _ _ (hbk.drewN _)).mono ?_); rintro e w2 ⟨rfl, hb2, hg2⟩)
      go_ret
      have hlen := Hn.out
      have hx := HX.out.2.2
      have hz : rdNum (l.drop a0) = none := by rw [rdNum, hx, HN.out]; rfl
      refine ⟨only_trans (only_drewN hgk _) hg2, by rw [numS, hz]; rfl, ?_⟩
      rw [numS, hz]
      exact ⟨q, by omega, by rw [← hlen]; exact hb2⟩

set_option maxRecDepth 100000 in
set_option maxHeartbeats 400000 in
theorem rdnum_bad (g : Nat) (A : Option Addr) (c : Nat) (l : List UInt8) (w : World) (hb : Rdr w g A c l none) :
    Calls Tryz.prog 75 #[.pointer (some ⟨g, 0, none⟩)] w (RPost g A c l (.int .i64 0) none w) := by
  have hb0 := hb
  obtain ⟨a0, ha, hb⟩ := hb
  have d2 := hb.cell 2
  simp [errV] at d2
  go_enter Tryz.func75, Tryz.ntmps75
  go_wp2
  refine wp_loop_rounds 1 ?_
  rw [rounds_succ]
  go_wp2
  go_ret
  exact ⟨only_refl _ _, rfl, hb0⟩

/-- (Reader).Num, wherever the reader stands. -/
theorem rdnum_any (g : Nat) (A : Option Addr) (c B : Nat) (l : List UInt8) (s : Option Nat) (w : World) (hb : Rdr w g A c l s) (hr : Rd w B 1 A l.length (l.map bv)) (hB : B ≤ g)
    (hs : Stands l s) (hl : l.length ≤ 140737488355328) :
    Calls Tryz.prog 75 #[.pointer (some ⟨g, 0, none⟩)] w (RPost g A c l (.int .i64 (numS l s).1) (numS l s).2 w) := by
  rcases s with _ | a0
  · exact rdnum_bad g A c l w hb
  · exact rdnum_good g A c B l a0 w hb hr hB (hs a0 rfl) hl

/-- Fail, wherever the reader stands. -/
theorem rdfail_any (g : Nat) (A : Option Addr) (c : Nat) (l : List UInt8) (s : Option Nat) (w : World) (hb : Rdr w g A c l s) (hs : Stands l s) :
    Calls Tryz.prog 76 #[.pointer (some ⟨g, 0, none⟩)] w (RPost g A c l (.tuple #[]) none w) := by
  rcases s with _ | a0
  · obtain ⟨a0, ha, hb⟩ := hb
    exact (fail_any g _ _ _ w hb).mono fun e w' ⟨h1, h2, h3⟩ => ⟨h3, h1, a0, ha, h2⟩
  · exact (fail_any g _ _ _ w hb).mono fun e w' ⟨h1, h2, h3⟩ => ⟨h3, h1, a0, hs a0 rfl, h2⟩

set_option maxRecDepth 100000 in
set_option maxHeartbeats 400000 in
theorem rdupto_any (g : Nat) (A : Option Addr) (c B : Nat) (l : List UInt8) (most : Int) (s : Option Nat) (w : World) (hb : Rdr w g A c l s) (hr : Rd w B 1 A l.length (l.map bv)) (hB : B ≤ g)
    (hs : Stands l s) (hl : l.length ≤ 140737488355328) :
    Calls Tryz.prog 73 #[.pointer (some ⟨g, 0, none⟩), .int .i64 most] w (RPost g A c l (.int .i64 (uptoS l most s).1) (uptoS l most s).2 w) := by
  obtain ⟨hs1, hv0, hv1⟩ := numS_bd l s hs
  obtain ⟨v, hv⟩ : ∃ v, v = (numS l s).1 := ⟨_, rfl⟩
  obtain ⟨s1, hs1'⟩ : ∃ s1, s1 = (numS l s).2 := ⟨_, rfl⟩
  rw [← hv] at hv0 hv1
  rw [← hs1'] at hs1
  have Hv := Lib.hid hv
  have Hs := Lib.hid hs1'
  have C := rdnum_any g A c B l s w hb hr hB hs hl
  rw [← hv, ← hs1'] at C
  have HC := Lib.hid C
  clear C hv hs1'
  by_cases hbad : v < 0 ∨ most < v
  · have hU : uptoS l most s = (0, none) := by rw [uptoS, if_pos (by rw [← Hv.out]; exact hbad)]
    rw [hU]
    clear hU
    by_cases h0 : v < 0
    all_goals
      go_enter Tryz.func73, Tryz.ntmps73
      go_wp2_with (first | (go_at_call 75; go_must (refine HC.out.mono ?_); rintro e w1 ⟨hg1, rfl, hr1⟩) | (go_at_call 76; go_must (refine (rdfail_any g A c l s1 _ hr1 hs1).mono ?_); rintro e w2 ⟨hg2, rfl, hr2⟩))
      all_goals first | (go_ret; exact ⟨only_trans hg1 hg2, rfl, hr2⟩) | (exfalso; omega)
  · have hU : uptoS l most s = (v, s1) := by rw [uptoS, if_neg (by rw [← Hv.out]; exact hbad), Hv.out, Hs.out]
    rw [hU]
    clear hU
    have h0 : ¬ v < 0 := by omega
    have h1 : ¬ most < v := by omega
    go_enter Tryz.func73, Tryz.ntmps73
    go_wp2_with (first | (go_at_call 75; go_must (refine HC.out.mono ?_); rintro e w1 ⟨hg1, rfl, hr1⟩))
    go_ret
    exact ⟨hg1, rfl, hr1⟩
end Go.Proofs.YtcfijljagohmlaaGreatDoor

/- The walks of frame.Reader's Text and End. -/
namespace Go.Proofs.YtcfijljagohmlaaGreatDoor
open Go.RowKit

set_option maxRecDepth 100000 in
set_option maxHeartbeats 4000000 in
theorem rdtext_any (g : Nat) (A : Option Addr) (c B : Nat) (l : List UInt8) (most : Int) (s : Option Nat) (w : World) (hb : Rdr w g A c l s) (hr : Rd w B 1 A l.length (l.map bv)) (hB : B ≤ g)
    (hs : Stands l s) (hl : l.length ≤ 140737488355328) (hm : 0 ≤ most) (hmb : most ≤ 1000000) (hc : l.length ≤ c) :
    Calls Tryz.prog 74 #[.pointer (some ⟨g, 0, none⟩), .int .i64 most] w (RPost g A c l (.string ⟨(textS l most s).1.toArray⟩) (textS l most s).2 w) := by
  obtain ⟨hs1, hv0, hv1⟩ := uptoS_bd l most s hs hm
  obtain ⟨v, hv⟩ : ∃ v, v = (uptoS l most s).1 := ⟨_, rfl⟩
  obtain ⟨s1, hs1'⟩ : ∃ s1, s1 = (uptoS l most s).2 := ⟨_, rfl⟩
  have HT : Hid (uptoS l most s = (v, s1)) := by rw [hv, hs1']; rfl
  rw [← hv] at hv0 hv1
  rw [← hs1'] at hs1
  have C := rdupto_any g A c B l most s w hb hr hB hs hl
  rw [← hv, ← hs1'] at C
  have HC := Lib.hid C
  clear C hv hs1'
  have hBw : B ≤ w.heap.size := by
    rcases s with _ | a
    · obtain ⟨_, _, h⟩ := hb; have := h.lt; omega
    · have := Blk.lt hb; omega
  rcases s1 with _ | a1
  · have hU : textS l most s = ([], none) := by simp only [textS, HT.out]
    rw [hU]
    clear hU
    go_enter Tryz.func74, Tryz.ntmps74
    go_wp2_with (first | (go_at_call 73; go_must (refine HC.out.mono ?_); rintro e w1 ⟨hg1, rfl, hr1⟩))
    obtain ⟨a1, ha1, hb1⟩ := hr1
    have d2 := hb1.cell 2
    simp [errV] at d2
    go_quiet (fail)
    go_wp2_with (first | (go_at_call 76; go_must (refine (rdfail_any g A c l none _ ⟨a1, ha1, hb1.drewN _⟩ hs1).mono ?_); rintro e w2 ⟨hg2, rfl, hr2⟩))
    go_ret
    exact ⟨only_trans (only_drewN hg1 _) hg2, rfl, hr2⟩
  · obtain ⟨m, rfl⟩ : ∃ m : Nat, v = (m : Int) := ⟨v.toNat, by omega⟩
    have ha1 := hs1 a1 rfl
    by_cases hle : m + a1 ≤ l.length
    · have hU : textS l most s = ((l.drop a1).take m, some (a1 + m)) := by
        simp only [textS, HT.out]
        rw [if_pos (by omega)]; simp
      rw [hU]
      clear hU
      obtain ⟨n, hn⟩ : ∃ n, n = l.length := ⟨_, rfl⟩
      have Hn := Lib.hid hn
      rw [← hn] at hle ha1 hr hl hc
      clear hn
      have t1 : decide ((n : Int) - (a1 : Int) < (m : Int)) = false := by simp; omega
      go_enter Tryz.func74, Tryz.ntmps74
      go_wp2_with (first | (go_at_call 73; go_must (refine HC.out.mono ?_); rintro e w1 ⟨hg1, rfl, hr1⟩))
      have hb1 : Blk w1 g _ _ := hr1
      have hr1' := hr.only hg1 hB hBw
      rw [← Hn.out] at hb1
      have d0 := hb1.cell 0
      have d1 := hb1.cell 1
      have d2 := hb1.cell 2
      have f1 := hb1.frozen 1
      simp at d0 d1 d2
      go_quiet (fail)
      go_wp2_with fail
      have hr2 : ∀ x : Nat, Rd (((w1.drewN nq).setCell ⟨g, 1, none⟩ (.int .i64 ((a1 : Int) + (m : Int)))).drewN x) B 1 A n (l.map bv) := fun x =>
        ((hr1'.drewN nq).setCell (p := ⟨g, 1, none⟩) hB _).drewN x
      have hconv := fun x : Nat => run_string_rd (P := Tryz.prog) (c := c - a1) Tryz.underlying23 Tryz.underlying5 Tryz.underlying9 ((hr2 x).sub hle hc)
      go_quiet (fail)
      clear hconv
      generalize (if c = a1 then A else Option.map (fun x => x.add a1) A) = Z
      go_wp2
      go_ret
      refine ⟨only_drewN (only_set (only_drewN hg1 _) _ _) _, rfl, ?_⟩
      exact rdr_some (x := (a1 : Int) + (m : Int)) (by simpa using ((hb1.drewN _).set_ 1 (.int .i64 ((a1 : Int) + (m : Int)))).drewN _) Hn.out (by omega)
    · have hU : textS l most s = ([], none) := by
        simp only [textS, HT.out]
        rw [if_neg (by omega)]
      rw [hU]
      clear hU
      obtain ⟨n, hn⟩ : ∃ n, n = l.length := ⟨_, rfl⟩
      have Hn := Lib.hid hn
      rw [← hn] at hle ha1 hr hl hc
      clear hn
      have t1 : decide ((n : Int) - (a1 : Int) < (m : Int)) = true := by simp; omega
      go_enter Tryz.func74, Tryz.ntmps74
      go_wp2_with (first | (go_at_call 73; go_must (refine HC.out.mono ?_); rintro e w1 ⟨hg1, rfl, hr1⟩))
      have hb1 : Blk w1 g _ _ := hr1
      have hb1' := Lib.hid hb1
      rw [← Hn.out] at hb1
      have d0 := hb1.cell 0
      have d1 := hb1.cell 1
      have d2 := hb1.cell 2
      simp at d0 d1 d2
      go_quiet (fail)
      go_wp2_with (first | (go_at_call 76; go_must (refine (rdfail_any g A c l (some a1) _ (hb1'.out.drewN _) hs1).mono ?_); rintro e w2 ⟨hg2, rfl, hr2⟩))
      go_ret
      exact ⟨only_trans (only_drewN hg1 _) hg2, rfl, hr2⟩

/-- What End leaves: an error, or none. -/
def EndPost (g : Nat) (l : List UInt8) (s : Option Nat) (w : World) (e : Ending) (w' : World) : Prop :=
  w.grownBy w' (some g) ∧ e = .returned (errV (if endS l s then 0 else 9))

set_option maxRecDepth 100000 in
set_option maxHeartbeats 4000000 in
theorem rdend_any (g : Nat) (A : Option Addr) (c : Nat) (l : List UInt8) (s : Option Nat) (w : World) (hb : Rdr w g A c l s) (hs : Stands l s) :
    Calls Tryz.prog 77 #[.pointer (some ⟨g, 0, none⟩)] w (EndPost g l s w) := by
  rcases s with _ | a1
  · obtain ⟨a1, ha1, hb1⟩ := hb
    have d2 := hb1.cell 2
    simp [errV] at d2
    go_enter Tryz.func77, Tryz.ntmps77
    go_wp2
    go_quiet (fail)
    go_wp2
    go_ret
    exact ⟨only_drewN (only_refl _ _) _, rfl⟩
  · have ha1 := hs a1 rfl
    obtain ⟨n, hn⟩ : ∃ n, n = l.length := ⟨_, rfl⟩
    have Hn := Lib.hid hn
    have hb1 : Blk w g _ _ := hb
    have HB := Lib.hid hb
    rw [← hn] at ha1 hb1
    clear hn hb
    have d0 := hb1.cell 0
    have d1 := hb1.cell 1
    have d2 := hb1.cell 2
    simp at d0 d1 d2
    by_cases hlt : a1 < n
    · have t1 : decide (a1 < n) = true := by simpa using hlt
      have hE : Hid (endS l (some a1) = false) := by simp only [Hid, endS, decide_eq_false_iff_not]; have := Hn.out; omega
      go_enter Tryz.func77, Tryz.ntmps77
      go_wp2
      go_quiet (fail)
      go_wp2_with (first | (go_at_call 76; go_must (refine (fail_any g _ _ _ _ (hb1.drewN _)).mono ?_); rintro e w2 ⟨rfl, hb2, hg2⟩; have k2 := hb2.cell 2; simp only [List.size_toArray, List.length_cons, List.length_nil, Nat.reduceAdd, Nat.reduceLT, getElem?_pos, List.getElem_toArray, List.getElem_cons_succ, List.getElem_cons_zero] at k2))
      go_ret
      refine ⟨only_trans (only_drewN (only_refl _ _) _) hg2, ?_⟩
      rw [hE.out]; rfl
    · have t1 : decide (a1 < n) = false := by simpa using hlt
      have hE : Hid (endS l (some a1) = true) := by simp only [Hid, endS, decide_eq_true_eq]; have := Hn.out; omega
      go_enter Tryz.func77, Tryz.ntmps77
      go_wp2
      go_quiet (fail)
      go_wp2
      go_ret
      refine ⟨only_drewN (only_refl _ _) _, ?_⟩
      rw [hE.out]; rfl
end Go.Proofs.YtcfijljagohmlaaGreatDoor
