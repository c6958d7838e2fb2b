/- The walks of weirref2.D: what reads numbers and texts, as long as nothing is wrong. -/
import Derived.Test.YtcfijljagohmlaaGreatDoorPlainRead
import Derived.Test.YtcfijljagohmlaaGreatDoorPlainReadD
import Derived.Test.YtcfijljagohmlaaGreatDoorProg
import Derived.Test.YtcfijljagohmlaaGreatDoorBase2
import Derived.Deep.RegionHeld3
import Derived.Deep.RegionWith
import Derived.Deep.DrawnRows
import Derived.BigQuiet
import Derived.Deep.QuietTactic
namespace Go.Proofs.YtcfijljagohmlaaGreatDoor
open Go.RowKit

/-- A weirref2.D at block g: it reads the bytes l; where it stands, or that something was wrong. -/
def Drd (w : World) (g : Nat) (A : Option Addr) (c : Nat) (l : List UInt8) : Option Nat → Prop
  | some at_ => Blk w g 91 #[.slice A l.length c, .int .i64 at_, .bool false]
  | none => ∃ at_ : Nat, at_ ≤ l.length ∧ Blk w g 91 #[.slice A l.length c, .int .i64 at_, .bool true]

theorem drd_some {w : World} {g : Nat} {A : Option Addr} {c n at_ : Nat} {l : List UInt8} {x : Int} (h : Blk w g 91 #[.slice A n c, .int .i64 x, .bool false]) (hn : n = l.length) (hx : x = (at_ : Int)) : Drd w g A c l (some at_) := by
  subst hn hx; exact h

/-- What a function of D leaves: a value, and D at another place. -/
def DPost (g : Nat) (A : Option Addr) (c : Nat) (l : List UInt8) (v : Value) (s : Option Nat) (w : World) (e : Ending) (w' : World) : Prop :=
  w.grownBy w' (some g) ∧ e = .returned v ∧ Drd w' g A c l s

def DNumPost (g : Nat) (A : Option Addr) (c : Nat) (l : List UInt8) (at_ : Nat) (w : World) (e : Ending) (w' : World) : Prop :=
  DPost g A c l (.int .i64 (numS l (some at_)).1) (numS l (some at_)).2 w e w'

set_option maxRecDepth 100000 in
set_option maxHeartbeats 8000000 in
theorem dnum_good (g : Nat) (A : Option Addr) (c B : Nat) (l : List UInt8) (a0 : Nat) (w : World) (hb : Blk w g 91 #[.slice A l.length c, .int .i64 a0, .bool false]) (hr : Rd w B 1 A l.length (l.map bv)) (hB : B ≤ g)
    (ha : a0 ≤ l.length) (hl : l.length ≤ 140737488355328) :
    Calls Tryz.prog 48 #[.pointer (some ⟨g, 0, none⟩)] w (DNumPost g A c l a0 w) := by
  obtain ⟨n, hn⟩ : ∃ n, n = l.length := ⟨_, rfl⟩
  have Hn := Lib.hid hn
  have hBw : B ≤ w.heap.size := by have := hb.lt; omega
  rw [← hn] at hb hr ha hl
  clear hn
  go_enter Tryz.func48, Tryz.ntmps48
  go_wp2
  go_loopw [2, 3, 4, 5] (fun z x y i wr => ∃ k : Nat, ∃ X : Nat, ∃ q : Nat, k ≤ 9 ∧ q ≤ n ∧ z = .int .i64 0 ∧ i = .int .i64 k ∧ x = .int .u64 X ∧ y = .int .u64 (byN k) ∧ Blk wr g 91 #[.slice A n c, .int .i64 q, .bool false] ∧ w.grownBy wr (some g) ∧
      Hid (q = a0 + k ∧ X < 128 ^ k ∧ vrd 0 (l.drop a0) = (vrd k (l.drop q)).map fun p => (X + 128 ^ k * p.1, k + p.2))) (fun _ _ _ i _ => 10 - (intOf i).toNat)
  case atStart => exact ⟨0, 0, a0, by omega, ha, rfl, rfl, rfl, rfl, hb, only_refl _ _, rfl, by simp, by simp⟩
  case round =>
    obtain ⟨k, X, q, hk, hak, rfl, rfl, rfl, rfl, hbk, hgk, HX⟩ := hrel
    have d0 := hbk.cell 0
    have d1 := hbk.cell 1
    have d2 := hbk.cell 2
    have f1 := hbk.frozen 1
    have f2 := hbk.frozen 2
    simp at d0 d1 d2
    have hrr := hr.only hgk hB hBw
    have hq0 := HX.out.1
    have hlen := Hn.out
    by_cases hE : q < n
    · obtain ⟨ad, rfl, hc⟩ := hrr.byte hE
      have hbyte := drop_byte (l := l) (k := q) (by omega)
      obtain ⟨b, hbb⟩ : ∃ b, b = l.getD q 0 := ⟨_, rfl⟩
      rw [← hbb] at hc hbyte
      have HB := Lib.hid hbyte
      have hb1 : (b.toNat : Int) < 256 := by have := b.toNat_lt; omega
      clear hbb hbyte
      have t1 : decide (n ≤ q) = false := by simp; omega
      have hi0 : (0 : Int) ≤ (q : Int) := by omega
      have hi1 : (q : Int) < (n : Int) := by omega
      have Hk := Lib.hid hq0
      clear hq0 hlen
      by_cases hv : vbad k b = true
      · have HN : Hid (vrd k (l.drop q) = none) := vrd_bad HB.out hv
        simp only [vbad, Bool.or_eq_true, Bool.and_eq_true, decide_eq_true_eq] at hv
        by_cases h9 : k = 9
        · subst h9
          by_cases hb2 : 1 < b.toNat
          · have t4 : decide (1 < (b.toNat : Int)) = true := by simp; omega
            clear hv
            go_wp2_with fail
            go_quiet (fail)
            go_wp2_with fail
            go_quiet (fail)
            go_wp2_with fail
            go_ret
            have hx := HX.out.2.2
            have hz : rdNum (l.drop a0) = none := by rw [rdNum, hx, HN.out]; rfl
            refine ⟨only_set (only_set (only_drewN hgk _) _ _) _ _, by rw [numS, hz]; rfl, ?_⟩
            rw [numS, hz]
            exact ⟨q + 1, by have := Hn.out; omega, by rw [← Hn.out]; simpa using ((hbk.drewN _).set_ 1 (.int .i64 ((q : Int) + 1))).set_ 2 (.bool true)⟩
          · have hb0 : b.toNat = 0 := by omega
            have t4 : decide (1 < (b.toNat : Int)) = false := by simp; omega
            have t6 : ((b.toNat : Int) == 0) = true := by simp; omega
            have H0 := Lib.hid hb0
            clear hv hb0 hb2
            go_wp2_with fail
            go_quiet (fail)
            go_wp2_with fail
            go_quiet (fail)
            go_wp2_with fail
            go_ret
            have hx := HX.out.2.2
            have hz : rdNum (l.drop a0) = none := by rw [rdNum, hx, HN.out]; rfl
            refine ⟨only_set (only_set (only_drewN hgk _) _ _) _ _, by rw [numS, hz]; rfl, ?_⟩
            rw [numS, hz]
            exact ⟨q + 1, by have := Hn.out; omega, by rw [← Hn.out]; simpa using ((hbk.drewN _).set_ 1 (.int .i64 ((q : Int) + 1))).set_ 2 (.bool true)⟩
        · have hb0 : b.toNat = 0 := by omega
          have h0k : 0 < k := by omega
          have t3 : ((k : Int) == 9) = false := by simp; omega
          have t5 : decide (0 < (k : Int)) = true := by simp; omega
          have t6 : ((b.toNat : Int) == 0) = true := by simp; omega
          have H0 := Lib.hid hb0
          clear hv hb0 h9
          go_wp2_with fail
          go_quiet (fail)
          go_wp2_with fail
          go_quiet (fail)
          go_wp2_with fail
          go_ret
          have hx := HX.out.2.2
          have hz : rdNum (l.drop a0) = none := by rw [rdNum, hx, HN.out]; rfl
          refine ⟨only_set (only_set (only_drewN hgk _) _ _) _ _, by rw [numS, hz]; rfl, ?_⟩
          rw [numS, hz]
          exact ⟨q + 1, by have := Hn.out; omega, by rw [← Hn.out]; simpa using ((hbk.drewN _).set_ 1 (.int .i64 ((q : Int) + 1))).set_ 2 (.bool true)⟩
      · have HV : Hid (vbad k b = false) := Lib.hid (by simpa using hv)
        clear hv
        by_cases h9 : k = 9
        · have hb2 := (vbad_not HV.out).2.1 h9
          have hb3 := (vbad_not HV.out).2.2 (by omega)
          subst h9
          have t4 : decide (1 < (b.toNat : Int)) = false := by simp; omega
          have t6 : ((b.toNat : Int) == 0) = false := by simp; omega
          obtain ⟨Z, hZ⟩ : ∃ Z, Z = 128 ^ 9 * (b.toNat % 128) := ⟨_, rfl⟩
          obtain ⟨Y, hY⟩ : ∃ Y, Y = X + Z := ⟨_, rfl⟩
          obtain ⟨m1, m2⟩ := acc_mul HX.out.2.1 hk (vbad_not HV.out).2.1 hZ hY
          have hYb : Y < 18446744073709551616 := by rw [hY, hZ]; exact acc_bd HX.out.2.1 hk (vbad_not HV.out).2.1
          have HYb := Lib.hid hYb
          have hYe : Y = X + 128 ^ 9 * (b.toNat % 128) := by rw [hY, hZ]
          have HY := Lib.hid hYe
          have hu : IntKind.u64.wrap ((Y : Int) / 2) = (Y : Int) / 2 := IntWalk.u64_in _ (by omega)
          clear hZ hY hYb hYe
          by_cases hlt : b.toNat < 128
          · have t8 : decide ((b.toNat : Int) < 128) = true := by simp; omega
            have lx := acc_last (l := l) HX.out.2.2 HB.out HV.out hlt
            rw [← HY.out] at lx
            have HL := Lib.hid lx.1
            clear lx hlt
            by_cases hpar : Y % 2 = 1
            · have t9 : ((Y : Int) % 2 == 1) = true := by simp; omega
              have HP := Lib.hid hpar
              clear hpar
              go_wp2_with fail
              go_quiet (fail)
              go_wp2_with fail
              go_quiet (fail)
              go_wp2_with fail
              go_ret
              refine ⟨only_set (only_drewN hgk _) _ _, ?_, ?_⟩
              · rw [numS, HL.out, ← unzig_odd HYb.out HP.out]
                first | rfl | (simp; done)
              · rw [numS, HL.out]
                exact drd_some (x := (q : Int) + 1) (by simpa using (hbk.drewN _).set_ 1 (.int .i64 ((q : Int) + 1))) Hn.out (by have := Hk.out; omega)
            · have t9 : ((Y : Int) % 2 == 1) = false := by simp; omega
              have HP := Lib.hid hpar
              clear hpar
              go_wp2_with fail
              go_quiet (fail)
              go_wp2_with fail
              go_quiet (fail)
              go_wp2_with fail
              go_ret
              refine ⟨only_set (only_drewN hgk _) _ _, ?_, ?_⟩
              · rw [numS, HL.out, ← unzig_even HYb.out HP.out]
                first | rfl | (simp; done)
              · rw [numS, HL.out]
                exact drd_some (x := (q : Int) + 1) (by simpa using (hbk.drewN _).set_ 1 (.int .i64 ((q : Int) + 1))) Hn.out (by have := Hk.out; omega)
          · omega
        · have t3 : ((k : Int) == 9) = false := by simp; omega
          by_cases h0 : k = 0
          · subst h0
            obtain ⟨Z, hZ⟩ : ∃ Z, Z = 128 ^ 0 * (b.toNat % 128) := ⟨_, rfl⟩
            obtain ⟨Y, hY⟩ : ∃ Y, Y = X + Z := ⟨_, rfl⟩
            obtain ⟨m1, m2⟩ := acc_mul HX.out.2.1 hk (vbad_not HV.out).2.1 hZ hY
            have hYb : Y < 18446744073709551616 := by rw [hY, hZ]; exact acc_bd HX.out.2.1 hk (vbad_not HV.out).2.1
            have HYb := Lib.hid hYb
            have hYe : Y = X + 128 ^ 0 * (b.toNat % 128) := by rw [hY, hZ]
            have HY := Lib.hid hYe
            have hu : IntKind.u64.wrap ((Y : Int) / 2) = (Y : Int) / 2 := IntWalk.u64_in _ (by omega)
            clear hZ hY hYb hYe
            by_cases hlt : b.toNat < 128
            · have t8 : decide ((b.toNat : Int) < 128) = true := by simp; omega
              have lx := acc_last (l := l) HX.out.2.2 HB.out HV.out hlt
              rw [← HY.out] at lx
              have HL := Lib.hid lx.1
              clear lx hlt
              by_cases hpar : Y % 2 = 1
              · have t9 : ((Y : Int) % 2 == 1) = true := by simp; omega
                have HP := Lib.hid hpar
                clear hpar
                go_wp2_with fail
                go_quiet (fail)
                go_wp2_with fail
                go_quiet (fail)
                go_wp2_with fail
                go_ret
                refine ⟨only_set (only_drewN hgk _) _ _, ?_, ?_⟩
                · rw [numS, HL.out, ← unzig_odd HYb.out HP.out]
                  first | rfl | (simp; done)
                · rw [numS, HL.out]
                  exact drd_some (x := (q : Int) + 1) (by simpa using (hbk.drewN _).set_ 1 (.int .i64 ((q : Int) + 1))) Hn.out (by have := Hk.out; omega)
              · have t9 : ((Y : Int) % 2 == 1) = false := by simp; omega
                have HP := Lib.hid hpar
                clear hpar
                go_wp2_with fail
                go_quiet (fail)
                go_wp2_with fail
                go_quiet (fail)
                go_wp2_with fail
                go_ret
                refine ⟨only_set (only_drewN hgk _) _ _, ?_, ?_⟩
                · rw [numS, HL.out, ← unzig_even HYb.out HP.out]
                  first | rfl | (simp; done)
                · rw [numS, HL.out]
                  exact drd_some (x := (q : Int) + 1) (by simpa using (hbk.drewN _).set_ 1 (.int .i64 ((q : Int) + 1))) Hn.out (by have := Hk.out; omega)
            · have t8 : decide ((b.toNat : Int) < 128) = false := by simp; omega
              have hk8 : 0 ≤ 8 := by
                have := (vbad_not HV.out).2.1
                omega
              have m3 := byN_next hk8
              have nx := acc_next (l := l) Hk.out HX.out.2.1 HX.out.2.2 HB.out HV.out (by omega)
              rw [← HY.out] at nx
              have HNX := Lib.hid nx
              clear nx
              go_wp2_with fail
              go_quiet (fail)
              go_wp2_with fail
              go_quiet (fail)
              go_wp2_with fail
              refine ⟨⟨0 + 1, Y, q + 1, by omega, by omega, rfl, by go_num, rfl, rfl, ?_, ?_, HNX.out.2⟩, by first | (simp [intOf]; done) | (simp [intOf]; omega)⟩
              · simpa using (hbk.drewN _).set_ 1 (.int .i64 ((q : Int) + 1))
              · exact only_set (only_drewN hgk _) _ _
          · have h0k : 0 < k := by omega
            have hb3 := (vbad_not HV.out).2.2 h0k
            have t5 : decide (0 < (k : Int)) = true := by simp; omega
            have t6 : ((b.toNat : Int) == 0) = false := by simp; omega
            clear h0 h9
            obtain ⟨Z, hZ⟩ : ∃ Z, Z = 128 ^ k * (b.toNat % 128) := ⟨_, rfl⟩
            obtain ⟨Y, hY⟩ : ∃ Y, Y = X + Z := ⟨_, rfl⟩
            obtain ⟨m1, m2⟩ := acc_mul HX.out.2.1 hk (vbad_not HV.out).2.1 hZ hY
            have hYb : Y < 18446744073709551616 := by rw [hY, hZ]; exact acc_bd HX.out.2.1 hk (vbad_not HV.out).2.1
            have HYb := Lib.hid hYb
            have hYe : Y = X + 128 ^ k * (b.toNat % 128) := by rw [hY, hZ]
            have HY := Lib.hid hYe
            have hu : IntKind.u64.wrap ((Y : Int) / 2) = (Y : Int) / 2 := IntWalk.u64_in _ (by omega)
            clear hZ hY hYb hYe
            by_cases hlt : b.toNat < 128
            · have t8 : decide ((b.toNat : Int) < 128) = true := by simp; omega
              have lx := acc_last (l := l) HX.out.2.2 HB.out HV.out hlt
              rw [← HY.out] at lx
              have HL := Lib.hid lx.1
              clear lx hlt
              by_cases hpar : Y % 2 = 1
              · have t9 : ((Y : Int) % 2 == 1) = true := by simp; omega
                have HP := Lib.hid hpar
                clear hpar
                go_wp2_with fail
                go_quiet (fail)
                go_wp2_with fail
                go_quiet (fail)
                go_wp2_with fail
                go_ret
                refine ⟨only_set (only_drewN hgk _) _ _, ?_, ?_⟩
                · rw [numS, HL.out, ← unzig_odd HYb.out HP.out]
                  first | rfl | (simp; done)
                · rw [numS, HL.out]
                  exact drd_some (x := (q : Int) + 1) (by simpa using (hbk.drewN _).set_ 1 (.int .i64 ((q : Int) + 1))) Hn.out (by have := Hk.out; omega)
              · have t9 : ((Y : Int) % 2 == 1) = false := by simp; omega
                have HP := Lib.hid hpar
                clear hpar
                go_wp2_with fail
                go_quiet (fail)
                go_wp2_with fail
                go_quiet (fail)
                go_wp2_with fail
                go_ret
                refine ⟨only_set (only_drewN hgk _) _ _, ?_, ?_⟩
                · rw [numS, HL.out, ← unzig_even HYb.out HP.out]
                  first | rfl | (simp; done)
                · rw [numS, HL.out]
                  exact drd_some (x := (q : Int) + 1) (by simpa using (hbk.drewN _).set_ 1 (.int .i64 ((q : Int) + 1))) Hn.out (by have := Hk.out; omega)
            · have t8 : decide ((b.toNat : Int) < 128) = false := by simp; omega
              have hk8 : k ≤ 8 := by
                have := (vbad_not HV.out).2.1
                omega
              have m3 := byN_next hk8
              have nx := acc_next (l := l) Hk.out HX.out.2.1 HX.out.2.2 HB.out HV.out (by omega)
              rw [← HY.out] at nx
              have HNX := Lib.hid nx
              clear nx
              go_wp2_with fail
              go_quiet (fail)
              go_wp2_with fail
              go_quiet (fail)
              go_wp2_with fail
              refine ⟨⟨k + 1, Y, q + 1, by omega, by omega, rfl, by go_num, rfl, rfl, ?_, ?_, HNX.out.2⟩, by first | (simp [intOf]; done) | (simp [intOf]; omega)⟩
              · simpa using (hbk.drewN _).set_ 1 (.int .i64 ((q : Int) + 1))
              · exact only_set (only_drewN hgk _) _ _
    · have t1 : decide (n ≤ q) = true := by simp; omega
      have HN : Hid (vrd k (l.drop q) = none) := vrd_end (List.drop_eq_nil_of_le (by omega))
      have Hk := Lib.hid hq0
      clear hq0 hlen
      go_wp2_with fail
      go_quiet (fail)
      go_wp2_with fail
      go_ret
      have hx := HX.out.2.2
      have hz : rdNum (l.drop a0) = none := by rw [rdNum, hx, HN.out]; rfl
      refine ⟨only_set (only_drewN hgk _) _ _, by rw [numS, hz]; rfl, ?_⟩
      rw [numS, hz]
      exact ⟨q, by have := Hn.out; omega, by rw [← Hn.out]; simpa using (hbk.drewN _).set_ 2 (.bool true)⟩
end Go.Proofs.YtcfijljagohmlaaGreatDoor
