/- The walks of the two functions that write a number as bytes. -/
import Derived.Test.YtcfijljagohmlaaGreatDoorProg
import Derived.Test.YtcfijljagohmlaaGreatDoorPlainFrame
namespace Go.Proofs.YtcfijljagohmlaaGreatDoor
open Go.RowKit

theorem el_u8 : Elt Tryz.prog 23 5 (.int .u8 0) 1 1 := ⟨Tryz.underlying23, by kernel_rfl, rfl, by omega, by omega⟩

set_option maxRecDepth 100000 in
set_option maxHeartbeats 400000 in
theorem num_any (n : Int) (w : World) (h0 : -9223372036854775808 ≤ n) (h1 : n ≤ 9223372036854775807) :
    Calls Tryz.prog 83 #[.int .i64 n] w fun e w' => ∃ v, e = .returned v ∧ w'.ownsRow w.heap.size 5 1 v (numB n).length ((numB n).map bv) ∧ Below w.heap.size w w' := by
  have hz : zig n < 18446744073709551616 := zig_lt n h0 h1
  have hx := Lib.hid (zig_xor n h0 h1)
  have hB := Lib.hid (numB_eq n)
  obtain ⟨z, hzz⟩ : ∃ z, z = zig n := ⟨_, rfl⟩
  rw [← hzz] at hz
  have Hz := Lib.hid hz
  clear hz
  have HZ := Lib.hid hzz
  clear hzz
  go_enter Tryz.func83, Tryz.ntmps83
  go_wp2
  go_loopw [2, 3] (fun v x wr => ∃ k : Nat, ∃ y : Nat, Hid (z < 18446744073709551616 ∧ y = z / 128 ^ k ∧ ∀ j, j < k → 128 ≤ z / 128 ^ j) ∧ k ≤ 9 ∧ x = .int .u64 y ∧
      wr.ownsRow w.heap.size 5 1 v k ((vbTo z k).map bv) ∧ Below w.heap.size w wr) (fun _ x _ => (intOf x).toNat)
  case atStart => exact ⟨0, z, ⟨Hz.out, by simp, by simp⟩, by omega, by rw [hx.out, HZ.out], World.ownsRow_nil _ _ _ _, Below.refl _ _⟩
  case round =>
    obtain ⟨k, y, Hy, hk, rfl, hown, hbel⟩ := hrel
    have hbs := hbel.size
    by_cases hlt : 128 ≤ y
    · go_wp2_with (at_builtin; refine wpList_new (.tmp 13) (.tmp 17) el_u8 rfl rfl hown rfl rfl rfl rfl (by omega) hbs ?_; intro v1 w1 ho1 hb1 hg1 ha1)
      obtain ⟨q1, q2, q3⟩ := Hy.out
      have hm := vb_more q1 q2 hk q3 hlt
      go_roundw
      case rel => exact ⟨k + 1, y / 128, ⟨q1, hm.2⟩, hm.1, by go_num, by rw [← vb_step q2]; exact ho1, hbel.trans hb1⟩
      case measure => simp [intOf]; omega
    · go_wp2_with (at_builtin; refine wpList_new (.tmp 21) (.tmp 24) el_u8 rfl rfl hown rfl rfl rfl rfl (by omega) hbs ?_; intro v1 w1 ho1 hb1 hg1 ha1)
      go_ret
      obtain ⟨q1, q2, q3⟩ := Hy.out
      have e := vb_last q2 hk q3 (by omega)
      rw [e] at ho1
      have e2 : k + 1 = (vb 10 z).length := by simpa using ho1.1.symm
      rw [e2, HZ.out] at ho1
      exact ⟨v1, rfl, ho1, hbel.trans hb1⟩

set_option maxRecDepth 100000 in
set_option maxHeartbeats 400000 in
theorem rnum_any (n : Int) (w : World) (h0 : -9223372036854775808 ≤ n) (h1 : n ≤ 9223372036854775807) :
    Calls Tryz.prog 38 #[.int .i64 n] w fun e w' => ∃ v, e = .returned v ∧ w'.ownsRow w.heap.size 5 1 v (numB n).length ((numB n).map bv) ∧ Below w.heap.size w w' := by
  have hz : zig n < 18446744073709551616 := zig_lt n h0 h1
  obtain ⟨z, hzz⟩ : ∃ z, z = zig n := ⟨_, rfl⟩
  rw [← hzz] at hz
  have HZ := Lib.hid hzz
  clear hzz
  have Hz := Lib.hid hz
  clear hz
  by_cases hn : n < 0
  all_goals
    go_enter Tryz.func38, Tryz.ntmps38
    go_wp2
    go_loopw [3, 4] (fun x v wr => ∃ k : Nat, ∃ y : Nat, Hid (z < 18446744073709551616 ∧ y = z / 128 ^ k ∧ ∀ j, j < k → 128 ≤ z / 128 ^ j) ∧ k ≤ 9 ∧ x = .int .u64 y ∧
        wr.ownsRow w.heap.size 5 1 v k ((vbTo z k).map bv) ∧ Below w.heap.size w wr) (fun x _ _ => (intOf x).toNat)
    case atStart => exact ⟨0, z, ⟨Hz.out, by simp, by simp⟩, by omega, by rw [HZ.out]; unfold zig; first | (rw [if_pos hn]; go_num) | (rw [if_neg (by omega)]; go_num), World.ownsRow_nil _ _ _ _, Below.refl _ _⟩
    case round =>
      obtain ⟨k, y, Hy, hk, rfl, hown, hbel⟩ := hrel
      have hbs := hbel.size
      by_cases hlt : 128 ≤ y
      · go_wp2_with (at_builtin; refine wpList_new (.tmp 18) (.tmp 23) el_u8 rfl rfl hown rfl rfl rfl rfl (by omega) hbs ?_; intro v1 w1 ho1 hb1 hg1 ha1)
        obtain ⟨q1, q2, q3⟩ := Hy.out
        have hm := vb_more q1 q2 hk q3 hlt
        have hyz : y ≤ z := by rw [q2]; exact Nat.div_le_self _ _
        rw [IntWalk.u64_in ((y : Int) / 128) (by omega)]
        refine ⟨⟨k + 1, y / 128, ⟨q1, hm.2⟩, hm.1, by go_num, ?_, hbel.trans hb1⟩, by simp [intOf]; omega⟩
        rw [← vb_step2 q2]; exact ho1
      · go_wp2_with (at_builtin; refine wpList_new (.tmp 27) (.tmp 30) el_u8 rfl rfl hown rfl rfl rfl rfl (by omega) hbs ?_; intro v1 w1 ho1 hb1 hg1 ha1)
        go_ret
        obtain ⟨q1, q2, q3⟩ := Hy.out
        have e := vb_last q2 hk q3 (by omega)
        rw [e] at ho1
        have e2 : k + 1 = (vb 10 z).length := by simpa using ho1.1.symm
        rw [e2, HZ.out] at ho1
        exact ⟨v1, rfl, ho1, hbel.trans hb1⟩
end Go.Proofs.YtcfijljagohmlaaGreatDoor
