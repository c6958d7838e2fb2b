/- The walks of Text, sum and Seal, and of the reference's. -/
import Derived.Test.YtcfijljagohmlaaGreatDoorWalkNum
namespace Go.Proofs.YtcfijljagohmlaaGreatDoor
open Go.RowKit

set_option maxRecDepth 100000 in
set_option maxHeartbeats 400000 in
theorem sum_any (A : Option Addr) (c B : Nat) (l : List UInt8) (w : World) (hr : Rd w B 1 A l.length (l.map bv)) (hl : l.length ≤ 140737488355328) :
    Calls Tryz.prog 136 #[.slice A l.length c] w fun e w' => e = .returned (.int .u32 (sumB l)) ∧ w = w' := by
  obtain ⟨n, hn⟩ : ∃ n, n = l.length := ⟨_, rfl⟩
  have Hn := Lib.hid hn
  rw [← hn] at hr hl ⊢
  clear hn
  go_enter Tryz.func136, Tryz.ntmps136
  go_wp2
  go_loop [3, 8] (fun x i => ∃ k : Nat, k ≤ n ∧ i = .int .i64 k ∧ x = .int .u32 (sumTo l k)) (fun _ i => n - (intOf i).toNat)
  case atStart => exact ⟨0, Nat.zero_le _, rfl, rfl⟩
  case round =>
    obtain ⟨k, hk, rfl, rfl⟩ := hrel
    have hb := sumTo_lt l k
    by_cases hlt : k < n
    · obtain ⟨ad, rfl, hc⟩ := hr.byte hlt
      obtain ⟨b, hb⟩ : ∃ b, b = l.getD k 0 := ⟨_, rfl⟩
      rw [← hb] at hc
      have hb1 := b.toNat_lt
      have Hb := Lib.hid hb
      clear hb
      go_wp2
      go_round
      case rel =>
        refine ⟨k + 1, by omega, by go_num, ?_⟩
        rw [sumTo, ← Hb.out]
        congr 1
        omega
      case measure => simp [intOf]; omega
    · go_wp2
      go_ret
      have e : k = n := by omega
      subst e
      rw [sumB, ← Hn.out]
      exact ⟨rfl, rfl⟩

set_option maxRecDepth 100000 in
set_option maxHeartbeats 400000 in
theorem text_any (s : ByteArray) (w : World) (hs : s.size ≤ 140737488355318) :
    Calls Tryz.prog 84 #[.string s] w fun e w' => ∃ v, e = .returned v ∧ w'.ownsRow w.heap.size 5 1 v (textB s.data.toList).length ((textB s.data.toList).map bv) ∧ Below w.heap.size w w' := by
  have hn := numB_le (s.size : Int)
  go_enter Tryz.func84, Tryz.ntmps84
  go_wp2_with (first | (go_at_call 83; refine (num_any _ _ (by omega) (by omega)).mono ?_; rintro e w1 ⟨v1, rfl, ho1, hb1⟩) | (at_builtin; refine wpList_str (.tmp 5) (.tmp 6) el_u8 Tryz.underlying9 rfl rfl ho1 rfl rfl (by omega) hb1.size ?_; intro v2 w2 ho2 hb2 hg2))
  go_ret
  refine ⟨v2, rfl, ?_, hb1.trans hb2⟩
  exact own_b ho2 (by rw [textB_str, List.map_append])

set_option maxRecDepth 100000 in
set_option maxHeartbeats 400000 in
theorem rtext_any (s : ByteArray) (w : World) (hs : s.size ≤ 140737488355318) :
    Calls Tryz.prog 40 #[.string s] w fun e w' => ∃ v, e = .returned v ∧ w'.ownsRow w.heap.size 5 1 v (textB s.data.toList).length ((textB s.data.toList).map bv) ∧ Below w.heap.size w w' := by
  have hn := numB_le (s.size : Int)
  go_enter Tryz.func40, Tryz.ntmps40
  go_wp2_with (first | (go_at_call 38; refine (rnum_any _ _ (by omega) (by omega)).mono ?_; rintro e w1 ⟨v1, rfl, ho1, hb1⟩) | (at_builtin; refine wpList_str (.tmp 7) (.tmp 8) el_u8 Tryz.underlying9 rfl rfl ho1 rfl rfl (by omega) hb1.size ?_; intro v2 w2 ho2 hb2 hg2))
  go_ret
  refine ⟨v2, rfl, ?_, hb1.trans hb2⟩
  exact own_b ho2 (by rw [textB_str, List.map_append])

set_option maxRecDepth 100000 in
set_option maxHeartbeats 400000 in
theorem seal_any (A : Option Addr) (c B : Nat) (l : List UInt8) (w : World) (hr : Rd w B 1 A l.length (l.map bv)) (hB : B ≤ w.heap.size) (hl : l.length ≤ 140737488355300) :
    Calls Tryz.prog 100 #[.slice A l.length c] w fun e w' => ∃ v, e = .returned v ∧ w'.ownsRow w.heap.size 5 1 v (sealB l).length ((sealB l).map bv) ∧ Below w.heap.size w w' := by
  have hn := numB_le (l.length : Int)
  have hs := sumTo_lt l l.length
  go_enter Tryz.func100, Tryz.ntmps100
  go_wp2_with (first | (go_at_call 136; refine (sum_any _ _ _ l _ hr (by omega)).mono ?_; rintro e w' ⟨rfl, rfl⟩) | (go_at_call 83; refine (num_any _ _ (by omega) (by omega)).mono ?_; rintro e w1 ⟨v1, rfl, ho1, hb1⟩) | (at_builtin; refine wpList_rd (.tmp 9) (.tmp 10) el_u8 rfl rfl ho1 rfl (hr.below hb1 hB) rfl (bvs_one _) (by omega) hb1.size ?_; intro v2 w2 ho2 hb2 hg2 ha2) | (at_builtin; refine wpList_new (.tmp 12) (.tmp 24) el_u8 rfl rfl ho2 rfl rfl rfl rfl (by omega) (hb1.trans hb2).size ?_; intro v3 w3 ho3 hb3 hg3 ha3))
  go_ret
  refine ⟨v3, rfl, ?_, (hb1.trans hb2).trans hb3⟩
  exact own_b ho3 (by rw [sealB_cells, sum4_cells])

end Go.Proofs.YtcfijljagohmlaaGreatDoor
