/- The walks of Text, sum and Seal, and of the reference's. -/
import Derived.Test.YtcfijljagohmlaaWalkNum
namespace Go.Proofs.Ytcfijljagohmlaa
open Go.RowKit

set_option maxRecDepth 100000 in
set_option maxHeartbeats 400000 in
theorem sum_any (A : Option Addr) (c B : Nat) (l : List UInt8) (w : World) (hr : Rd w B 1 A l.length (l.map bv)) (hl : l.length ≤ 140737488355328) :
    Calls Try.prog 43 #[.slice A l.length c] w fun e w' => e = .returned (.int .u32 (sumB l)) ∧ w = w' := by
  obtain ⟨n, hn⟩ : ∃ n, n = l.length := ⟨_, rfl⟩
  have Hn := Lib.hid hn
  rw [← hn] at hr hl ⊢
  clear hn
  go_enter Try.func43, Try.ntmps43
  go_wp2
  go_loop [3, 8] (fun x i => ∃ k : Nat, k ≤ n ∧ i = .int .i64 k ∧ x = .int .u32 (sumTo l k)) (fun _ i => n - (intOf i).toNat)
  case atStart => exact ⟨0, Nat.zero_le _, rfl, rfl⟩
  case round =>
    obtain ⟨k, hk, rfl, rfl⟩ := hrel
    have hb := sumTo_lt l k
    by_cases hlt : k < n
    · obtain ⟨ad, rfl, hc⟩ := hr.byte hlt
      obtain ⟨b, hb⟩ : ∃ b, b = l.getD k 0 := ⟨_, rfl⟩
      rw [← hb] at hc
      have hb1 := b.toNat_lt
      have Hb := Lib.hid hb
      clear hb
      go_wp2
      go_round
      case rel =>
        refine ⟨k + 1, by omega, by go_num, ?_⟩
        rw [sumTo, ← Hb.out]
        congr 1
        omega
      case measure => simp [intOf]; omega
    · go_wp2
      go_ret
      have e : k = n := by omega
      subst e
      rw [sumB, ← Hn.out]
      exact ⟨rfl, rfl⟩

set_option maxRecDepth 100000 in
set_option maxHeartbeats 400000 in
theorem text_any (s : ByteArray) (w : World) (hs : s.size ≤ 140737488355318) :
    Calls Try.prog 9 #[.string s] w fun e w' => ∃ v, e = .returned v ∧ w'.ownsRow w.heap.size 5 1 v (textB s.data.toList).length ((textB s.data.toList).map bv) ∧ Below w.heap.size w w' := by
  have hn := numB_le (s.size : Int)
  go_enter Try.func9, Try.ntmps9
  go_wp2_with (first | (go_at_call 7; refine (num_any _ _ (by omega) (by omega)).mono ?_; rintro e w1 ⟨v1, rfl, ho1, hb1⟩) | (at_builtin; refine wpList_str (.tmp 5) (.tmp 6) el_u8 Try.underlying9 rfl rfl ho1 rfl rfl (by omega) hb1.size ?_; intro v2 w2 ho2 hb2 hg2))
  go_ret
  refine ⟨v2, rfl, ?_, hb1.trans hb2⟩
  exact own_b ho2 (by rw [textB_str, List.map_append])

set_option maxRecDepth 100000 in
set_option maxHeartbeats 400000 in
theorem rtext_any (s : ByteArray) (w : World) (hs : s.size ≤ 140737488355318) :
    Calls Try.prog 10 #[.string s] w fun e w' => ∃ v, e = .returned v ∧ w'.ownsRow w.heap.size 5 1 v (textB s.data.toList).length ((textB s.data.toList).map bv) ∧ Below w.heap.size w w' := by
  have hn := numB_le (s.size : Int)
  go_enter Try.func10, Try.ntmps10
  go_wp2_with (first | (go_at_call 8; refine (rnum_any _ _ (by omega) (by omega)).mono ?_; rintro e w1 ⟨v1, rfl, ho1, hb1⟩) | (at_builtin; refine wpList_str (.tmp 7) (.tmp 8) el_u8 Try.underlying9 rfl rfl ho1 rfl rfl (by omega) hb1.size ?_; intro v2 w2 ho2 hb2 hg2))
  go_ret
  refine ⟨v2, rfl, ?_, hb1.trans hb2⟩
  exact own_b ho2 (by rw [textB_str, List.map_append])

set_option maxRecDepth 100000 in
set_option maxHeartbeats 400000 in
theorem seal_any (A : Option Addr) (c B : Nat) (l : List UInt8) (w : World) (hr : Rd w B 1 A l.length (l.map bv)) (hB : B ≤ w.heap.size) (hl : l.length ≤ 140737488355300) :
    Calls Try.prog 11 #[.slice A l.length c] w fun e w' => ∃ v, e = .returned v ∧ w'.ownsRow w.heap.size 5 1 v (sealB l).length ((sealB l).map bv) ∧ Below w.heap.size w w' := by
  have hn := numB_le (l.length : Int)
  have hs := sumTo_lt l l.length
  go_enter Try.func11, Try.ntmps11
  go_wp2_with (first | (go_at_call 43; refine (sum_any _ _ _ l _ hr (by omega)).mono ?_; rintro e w' ⟨rfl, rfl⟩) | (go_at_call 7; refine (num_any _ _ (by omega) (by omega)).mono ?_; rintro e w1 ⟨v1, rfl, ho1, hb1⟩) | (at_builtin; refine wpList_rd (.tmp 9) (.tmp 10) el_u8 rfl rfl ho1 rfl (hr.below hb1 hB) rfl (bvs_one _) (by omega) hb1.size ?_; intro v2 w2 ho2 hb2 hg2 ha2) | (at_builtin; refine wpList_new (.tmp 12) (.tmp 24) el_u8 rfl rfl ho2 rfl rfl rfl rfl (by omega) (hb1.trans hb2).size ?_; intro v3 w3 ho3 hb3 hg3 ha3))
  go_ret
  refine ⟨v3, rfl, ?_, (hb1.trans hb2).trans hb3⟩
  exact own_b ho3 (by rw [sealB_cells, sum4_cells])

set_option maxRecDepth 100000 in
set_option maxHeartbeats 1000000 in
theorem rseal_any (A : Option Addr) (c B : Nat) (l : List UInt8) (w : World) (hr : Rd w B 1 A l.length (l.map bv)) (hB : B ≤ w.heap.size) (hl : l.length ≤ 140737488355300) :
    Calls Try.prog 12 #[.slice A l.length c] w fun e w' => ∃ v, e = .returned v ∧ w'.ownsRow w.heap.size 5 1 v (sealB l).length ((sealB l).map bv) ∧ Below w.heap.size w w' := by
  have hn := numB_le (l.length : Int)
  obtain ⟨n, hnl⟩ : ∃ n, n = l.length := ⟨_, rfl⟩
  have Hn := Lib.hid hnl
  rw [← hnl] at hr hl hn ⊢
  clear hnl
  go_enter Try.func12, Try.ntmps12
  go_wp2
  go_loop [3, 4] (fun x i => ∃ k : Nat, k ≤ n ∧ i = .int .i64 k ∧ x = .int .i64 (sumTo l k)) (fun _ i => n - (intOf i).toNat)
  case atStart => exact ⟨0, Nat.zero_le _, rfl, rfl⟩
  case round =>
    obtain ⟨k, hk, rfl, rfl⟩ := hrel
    have hb := sumTo_lt l k
    by_cases hlt : k < n
    · obtain ⟨ad, rfl, hc⟩ := hr.byte hlt
      obtain ⟨b, hb⟩ : ∃ b, b = l.getD k 0 := ⟨_, rfl⟩
      rw [← hb] at hc
      have hb1 := b.toNat_lt
      have Hb := Lib.hid hb
      clear hb
      go_wp2
      go_round
      case rel =>
        refine ⟨k + 1, by omega, by go_num, ?_⟩
        rw [sumTo, ← Hb.out]
        go_num
      case measure => simp [intOf]; omega
    · have ek : sumTo l k = sumB l := by
        have : k = l.length := by have := Hn.out; omega
        rw [sumB, this]
      obtain ⟨x, hx⟩ : ∃ x, x = sumB l := ⟨_, rfl⟩
      rw [← hx] at ek
      rw [ek] at hb
      have Hx := Lib.hid hx
      have EK := Lib.hid ek
      clear ek hx
      go_wp2_with (first | (go_at_call 8; refine (rnum_any _ _ (by omega) (by omega)).mono ?_; rintro e w1 ⟨v1, rfl, ho1, hb1⟩) | (with_reducible show wpList _ _ _ (⟨some 27, _, _, _, _, _⟩ :: _) _ _; go_must (refine wpList_rd (.tmp 25) (.tmp 26) el_u8 rfl rfl ho1 rfl (hr.below hb1 hB) rfl (bvs_one _) (by omega) hb1.size ?_); intro v2 w2 ho2 hb2 hg2 ha2))
      go_loopw [3, 5, 6] (fun y v j wr => ∃ q : Nat, ∃ z : Nat, q ≤ 4 ∧ j = .int .i64 q ∧ y = .int .i64 z ∧ Hid (z = x / 256 ^ q) ∧ z < 4294967296 ∧
        wr.ownsRow w.heap.size 5 1 v ((numB n).length + n + q) ((numB n).map bv ++ l.map bv ++ ((sum4 x).take q).map bv) ∧ Below w.heap.size w wr) (fun _ _ j _ => 4 - (intOf j).toNat)
      case atStart => exact ⟨0, x, by omega, rfl, by rw [EK.out], by simp [Hid], hb, by simpa using ho2, hb1.trans hb2⟩
      case round =>
        obtain ⟨q, z, hq, rfl, rfl, Hz, hz, hown, hbel⟩ := hrel
        have hbs := hbel.size
        by_cases hlt : q < 4
        · go_wp2_with (with_reducible show wpList _ _ _ (⟨some 37, _, _, _, _, _⟩ :: _) _ _; go_must (refine wpList_new (.tmp 32) (.tmp 36) el_u8 rfl rfl hown rfl rfl rfl rfl (by omega) hbs ?_); intro v3 w3 ho3 hb3 hg3 ha3)
          go_roundw
          case rel =>
            refine ⟨q + 1, z / 256, by omega, by go_num, by go_num, ?_, by omega, ?_, hbel.trans hb3⟩
            · have := Hz.out
              show z / 256 = x / 256 ^ (q + 1)
              rw [this, Nat.div_div_eq_div_mul, Nat.pow_succ]
            · rw [sum4_step hlt Hz.out, ← List.append_assoc]
              exact ho3
          case measure => simp [intOf]; omega
        · go_wp2
          go_ret
          have e : q = 4 := by omega
          subst e
          refine ⟨_, rfl, own_b hown ?_, hbel⟩
          rw [sealB_cells, ← Hn.out, ← Hx.out]
          rfl
end Go.Proofs.Ytcfijljagohmlaa
