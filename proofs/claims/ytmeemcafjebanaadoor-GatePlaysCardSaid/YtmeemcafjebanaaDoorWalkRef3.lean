/- The walk of the reference's gate: Bound. -/
import Derived.Test.YtmeemcafjebanaaDoorWalkRef2
import Derived.StillTailTactics
namespace Go.Proofs.YtmeemcafjebanaaDoor
open Go.RowKit


set_option maxRecDepth 100000 in
set_option maxHeartbeats 8000000 in
theorem rbound_any (w : World) (Z : Nat → Prop) (G : Nat) (s : Gat) (h : RefAt w Z G s) :
    Calls Tryd.prog 13 #[.pointer (some ⟨G, 0, none⟩)] w fun e w' => e = .returned (.tuple #[.int .i64 (boundId s), .bool (closedG s)]) ∧ RefAt w' Z G (boundG s) ∧ Keeps Z w w' := by
  have HB := Lib.hid (fun (k : Nat) (hk : k < s.n) => rblocked_any w Z G s k h hk)
  obtain ⟨gw, gl, sl, hI⟩ := h
  have c0 := hI.c0
  have h64 := hI.ok.most
  obtain ⟨n, hn⟩ : ∃ n, n = s.n := ⟨_, rfl⟩
  rw [← hn] at c0 h64
  have Hn := Lib.hid hn
  clear hn
  go_enter Tryd.func13, Tryd.ntmps13
  go_wp2_with fail
  go_loopw [4, 5] (fun x i wr => ∃ k : Nat, ∃ id : Int, k ≤ n ∧ i = .int .i64 k ∧ x = .int .i64 id ∧ Hid (leastB id (s.waits.drop k) = leastB 0 s.waits) ∧ Hid (∀ j, j < k → barred (s.at_ j) = true) ∧ w = wr) (fun _ i _ => n - (intOf i).toNat)
  case atStart => exact ⟨0, 0, Nat.zero_le _, rfl, rfl, Lib.hid rfl, Lib.hid (fun j hj => by omega), rfl⟩
  case round =>
    obtain ⟨k, id, hk, rfl, rfl, HA, HD, rfl⟩ := hrel
    by_cases hlt : k < n
    · have hbk := HB.out k (by have := Hn.out; omega)
      rcases hbb : barred (s.at_ k)
      · rw [hbb] at hbk
        have HBK := Lib.hid hbk
        have hcl := closedG_false (s := s) (by have := Hn.out; omega) hbb
        have e1 : boundId s = 0 := by simp [boundId, hcl]
        have e2 : boundG s = s := by simp [boundG, hcl]
        have E1 := Lib.hid e1
        have E2 := Lib.hid e2
        have HCL := Lib.hid hcl
        clear hbk hbb hcl e1 e2
        go_wp2_with (first | (go_at_call 14; refine HBK.out.mono ?_; rintro e w1 ⟨rfl, rfl⟩))
        go_ret2
        rw [E1.out, E2.out, HCL.out]
        exact ⟨rfl, ⟨gw, gl, sl, hI⟩, Keeps.refl _ _⟩
      · rw [hbb] at hbk
        have HBK := Lib.hid hbk
        have HD2 : Hid (∀ j, j < k + 1 → barred (s.at_ j) = true) := Lib.hid (fun j hj => by
          by_cases hjk : j = k
          · subst hjk; exact hbb
          · exact HD.out j (by omega))
        obtain ⟨A, c, hs, cw, hlc, hcm, hr⟩ := hI.wait (i := k) (by have := Hn.out; omega)
        have HA2 := HA.out.symm.trans (leastB_step (by have := Hn.out; omega) id)
        have hlen := hI.ok.len k
        rcases hx : s.at_ k with _ | ⟨x, r⟩
        · rw [hx] at hbb; cases hbb
        rw [hx] at cw hr HA2 hlen
        obtain ⟨ad, x', r', rfl, e, g0, g1, g2, g3⟩ := hr.itm0 rfl (by simp)
        injection e with e3 e4
        subst e3 e4
        obtain ⟨m, hm⟩ : ∃ m, m = (x :: r).length := ⟨_, rfl⟩
        have hm0 : 0 < m := by rw [hm]; simp
        rw [← hm] at cw hlen
        clear hm hs hlc hcm hr g0 g1 g2 hx hbb hbk
        change leastB 0 s.waits = leastB (if id = 0 ∨ x.bar < id then x.bar else id) _ at HA2
        by_cases hid0 : id = 0
        · rw [if_pos (.inl hid0)] at HA2
          have HA3 := Lib.hid HA2.symm
          clear HA2
          subst hid0
          go_wp2_with (first | (go_at_call 14; refine HBK.out.mono ?_; rintro e w1 ⟨rfl, rfl⟩))
          go_roundw
          case rel => exact ⟨k + 1, x.bar, by omega, by go_num, rfl, HA3, HD2, trivial⟩
          case measure => simp [intOf]; omega
        · by_cases hlt2 : x.bar < id
          · rw [if_pos (.inr hlt2)] at HA2
            have t1 : decide (id = 0) = false := by simpa using hid0
            have t2 : decide (x.bar < id) = true := by simpa using hlt2
            have HA3 := Lib.hid HA2.symm
            clear HA2
            go_wp2_with (first | (go_at_call 14; refine HBK.out.mono ?_; rintro e w1 ⟨rfl, rfl⟩))
            go_roundw
            case rel => exact ⟨k + 1, x.bar, by omega, by go_num, rfl, HA3, HD2, trivial⟩
            case measure => simp [intOf]; omega
          · rw [if_neg (by omega)] at HA2
            have t1 : decide (id = 0) = false := by simpa using hid0
            have t2 : decide (x.bar < id) = false := by simpa using hlt2
            have HA3 := Lib.hid HA2.symm
            clear HA2
            go_wp2_with (first | (go_at_call 14; refine HBK.out.mono ?_; rintro e w1 ⟨rfl, rfl⟩))
            go_roundw
            case rel => exact ⟨k + 1, id, by omega, by go_num, rfl, HA3, HD2, trivial⟩
            case measure => simp [intOf]; omega
    · have hcl := closedG_true (s := s) (fun j hj => HD.out j (by have := Hn.out; omega))
      have hidB : id = boundId s := by
        have e := HA.out
        rw [List.drop_eq_nil_of_le (by have := Hn.out; unfold Gat.n at this; omega)] at e
        rw [boundId, if_pos hcl]; exact e
      have E2 : Hid (boundG s = cutTo s id s.n) := Lib.hid (by rw [cutTo_all, boundG, if_pos hcl, hidB])
      have E1 := Lib.hid hidB
      have HCL := Lib.hid hcl
      have h0 : RefAt w Z G (cutTo s id 0) := by rw [cutTo_zero]; exact ⟨gw, gl, sl, hI⟩
      clear hidB hcl HA HD
      go_wp2_with fail
      clear hI c0
      go_loopw [7] (fun i wr => ∃ k : Nat, k ≤ n ∧ i = .int .i64 k ∧ RefAt wr Z G (cutTo s id k) ∧ Keeps Z w wr) (fun i _ => n - (intOf i).toNat)
      case atStart => exact ⟨0, Nat.zero_le _, rfl, h0, Keeps.refl _ _⟩
      case round =>
        clear h0
        obtain ⟨k, hk, rfl, hG, hK⟩ := hrel
        have hG' := hG
        obtain ⟨gw, gl, sl, hI⟩ := hG'
        have c0 := hI.c0
        rw [cutTo_n, ← Hn.out] at c0
        by_cases hlt : k < n
        · have hks : k < s.n := by have := Hn.out; omega
          obtain ⟨x, r, hx, hpos⟩ := closedG_at HCL.out hks
          have hxc : (cutTo s id k).at_ k = x :: r := (cutTo_at hks).trans hx
          have hnc : k < (cutTo s id k).n := by rw [cutTo_n]; exact hks
          have hst := cutTo_succ (id := id) hks
          rw [hx] at hst
          change cutTo s id (k + 1) = if x.bar = id then _ else _ at hst
          obtain ⟨A, c, hs, cw, hlc, hcm, hr⟩ := hI.wait (i := k) hnc
          have hlen := hI.ok.len k
          rw [hxc] at cw hr hlen hs hlc
          obtain ⟨ad, x', r', rfl, e, g0, g1, g2, g3⟩ := hr.itm0 rfl (by simp)
          injection e with e3 e4
          subst e3 e4
          obtain ⟨q, hq⟩ : ∃ q, q = r.length := ⟨_, rfl⟩
          rw [List.length_cons, ← hq] at cw hlen hlc hr hs
          have Hq := Lib.hid hq
          clear hq hx g0 g1 g2
          by_cases hid0 : x.bar = id
          · rw [if_pos hid0] at hst
            have hst2 : cutTo s id (k + 1) = (cutTo s id k).put k r := by rw [hst, takeG, hxc]; rfl
            have HS := Lib.hid hst2
            have HI := Lib.hid hid0
            clear hst hst2
            rw [hid0] at g3
            clear hid0
            go_wp2_with fail
            have hcut := hr.cut (k := 1) (cap := c) (by omega) hlc
            rw [show (itmCells (x :: r)).drop (1 * 4) = itmCells r from rfl, Nat.add_sub_cancel] at hcut
            have fw := hI.ws.frozen k
            have hmem := List.mem_of_getElem? hs
            have hown : (¬ Z ad.block ∧ ad.block ≠ G ∧ ad.block ≠ gw ∧ ad.block ≠ gl) ∧ ad.block < wr.heap.size :=
              ⟨⟨hI.zz _ (.inr (.inr (.inr ⟨_, hmem, rfl⟩))), hI.dr _ hmem _ rfl⟩, hI.lt _ (.inr (.inr (.inr ⟨_, hmem, rfl⟩)))⟩
            by_cases hc1 : c = 1
            · have hq0 : q = 0 := by omega
              rw [if_pos hc1] at hcut
              subst hq0 hc1
              go_still_tail 13, (by kernel_rfl)
              change wpList _ _ _ _ _ wr.drew
              obtain ⟨r1, k1⟩ := hI.replace (i := k) (l := r) (v' := (.slice (some ad) 0 0)) hnc (by have := Hq.out; omega) ⟨_, _, by rw [← Hq.out], by have := Hq.out; omega, by omega, by rw [← Hq.out]; exact hcut⟩
                (fun g hg => by injection hg with hg; subst hg; exact hown)
              go_wp2_with fail
              go_roundw
              case rel => exact ⟨k + 1, by omega, by go_num, by rw [HS.out]; exact ⟨gw, gl, _, r1.drew⟩, hK.trans k1.drew⟩
              case measure => simp [intOf]; omega
            · rw [if_neg hc1] at hcut
              have hq1 : (1 : Int) ≤ (q : Int) + 1 := by omega
              go_still_tail 13, (by kernel_rfl)
              change wpList _ _ _ _ _ wr.drew
              obtain ⟨r1, k1⟩ := hI.replace (i := k) (l := r) (v' := (.slice (some ⟨ad.block, ad.off + 4, none⟩) q (c - 1))) hnc (by have := Hq.out; omega) ⟨_, _, by rw [← Hq.out], by have := Hq.out; omega, by omega, by rw [← Hq.out]; exact hcut⟩
                (fun g hg => by injection hg with hg; subst hg; exact hown)
              go_wp2_with fail
              go_roundw
              case rel => exact ⟨k + 1, by omega, by go_num, by rw [HS.out]; exact ⟨gw, gl, _, r1.drew⟩, hK.trans k1.drew⟩
              case measure => simp [intOf]; omega
          · rw [if_neg hid0] at hst
            have HS := Lib.hid hst
            clear hst
            go_wp2_with fail
            go_roundw
            case rel => exact ⟨k + 1, by omega, by go_num, by rw [HS.out]; exact hG, hK⟩
            case measure => simp [intOf]; omega
        · go_wp2_with fail
          go_ret2
          have e : k = n := by omega
          subst e
          rw [E2.out, HCL.out, ← E1.out, ← Hn.out]
          exact ⟨rfl, hG, hK⟩
end Go.Proofs.YtmeemcafjebanaaDoor
