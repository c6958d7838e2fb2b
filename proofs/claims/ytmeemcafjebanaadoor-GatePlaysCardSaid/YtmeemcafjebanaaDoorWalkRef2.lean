/- The walks of the reference's gate: Take, Bound. -/
import Derived.Test.YtmeemcafjebanaaDoorWalkRef
import Derived.Test.YtmeemcafjebanaaDoorWalkNext
import Derived.StillTailTactics
namespace Go.Proofs.YtmeemcafjebanaaDoor
open Go.RowKit

set_option maxRecDepth 100000 in
set_option maxHeartbeats 8000000 in
theorem rtake_any (w : World) (Z : Nat → Prop) (G : Nat) (s : Gat) (h : RefAt w Z G s) (hZ : ∀ k, Z k → k < w.heap.size) :
    Calls Tryd.prog 11 #[.pointer (some ⟨G, 0, none⟩)] w fun e w' => e = .returned (.tuple #[(nextR s).1.rec_, .int .i64 (nextR s).2.1, .bool (nextR s).2.2]) ∧ RefAt w' Z G (nextG s) ∧ Keeps Z w w' := by
  obtain ⟨gw, gl, sl, hI0⟩ := h
  have hI := (hI0.zone (Y := fun j => Z j ∨ j = w.heap.size) (fun b hb h => h.elim (hI0.zz b hb) fun h => by have := hI0.lt b hb; omega)).alloc (.cells #[.string ⟨#[]⟩, .int .i64 0, .int .i64 0] 36)
  have hK := (Keeps.refl Z w).alloc hZ (.cells #[.string ⟨#[]⟩, .int .i64 0, .int .i64 0] 36)
  have hbx := Blk.new w 36 #[.string ⟨#[]⟩, .int .i64 0, .int .i64 0]
  have hzn : ¬ Z w.heap.size := fun h => by have := hZ _ h; omega
  have hZa : ∀ j, (Z j ∨ j = w.heap.size) → j < (w.alloc (.cells #[.string ⟨#[]⟩, .int .i64 0, .int .i64 0] 36)).heap.size := fun j hj => by
    rcases hj with hj | hj
    · have := hZ j hj; simp; omega
    · simp; omega
  have c0 := hI.c0
  have c2 := hI.c2
  have h64 := hI.ok.most
  have hp := hI.ok.pos
  have hx := hI.ok.next
  obtain ⟨n, hn⟩ : ∃ n, n = s.n := ⟨_, rfl⟩
  rw [← hn] at c0 h64 hp hx
  have Hn := Lib.hid hn
  clear hn
  obtain ⟨N, hN⟩ : ∃ N, N = s.next := ⟨_, rfl⟩
  rw [← hN] at c2 hx
  have HN := Lib.hid hN
  clear hN
  go_enter Tryd.func11, Tryd.ntmps11
  go_wp2_with fail
  generalize w.alloc (.cells #[.string ⟨#[]⟩, .int .i64 0, .int .i64 0] 36) = wa at *
  go_loopw [6] (fun i wr => ∃ k : Nat, k ≤ n ∧ i = .int .i64 k ∧ Hid (nextFrom s (s.n - k) k = nextI s) ∧ RefIn wr (fun j => Z j ∨ j = w.heap.size) G gw gl sl s ∧ Keeps (fun j => Z j ∨ j = w.heap.size) wa wr ∧ Blk wr w.heap.size 36 #[.string ⟨#[]⟩, .int .i64 0, .int .i64 0]) (fun i _ => n - (intOf i).toNat)
  case atStart => exact ⟨0, Nat.zero_le _, rfl, Lib.hid rfl, hI, Keeps.refl _ _, hbx⟩
  case round =>
    clear c0 c2 hI hbx
    obtain ⟨k, hk, rfl, HA, hI, hK2, hbx⟩ := hrel
    have c0 := hI.c0
    have c2 := hI.c2
    rw [← Hn.out] at c0
    rw [← HN.out] at c2
    by_cases hlt : k < n
    · obtain ⟨ht1, ht2⟩ := nextI_go HA.out (by have := Hn.out; omega)
      obtain ⟨i, hi⟩ : ∃ i, i = (N + k) % n := ⟨_, rfl⟩
      have hti : s.turn k = i := by rw [Gat.turn, hi, ← HN.out, ← Hn.out]
      rw [hti] at ht1 ht2
      have hin : i < n := by rw [hi]; exact Nat.mod_lt _ hp
      have hrem : Int.tmod ((N : Int) + (k : Int)) (n : Int) = (i : Int) := by rw [hi, ← Int.natCast_add, ← Int.ofNat_tmod]
      have hwr : IntKind.i64.wrap ((N : Int) + (k : Int)) = (N : Int) + (k : Int) := IntWalk.i64_in _ (by omega)
      have hwi : IntKind.i64.wrap (i : Int) = (i : Int) := IntWalk.i64_in _ (by omega)
      have hn0 : ¬ ((n : Int) = 0) := by omega
      obtain ⟨A, c, hs, cw, hlc, hcm, hr⟩ := hI.wait (i := i) (by have := Hn.out; omega)
      have hlen := hI.ok.len i
      have H1 := Lib.hid ht1
      have H2 := Lib.hid ht2
      clear ht1 ht2 hi hti
      have hbl := rblocked_any wr _ G s i ⟨gw, gl, sl, hI⟩ (by have := Hn.out; omega)
      rcases hl : s.at_ i with _ | ⟨x, r⟩
      · rw [hl] at cw hbl
        simp only [List.length_nil] at cw
        have HBL := Lib.hid hbl
        have H3 := Lib.hid (H2.out (by rw [hl]; rfl))
        clear hl hs hlc hcm hbl hr
        go_wp2_with (first | (go_at_call 14; refine HBL.out.mono ?_; rintro e w1 ⟨rfl, rfl⟩))
        go_roundw
        case rel => exact ⟨k + 1, by omega, by go_num, H3, hI, hK2, hbx⟩
        case measure => simp [intOf]; omega
      · have hrb := ready_bar_of (l := s.at_ i) (by rw [hl]; simp)
        rw [hl] at cw hr hlen hlc hs
        obtain ⟨ad, x', r', rfl, e, g0, g1, g2, g3⟩ := hr.itm0 rfl (by simp)
        injection e with e1 e2
        subst e1 e2
        obtain ⟨q, hq⟩ : ∃ q, q = r.length := ⟨_, rfl⟩
        rw [List.length_cons, ← hq] at cw hlen hlc hr hs
        have Hq := Lib.hid hq
        have HL := Lib.hid hl
        clear hl hq
        rcases hbb : barred (s.at_ i)
        · rw [hbb] at hbl hrb
          have HBL := Lib.hid hbl
          have HR := Lib.hid (H1.out hrb)
          clear hbl hrb hbb
          go_wp2_with (first | (go_at_call 14; refine HBL.out.mono ?_; rintro e w1 ⟨rfl, rfl⟩))
          have hI2 := (hI.zone (Y := fun j => (Z j ∨ j = w.heap.size) ∨ j = wr.heap.size) (fun b hb h => h.elim (hI.zz b hb) fun h => by have := hI.lt b hb; omega)).alloc (.cells #[.string x.key, .int .i64 x.num, .int .i64 x.time] 36)
          have hbxW := hbx.alloc (.cells #[.string x.key, .int .i64 x.num, .int .i64 x.time] 36)
          have hb9 := Blk.new wr 36 #[.string x.key, .int .i64 x.num, .int .i64 x.time]
          have hrW := (hr.alloc (Nat.le_refl _) (.cells #[.string x.key, .int .i64 x.num, .int .i64 x.time] 36)).more (B' := (wr.alloc (.cells #[.string x.key, .int .i64 x.num, .int .i64 x.time] 36)).heap.size) (by simp)
          have hK3 := hK2.alloc (fun j hj => by have := hZa j hj; have := hK2.size; omega) (.cells #[.string x.key, .int .i64 x.num, .int .i64 x.time] 36)
          have d0 := (World.cell?_alloc_lt wr (.cells #[.string x.key, .int .i64 x.num, .int .i64 x.time] 36) ⟨G, 0, none⟩ hI.obj.lt).trans c0
          have dw := (World.cell?_alloc_lt wr (.cells #[.string x.key, .int .i64 x.num, .int .i64 x.time] 36) ⟨gw, i, none⟩ hI.ws.lt).trans cw
          have fw := hI2.ws.frozen i
          have hwr2 : IntKind.i64.wrap ((i : Int) + 1) = (i : Int) + 1 := IntWalk.i64_in _ (by omega)
          have hmem := List.mem_of_getElem? hs
          have hown : (¬ ((Z ad.block ∨ ad.block = w.heap.size) ∨ ad.block = wr.heap.size) ∧ ad.block ≠ G ∧ ad.block ≠ gw ∧ ad.block ≠ gl) ∧ ad.block < (wr.alloc (.cells #[.string x.key, .int .i64 x.num, .int .i64 x.time] 36)).heap.size :=
            ⟨⟨hI2.zz _ (.inr (.inr (.inr ⟨_, hmem, rfl⟩))), hI2.dr _ hmem _ rfl⟩, hI2.lt _ (.inr (.inr (.inr ⟨_, hmem, rfl⟩)))⟩
          generalize wr.alloc (.cells #[.string x.key, .int .i64 x.num, .int .i64 x.time] 36) = W at *
          have hcut := hrW.cut (k := 1) (cap := c) (by omega) hlc
          rw [show (itmCells (x :: r)).drop (1 * 4) = itmCells r from rfl, Nat.add_sub_cancel] at hcut
          clear c0 c2 cw hr
          by_cases hc1 : c = 1
          · have hq0 : q = 0 := by omega
            rw [if_pos hc1] at hcut
            subst hq0 hc1
            go_still_tail 13, (by kernel_rfl)
            change wpList _ _ _ _ _ W.drew
            obtain ⟨r1, k1⟩ := hI2.replace (i := i) (l := r) (v' := (.slice (some ad) 0 0)) (by have := Hn.out; omega) (by have := Hq.out; omega) ⟨_, _, by rw [← Hq.out], by have := Hq.out; omega, by omega, by rw [← Hq.out]; exact hcut⟩
              (fun g hg => by injection hg with hg; subst hg; exact hown)
            obtain ⟨r2, k2⟩ := r1.next_ (j := (i + 1) % n) (by rw [put_n, ← Hn.out]; exact Nat.mod_lt _ hp)
            rw [show (((i + 1) % n : Nat) : Int) = ((i : Int) + 1) % (n : Int) from by rw [Int.natCast_emod, Int.natCast_add]; rfl] at r2 k2
            have k12 := k1.trans k2
            have hbx2 := k12.blk hbxW (.inl (.inr rfl))
            have hb92 := k12.blk hb9 (.inr rfl)
            have d2 := r1.c2
            have fG := r1.obj.frozen 2
            obtain ⟨o0, o1, o2⟩ : _ ∧ _ ∧ _ := ⟨hbx2.cell 0, hbx2.cell 1, hbx2.cell 2⟩
            obtain ⟨y0, y1, y2⟩ : _ ∧ _ ∧ _ := ⟨hb92.cell 0, hb92.cell 1, hb92.cell 2⟩
            simp only [List.getElem?_toArray, List.getElem?_cons_zero, List.getElem?_cons_succ] at o0 o1 o2 y0 y1 y2
            obtain ⟨f0, f1, f2⟩ : _ ∧ _ ∧ _ := ⟨hbx2.frozen 0, hbx2.frozen 1, hbx2.frozen 2⟩
            go_wp2
            have yb := ((hbx2.set_ 0 (.string x.key)).set_ 1 (.int .i64 x.num)).set_ 2 (.int .i64 x.time)
            (try simp only [Exit.inBlock, Exit.then])
            refine bodyPost_ret (results_cell_row3 rfl _ _ w.heap.size 36 _ (0, 0) _ rfl yb.drew Tryd.underlying36 rfl (by kernel_rfl)) rfl ?_
            have r3 := ((r2.set_ (p := ⟨w.heap.size, 0, none⟩) (.inl (.inr rfl)) (.string x.key)).set_ (p := ⟨w.heap.size, 1, none⟩) (.inl (.inr rfl)) (.int .i64 x.num)).set_ (p := ⟨w.heap.size, 2, none⟩) (.inl (.inr rfl)) (.int .i64 x.time)
            have r4 := ((((hK3.mono (Y := Z) fun _ h => .inl h).trans (k12.mono (Y := Z) fun _ h => .inl (.inl h))).set_ (p := ⟨w.heap.size, 0, none⟩) hzn (.string x.key)).set_ (p := ⟨w.heap.size, 1, none⟩) hzn (.int .i64 x.num)).set_ (p := ⟨w.heap.size, 2, none⟩) hzn (.int .i64 x.time)
            have e1 : nextR s = (x, i, true) := by
              rw [nextR, HR.out]
              show (headI (s.at_ i), i, true) = _
              rw [HL.out]; rfl
            have e2 : nextG s = { s.put i r with next := (i + 1) % n } := by
              rw [nextG, HR.out, ← Hn.out]
              show { s.put i (s.at_ i).tail with next := (i + 1) % n } = _
              rw [HL.out]; rfl
            rw [e1, e2]
            exact ⟨rfl, ⟨gw, gl, _, (r3.zone fun b hb h => r3.zz b hb (.inl (.inl h))).drew⟩, (hK.trans r4).drew⟩
          · rw [if_neg hc1] at hcut
            have hq1 : (1 : Int) ≤ (q : Int) + 1 := by omega
            go_still_tail 13, (by kernel_rfl)
            change wpList _ _ _ _ _ W.drew
            obtain ⟨r1, k1⟩ := hI2.replace (i := i) (l := r) (v' := (.slice (some ⟨ad.block, ad.off + 4, none⟩) q (c - 1))) (by have := Hn.out; omega) (by have := Hq.out; omega) ⟨_, _, by rw [← Hq.out], by have := Hq.out; omega, by omega, by rw [← Hq.out]; exact hcut⟩
              (fun g hg => by injection hg with hg; subst hg; exact hown)
            obtain ⟨r2, k2⟩ := r1.next_ (j := (i + 1) % n) (by rw [put_n, ← Hn.out]; exact Nat.mod_lt _ hp)
            rw [show (((i + 1) % n : Nat) : Int) = ((i : Int) + 1) % (n : Int) from by rw [Int.natCast_emod, Int.natCast_add]; rfl] at r2 k2
            have k12 := k1.trans k2
            have hbx2 := k12.blk hbxW (.inl (.inr rfl))
            have hb92 := k12.blk hb9 (.inr rfl)
            have d2 := r1.c2
            have fG := r1.obj.frozen 2
            obtain ⟨o0, o1, o2⟩ : _ ∧ _ ∧ _ := ⟨hbx2.cell 0, hbx2.cell 1, hbx2.cell 2⟩
            obtain ⟨y0, y1, y2⟩ : _ ∧ _ ∧ _ := ⟨hb92.cell 0, hb92.cell 1, hb92.cell 2⟩
            simp only [List.getElem?_toArray, List.getElem?_cons_zero, List.getElem?_cons_succ] at o0 o1 o2 y0 y1 y2
            obtain ⟨f0, f1, f2⟩ : _ ∧ _ ∧ _ := ⟨hbx2.frozen 0, hbx2.frozen 1, hbx2.frozen 2⟩
            go_wp2
            have yb := ((hbx2.set_ 0 (.string x.key)).set_ 1 (.int .i64 x.num)).set_ 2 (.int .i64 x.time)
            (try simp only [Exit.inBlock, Exit.then])
            refine bodyPost_ret (results_cell_row3 rfl _ _ w.heap.size 36 _ (0, 0) _ rfl yb.drew Tryd.underlying36 rfl (by kernel_rfl)) rfl ?_
            have r3 := ((r2.set_ (p := ⟨w.heap.size, 0, none⟩) (.inl (.inr rfl)) (.string x.key)).set_ (p := ⟨w.heap.size, 1, none⟩) (.inl (.inr rfl)) (.int .i64 x.num)).set_ (p := ⟨w.heap.size, 2, none⟩) (.inl (.inr rfl)) (.int .i64 x.time)
            have r4 := ((((hK3.mono (Y := Z) fun _ h => .inl h).trans (k12.mono (Y := Z) fun _ h => .inl (.inl h))).set_ (p := ⟨w.heap.size, 0, none⟩) hzn (.string x.key)).set_ (p := ⟨w.heap.size, 1, none⟩) hzn (.int .i64 x.num)).set_ (p := ⟨w.heap.size, 2, none⟩) hzn (.int .i64 x.time)
            have e1 : nextR s = (x, i, true) := by
              rw [nextR, HR.out]
              show (headI (s.at_ i), i, true) = _
              rw [HL.out]; rfl
            have e2 : nextG s = { s.put i r with next := (i + 1) % n } := by
              rw [nextG, HR.out, ← Hn.out]
              show { s.put i (s.at_ i).tail with next := (i + 1) % n } = _
              rw [HL.out]; rfl
            rw [e1, e2]
            exact ⟨rfl, ⟨gw, gl, _, (r3.zone fun b hb h => r3.zz b hb (.inl (.inl h))).drew⟩, (hK.trans r4).drew⟩
        · rw [hbb] at hbl hrb
          have HBL := Lib.hid hbl
          have H3 := Lib.hid (H2.out hrb)
          clear hbl hrb hbb
          go_wp2_with (first | (go_at_call 14; refine HBL.out.mono ?_; rintro e w1 ⟨rfl, rfl⟩))
          go_roundw
          case rel => exact ⟨k + 1, by omega, by go_num, H3, hI, hK2, hbx⟩
          case measure => simp [intOf]; omega
    · have e0 : nextI s = none := by
        have e := HA.out
        rw [show s.n - k = 0 from by have := Hn.out; omega] at e
        exact e.symm
      have H0 := Lib.hid e0
      clear e0
      obtain ⟨o0, o1, o2⟩ : _ ∧ _ ∧ _ := ⟨hbx.cell 0, hbx.cell 1, hbx.cell 2⟩
      simp only [List.getElem?_toArray, List.getElem?_cons_zero, List.getElem?_cons_succ] at o0 o1 o2
      obtain ⟨f0, f1, f2⟩ : _ ∧ _ ∧ _ := ⟨hbx.frozen 0, hbx.frozen 1, hbx.frozen 2⟩
      go_wp2
      have yb := ((hbx.set_ 0 (.string ⟨#[]⟩)).set_ 1 (.int .i64 0)).set_ 2 (.int .i64 0)
      (try simp only [Exit.inBlock, Exit.then])
      refine bodyPost_ret (results_cell_row3 rfl _ _ w.heap.size 36 _ (0, 0) _ rfl yb Tryd.underlying36 rfl (by kernel_rfl)) rfl ?_
      have r3 := ((hI.set_ (p := ⟨w.heap.size, 0, none⟩) (.inr rfl) (.string ⟨#[]⟩)).set_ (p := ⟨w.heap.size, 1, none⟩) (.inr rfl) (.int .i64 0)).set_ (p := ⟨w.heap.size, 2, none⟩) (.inr rfl) (.int .i64 0)
      have r4 := (((hK2.mono (Y := Z) fun _ h => .inl h).set_ (p := ⟨w.heap.size, 0, none⟩) hzn (.string ⟨#[]⟩)).set_ (p := ⟨w.heap.size, 1, none⟩) hzn (.int .i64 0)).set_ (p := ⟨w.heap.size, 2, none⟩) hzn (.int .i64 0)
      have e1 : nextR s = (noItm, 0, false) := by rw [nextR, H0.out]
      have e2 : nextG s = s := by rw [nextG, H0.out]
      rw [e1, e2]
      exact ⟨rfl, ⟨gw, gl, sl, r3.zone fun b hb h => hI0.zz b hb h⟩, hK.trans r4⟩
end Go.Proofs.YtmeemcafjebanaaDoor
