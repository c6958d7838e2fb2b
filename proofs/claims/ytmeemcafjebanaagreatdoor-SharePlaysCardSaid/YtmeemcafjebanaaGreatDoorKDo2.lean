/- The walks of the reference's Do where it is done. -/
import Derived.Test.YtmeemcafjebanaaGreatDoorKDo
namespace Go.Proofs.YtmeemcafjebanaaGreatDoor
open Go.RowKit Go.Maps Go.WideMaps

theorem kHas_zero {l : List RFl} {n : ByteArray} (h : kHasE l n = 0) : namedB n = true ∧ ∃ i, idxN n l = some i := by
  rcases hb : namedB n
  · rw [kHasE_bad hb] at h; cases h
  · rcases hi : idxN n l with _ | i
    · rw [kHasE_none hb hi] at h; cases h
    · exact ⟨rfl, i, rfl⟩
theorem rd_drew {w : World} {B size n : Nat} {A : Option Addr} {xs : List Value} (h : Rd w B size A n xs) : Rd w.drew B size A n xs := h
set_option maxRecDepth 100000 in
set_option maxHeartbeats 8000000 in
theorem kdo_op1 (base R n : Nat) (k : KS) (x : RW) (w : World) (h : KAt w base R k) (hx : BOk w base x.b x.A x.c) (hbw : base ≤ w.heap.size) (hf : k.Few n) (hn : n ≤ 1000) (hk : x.kind = 1) (hE : kOpE k x = 0) (hc : k.stop < 0 ∨ (k.steps : Int) < k.stop) :
    Calls Tryz.prog 23 #[.pointer (some ⟨R, 0, none⟩), x.val] w fun r w' => r = .returned (.int .i64 0) ∧ KAt w' base R ⟨doingR k.now x, k.safe, k.since ++ [x], k.steps + 1, k.stop⟩ ∧ Below base w w' ∧ KeepF (offT 48) w w' := by
  rw [kOp_put hk] at hE
  have hnm := writeE_zero hE
  have h6i : ¬ (60000 : Int) < (x.b.length : Int) := fun h => by
    rw [writeE_long hnm (by omega)] at hE; cases hE
  clear hE
  have hl1 := hf.now
  have hl2 := hf.since
  have hl3 := hf.steps
  have hrb := h.rb
  obtain ⟨w0, hw0⟩ : ∃ w0, w0 = w.alloc (.cells #[.int .i64 x.kind, .string x.name, .string x.to, x.sl, .int .i64 x.n] 52) := ⟨_, rfl⟩
  have hb0 : Below w.heap.size w w0 := by rw [hw0]; exact (Below.refl _ w).alloc (Nat.le_refl _) _
  have hbx : Blk w0 w.heap.size 52 #[.int .i64 x.kind, .string x.name, .string x.to, x.sl, .int .i64 x.n] := by rw [hw0]; exact Blk.new w _ _
  have hK0 := h.up hb0
  unfold RW.val RW.sl at *
  obtain ⟨q0, q1, q2, q3, q4⟩ := blkW hbx
  obtain ⟨vn, vs, vw, hblk, _⟩ := hK0.rows
  obtain ⟨c0, c1, c2, c3, c4⟩ := blkK hblk
  rw [hk] at hbx q0 hw0 ⊢
  clear hf
  go_enter Tryz.func23, Tryz.ntmps23
  go_upto_region 1 with fail
  rw [← hw0]
  clear hw0
  go_upto_region 19 with fail
  have HC := Lib.hid hc
  clear hc
  go_cut [88] from 73 to 88 (fun s wx => s = .bool false ∧ ∃ q : Nat, wx = w0.drewN q)
  case first =>
    rcases HC.out with hc | hc
    · have hg1 : decide (0 ≤ k.stop) = false := by simp; omega
      have hg2 : decide (k.stop ≥ 0) = false := by simp; omega
      go_quiet (fail)
      go_wp2_with fail
      go_meet
      exact ⟨rfl, _, rfl⟩
    · have h0 : (0 : Int) ≤ k.stop := by omega
      have hg1 : decide (k.stop ≤ (k.steps : Int)) = false := by simp; omega
      have hg2 : decide ((k.steps : Int) ≥ k.stop) = false := by simp; omega
      go_quiet (fail)
      go_wp2_with fail
      go_meet
      exact ⟨rfl, _, rfl⟩
  case rest =>
    obtain ⟨rfl, q, hq⟩ := hcut
    have hbq : Below w0.heap.size w0 wc := by rw [hq]; exact below_drewN (Below.refl _ _) _
    clear hq c0 c1 c2 c3 c4 q0 q1 q2 q3 q4 hblk
    have hK1 := hK0.up hbq
    have hbx1 := hbx.up hbq
    have hb1 : Below w.heap.size w wc := hb0.trans (hbq.mono hb0.size)
    obtain ⟨q0, q1, q2, q3, q4⟩ := blkW hbx1
    obtain ⟨vn, vs, vw, hblk, hFn, hFs, hFw⟩ := hK1.rows
    obtain ⟨An, cn, rfl, hrn⟩ := hFn.form
    obtain ⟨As, cs, rfl, hrs⟩ := hFs.form
    obtain ⟨Aw, cw, rfl, _, hcw, _, hrw⟩ := own_form hFw
    obtain ⟨c0, c1, c2, c3, c4⟩ := blkK hblk
    have f0 := hblk.frozen 0
    have f1 := hblk.frozen 1
    have f2 := hblk.frozen 2
    have f3 := hblk.frozen 3
    clear hbq hK0 hbx hb0
    have HNM := Lib.hid (fun (s : ByteArray) (W : World) => knamed_any s W)
    go_upto_region 33 with (go_at_call 28; go_must (refine (HNM.out _ _).mono ?_); rintro e w1 ⟨rfl, rfl⟩)
    clear c0 c1 c2 c3 c4 q0 q1 q2 q3 q4 f0 f1 f2 f3 hFn hFs hFw hrn hrs hrw hcw
    have hT := hK1.tick
    obtain ⟨c0, c1, c2, c3, c4⟩ := blkK hblk
    have f3 := hblk.frozen 3
    obtain ⟨q0, q1, q2, q3, q4⟩ := blkW hbx1
    have hbx2 := hT.2.blk hbx1 rfl
    have hkf2 := (keepF_below hb1).trans hT.2
    have hb2 : Below base w (w1.setCell ⟨R, 3, none⟩ (.int .i64 ((k.steps : Int) + 1))) := (hb1.mono hbw).setCell hrb _
    have hx2 : BOk (w1.setCell ⟨R, 3, none⟩ (.int .i64 ((k.steps : Int) + 1))) base x.b x.A x.c := hT.2.own (own_up hx hb1) (fun _ => rfl)
    go_upto_region 38 with fail
    clear c0 c1 c2 c3 c4 q0 q1 q2 q3 q4 f3 hblk hbx1 hb1 hK1
    generalize (w1.setCell ⟨R, 3, none⟩ (.int .i64 ((k.steps : Int) + 1))) = w2 at *
    obtain ⟨hK2, _⟩ := hT
    have hs2 := Nat.le_trans hbw hb2.size
    obtain ⟨vn, vs, vw, hblk, hFn, _⟩ := hK2.rows
    obtain ⟨An, cn, rfl, hrn⟩ := hFn.form
    obtain ⟨c0, c1, c2, c3, c4⟩ := blkK hblk
    have f0 := hblk.frozen 0
    obtain ⟨q0, q1, q2, q3, q4⟩ := blkW hbx2
    have hblkd : Blk w2.drew R _ _ := hblk.drew
    have hbxd : Blk w2.drew w.heap.size _ _ := hbx2.drew
    have hFnd : FsAt w2.drew base (.slice An k.now.length cn) k.now := hFn.up (Below.refl _ _).drew
    have hxd : BOk w2.drew base x.b x.A x.c := own_drew hx2
    have hKd : KAt w2.drew base R ⟨k.now, k.safe, k.since, k.steps + 1, k.stop⟩ := hK2.up (Below.refl _ _).drew
    have hcl := kdoing_any base (.slice An k.now.length cn) k.now x w2.drew hFnd hxd hs2 (by omega) (by omega)
    unfold RW.val RW.sl at hcl
    have hkd : KeepF (offT 48) w w2.drew := hkf2.drew
    have hbd : Below base w w2.drew := hb2.drew
    rw [hk] at hcl
    go_cut [] from 155 to 163 (fun wx => KAt wx base R ⟨doingR k.now x, k.safe, k.since, k.steps + 1, k.stop⟩ ∧ Blk wx w.heap.size 52 #[.int .i64 1, .string x.name, .string x.to, .slice x.A x.b.length x.c, .int .i64 x.n] ∧ Below base w wx ∧ KeepF (offT 48) w wx)
    case first =>
      go_region_law
        ((first
          | (with_reducible show (if Region.wanted (⟨some 161, _, _, _, _, _⟩ : Oper) _ = true then _ else _); go_must (refine step_call2 rfl 47 (.tmp 159) (.tmp 160) 45 52 rfl (.slice An k.now.length cn) (.agg #[.int .i64 1, .string x.name, .string x.to, .slice x.A x.b.length x.c, .int .i64 x.n]) rfl rfl (fun _ _ => by kernel_rfl) hcl ?_; rintro v2 w3 ⟨hfs, hb3⟩; obtain ⟨A2, c2, rfl, hr2⟩ := hfs.form; have hbl3 := hblkd.up hb3; have e4 := (blkK hbl3).1; have f4 := hbl3.frozen 0))))
      all_goals
        go_wp2_with fail
        go_meet
        have hN := (hKd.up hb3).setNow hfs
        exact ⟨hN.1, hN.2.blk (hbxd.up hb3) rfl, (hbd.trans (hb3.mono hs2)).setCell hrb _, (hkd.trans (keepF_below hb3)).trans hN.2⟩
    case rest =>
      obtain ⟨hK4, hbx4, hb4, hk4⟩ := hcut
      have hx4 : BOk wc base x.b x.A x.c := hk4.own hx (fun _ => rfl)
      have hs4 := Nat.le_trans hbw hb4.size
      obtain ⟨vn4, vs4, vw4, hblk4, _, _, hFw4⟩ := hK4.rows
      obtain ⟨Aw, cw, rfl, hnc, hcm, _, hrw⟩ := own_form hFw4
      obtain ⟨c0, c1, c2, c3, c4⟩ := blkK hblk4
      have HQ := Lib.hid (fun (W : World) (hb : Below wc.heap.size wc W) => blkW (hbx4.up hb))
      have HF := Lib.hid (fun (W : World) (hb : Below wc.heap.size wc W) => (show W.cell? ⟨R, 2, none⟩ = some (.slice Aw k.since.length cw) ∧ W.frozen? ⟨R, 2, none⟩ = false from ⟨(blkK (hblk4.up hb)).2.2.1, (hblk4.up hb).frozen 2⟩))
      have hown0 : wc.ownsRow wc.heap.size 52 5 (.slice none 0 0) 0 [] := World.ownsRow_nil _ _ _ _
      have hw1 := wCells_one k.since
      have hby : (0 + k.since.length) * 72 ≤ 140737488355328 := by omega
      have hby2 : (0 + k.since.length + 1) * 72 ≤ 140737488355328 := by omega
      clear hblk hFn hrn c0 c1 c3 c4 hFnd hxd hKd hcl hkd hbd hblkd hbxd hK2 hx2 hbx2 hb2
      go_wp2_with (first
        | (with_reducible show wpList _ _ _ (⟨some 169, _, _, _, _, _⟩ :: _) _ _; go_must (refine wpList_rd (.tmp 164) (.tmp 168) el_w rfl rfl hown0 rfl hrw rfl hw1 hby (Nat.le_refl _) ?_); intro v5 w5 hown5 hb5 hg5 ha5; obtain ⟨p0, p1, p2, p3, p4⟩ := HQ.out w5 hb5)
        | (with_reducible show wpList _ _ _ (⟨some 174, _, _, _, _, _⟩ :: _) _ _; go_must (refine wpList_newg (.tmp 171) (.tmp 173) el_w rfl rfl hown5 rfl rfl rfl rfl rfl hby2 hb5.size ?_); intro v6 w6 hown6 hb6 hg6 ha6; obtain ⟨A6, c6, rfl, _, _, _, _⟩ := own_form hown6; obtain ⟨e6, f6⟩ := HF.out w6 (hb5.trans hb6)))
      go_ret
      have hb56 := hb5.trans hb6
      have hK6 := hK4.up hb56
      have hown7 : w6.ownsRow base 52 5 (.slice A6 (0 + k.since.length + 1) c6) (k.since ++ [x]).length (wCells (k.since ++ [x])) := by
        rw [wCells_snoc, List.length_append, List.length_singleton]
        have := own_base hown6 hs4
        rw [Nat.zero_add] at this ⊢
        rw [hk]
        simpa [RW.sl] using this
      have hS := hK6.setSince hown7 (fun y hy => by
        rcases List.mem_append.1 hy with hy | hy
        · exact hK6.sinceB y hy
        · obtain rfl := List.mem_singleton.1 hy
          exact own_up hx4 hb56)
      rw [Nat.zero_add] at hS
      exact ⟨rfl, hS.1, (hb4.trans (hb56.mono hs4)).setCell hrb _, (hk4.trans (keepF_below hb56)).trans hS.2⟩
set_option maxRecDepth 100000 in
set_option maxHeartbeats 8000000 in
theorem kdo_op3 (base R n : Nat) (k : KS) (x : RW) (w : World) (h : KAt w base R k) (hx : BOk w base x.b x.A x.c) (hbw : base ≤ w.heap.size) (hf : k.Few n) (hn : n ≤ 1000) (hk : x.kind = 3) (hE : kOpE k x = 0) (hc : k.stop < 0 ∨ (k.steps : Int) < k.stop) :
    Calls Tryz.prog 23 #[.pointer (some ⟨R, 0, none⟩), x.val] w fun r w' => r = .returned (.int .i64 0) ∧ KAt w' base R ⟨doingR k.now x, k.safe, k.since ++ [x], k.steps + 1, k.stop⟩ ∧ Below base w w' ∧ KeepF (offT 48) w w' := by
  rw [kOp_del hk] at hE
  obtain ⟨hb, i, hi⟩ := kHas_zero hE
  have HIX := Lib.hid (idxI_some hi)
  clear hE hi
  have hl1 := hf.now
  have hl2 := hf.since
  have hl3 := hf.steps
  have hrb := h.rb
  obtain ⟨w0, hw0⟩ : ∃ w0, w0 = w.alloc (.cells #[.int .i64 x.kind, .string x.name, .string x.to, x.sl, .int .i64 x.n] 52) := ⟨_, rfl⟩
  have hb0 : Below w.heap.size w w0 := by rw [hw0]; exact (Below.refl _ w).alloc (Nat.le_refl _) _
  have hbx : Blk w0 w.heap.size 52 #[.int .i64 x.kind, .string x.name, .string x.to, x.sl, .int .i64 x.n] := by rw [hw0]; exact Blk.new w _ _
  have hK0 := h.up hb0
  unfold RW.val RW.sl at *
  obtain ⟨q0, q1, q2, q3, q4⟩ := blkW hbx
  obtain ⟨vn, vs, vw, hblk, _⟩ := hK0.rows
  obtain ⟨c0, c1, c2, c3, c4⟩ := blkK hblk
  rw [hk] at hbx q0 hw0 ⊢
  clear hf
  go_enter Tryz.func23, Tryz.ntmps23
  go_upto_region 1 with fail
  rw [← hw0]
  clear hw0
  go_upto_region 19 with fail
  have HC := Lib.hid hc
  clear hc
  go_cut [88] from 73 to 88 (fun s wx => s = .bool false ∧ ∃ q : Nat, wx = w0.drewN q)
  case first =>
    rcases HC.out with hc | hc
    · have hg1 : decide (0 ≤ k.stop) = false := by simp; omega
      have hg2 : decide (k.stop ≥ 0) = false := by simp; omega
      go_quiet (fail)
      go_wp2_with fail
      go_meet
      exact ⟨rfl, _, rfl⟩
    · have h0 : (0 : Int) ≤ k.stop := by omega
      have hg1 : decide (k.stop ≤ (k.steps : Int)) = false := by simp; omega
      have hg2 : decide ((k.steps : Int) ≥ k.stop) = false := by simp; omega
      go_quiet (fail)
      go_wp2_with fail
      go_meet
      exact ⟨rfl, _, rfl⟩
  case rest =>
    obtain ⟨rfl, q, hq⟩ := hcut
    have hbq : Below w0.heap.size w0 wc := by rw [hq]; exact below_drewN (Below.refl _ _) _
    clear hq c0 c1 c2 c3 c4 q0 q1 q2 q3 q4 hblk
    have hK1 := hK0.up hbq
    have hbx1 := hbx.up hbq
    have hb1 : Below w.heap.size w wc := hb0.trans (hbq.mono hb0.size)
    obtain ⟨q0, q1, q2, q3, q4⟩ := blkW hbx1
    obtain ⟨vn, vs, vw, hblk, hFn, hFs, hFw⟩ := hK1.rows
    obtain ⟨An, cn, rfl, hrn⟩ := hFn.form
    obtain ⟨As, cs, rfl, hrs⟩ := hFs.form
    obtain ⟨Aw, cw, rfl, _, hcw, _, hrw⟩ := own_form hFw
    obtain ⟨c0, c1, c2, c3, c4⟩ := blkK hblk
    have f0 := hblk.frozen 0
    have f1 := hblk.frozen 1
    have f2 := hblk.frozen 2
    have f3 := hblk.frozen 3
    clear hbq hK0 hbx hb0
    have HNM := Lib.hid (fun (s : ByteArray) (W : World) => knamed_any s W)
    have hfi := fun (W : World) (hr : Rd W wc.heap.size 2 An k.now.length (fCells k.now)) => kfind_any An cn k.now.length wc.heap.size k.now x.name W hr rfl (by omega)
    rw [HIX.out] at hfi
    have hi0 : ¬ (i : Int) < 0 := by omega
    go_upto_region 30 with (go_at_call 28; go_must (refine (HNM.out _ _).mono ?_); rintro e w1 ⟨rfl, rfl⟩)
    go_quiet (first
      | (go_at_call 48; refine Calls.quiet_of_same (hfi _ ?_); exact hrn))
    go_upto_region 33 with fail
    have hbq := below_drewN (Below.refl w1.heap.size w1) nq
    have hK1 := hK1.up hbq
    have hbx1 := hbx1.up hbq
    have hblk := hblk.up hbq
    have hb1 : Below w.heap.size w (w1.drewN nq) := hb1.trans (hbq.mono hb1.size)
    clear hfi hi0 c0 c1 c2 c3 c4 q0 q1 q2 q3 q4 f0 f1 f2 f3 hFn hFs hFw hrn hrs hrw hcw hbq
    generalize w1.drewN nq = w9 at *
    have hT := hK1.tick
    obtain ⟨c0, c1, c2, c3, c4⟩ := blkK hblk
    have f3 := hblk.frozen 3
    obtain ⟨q0, q1, q2, q3, q4⟩ := blkW hbx1
    have hbx2 := hT.2.blk hbx1 rfl
    have hkf2 := (keepF_below hb1).trans hT.2
    have hb2 : Below base w (w9.setCell ⟨R, 3, none⟩ (.int .i64 ((k.steps : Int) + 1))) := (hb1.mono hbw).setCell hrb _
    have hx2 : BOk (w9.setCell ⟨R, 3, none⟩ (.int .i64 ((k.steps : Int) + 1))) base x.b x.A x.c := hT.2.own (own_up hx hb1) (fun _ => rfl)
    go_upto_region 38 with fail
    clear c0 c1 c2 c3 c4 q0 q1 q2 q3 q4 f3 hblk hbx1 hb1 hK1
    generalize (w9.setCell ⟨R, 3, none⟩ (.int .i64 ((k.steps : Int) + 1))) = w2 at *
    obtain ⟨hK2, _⟩ := hT
    have hs2 := Nat.le_trans hbw hb2.size
    obtain ⟨vn, vs, vw, hblk, hFn, _⟩ := hK2.rows
    obtain ⟨An, cn, rfl, hrn⟩ := hFn.form
    obtain ⟨c0, c1, c2, c3, c4⟩ := blkK hblk
    have f0 := hblk.frozen 0
    obtain ⟨q0, q1, q2, q3, q4⟩ := blkW hbx2
    have hblkd : Blk w2.drew R _ _ := hblk.drew
    have hbxd : Blk w2.drew w.heap.size _ _ := hbx2.drew
    have hFnd : FsAt w2.drew base (.slice An k.now.length cn) k.now := hFn.up (Below.refl _ _).drew
    have hxd : BOk w2.drew base x.b x.A x.c := own_drew hx2
    have hKd : KAt w2.drew base R ⟨k.now, k.safe, k.since, k.steps + 1, k.stop⟩ := hK2.up (Below.refl _ _).drew
    have hcl := kdoing_any base (.slice An k.now.length cn) k.now x w2.drew hFnd hxd hs2 (by omega) (by omega)
    unfold RW.val RW.sl at hcl
    have hkd : KeepF (offT 48) w w2.drew := hkf2.drew
    have hbd : Below base w w2.drew := hb2.drew
    rw [hk] at hcl
    go_cut [] from 155 to 163 (fun wx => KAt wx base R ⟨doingR k.now x, k.safe, k.since, k.steps + 1, k.stop⟩ ∧ Blk wx w.heap.size 52 #[.int .i64 3, .string x.name, .string x.to, .slice x.A x.b.length x.c, .int .i64 x.n] ∧ Below base w wx ∧ KeepF (offT 48) w wx)
    case first =>
      go_region_law
        ((first
          | (with_reducible show (if Region.wanted (⟨some 161, _, _, _, _, _⟩ : Oper) _ = true then _ else _); go_must (refine step_call2 rfl 47 (.tmp 159) (.tmp 160) 45 52 rfl (.slice An k.now.length cn) (.agg #[.int .i64 3, .string x.name, .string x.to, .slice x.A x.b.length x.c, .int .i64 x.n]) rfl rfl (fun _ _ => by kernel_rfl) hcl ?_; rintro v2 w3 ⟨hfs, hb3⟩; obtain ⟨A2, c2, rfl, hr2⟩ := hfs.form; have hbl3 := hblkd.up hb3; have e4 := (blkK hbl3).1; have f4 := hbl3.frozen 0))))
      all_goals
        go_wp2_with fail
        go_meet
        have hN := (hKd.up hb3).setNow hfs
        exact ⟨hN.1, hN.2.blk (hbxd.up hb3) rfl, (hbd.trans (hb3.mono hs2)).setCell hrb _, (hkd.trans (keepF_below hb3)).trans hN.2⟩
    case rest =>
      obtain ⟨hK4, hbx4, hb4, hk4⟩ := hcut
      have hx4 : BOk wc base x.b x.A x.c := hk4.own hx (fun _ => rfl)
      have hs4 := Nat.le_trans hbw hb4.size
      obtain ⟨vn4, vs4, vw4, hblk4, _, _, hFw4⟩ := hK4.rows
      obtain ⟨Aw, cw, rfl, hnc, hcm, _, hrw⟩ := own_form hFw4
      obtain ⟨c0, c1, c2, c3, c4⟩ := blkK hblk4
      have HQ := Lib.hid (fun (W : World) (hb : Below wc.heap.size wc W) => blkW (hbx4.up hb))
      have HF := Lib.hid (fun (W : World) (hb : Below wc.heap.size wc W) => (show W.cell? ⟨R, 2, none⟩ = some (.slice Aw k.since.length cw) ∧ W.frozen? ⟨R, 2, none⟩ = false from ⟨(blkK (hblk4.up hb)).2.2.1, (hblk4.up hb).frozen 2⟩))
      have hown0 : wc.ownsRow wc.heap.size 52 5 (.slice none 0 0) 0 [] := World.ownsRow_nil _ _ _ _
      have hw1 := wCells_one k.since
      have hby : (0 + k.since.length) * 72 ≤ 140737488355328 := by omega
      have hby2 : (0 + k.since.length + 1) * 72 ≤ 140737488355328 := by omega
      clear hblk hFn hrn c0 c1 c3 c4 hFnd hxd hKd hcl hkd hbd hblkd hbxd hK2 hx2 hbx2 hb2
      go_wp2_with (first
        | (with_reducible show wpList _ _ _ (⟨some 169, _, _, _, _, _⟩ :: _) _ _; go_must (refine wpList_rd (.tmp 164) (.tmp 168) el_w rfl rfl hown0 rfl hrw rfl hw1 hby (Nat.le_refl _) ?_); intro v5 w5 hown5 hb5 hg5 ha5; obtain ⟨p0, p1, p2, p3, p4⟩ := HQ.out w5 hb5)
        | (with_reducible show wpList _ _ _ (⟨some 174, _, _, _, _, _⟩ :: _) _ _; go_must (refine wpList_newg (.tmp 171) (.tmp 173) el_w rfl rfl hown5 rfl rfl rfl rfl rfl hby2 hb5.size ?_); intro v6 w6 hown6 hb6 hg6 ha6; obtain ⟨A6, c6, rfl, _, _, _, _⟩ := own_form hown6; obtain ⟨e6, f6⟩ := HF.out w6 (hb5.trans hb6)))
      go_ret
      have hb56 := hb5.trans hb6
      have hK6 := hK4.up hb56
      have hown7 : w6.ownsRow base 52 5 (.slice A6 (0 + k.since.length + 1) c6) (k.since ++ [x]).length (wCells (k.since ++ [x])) := by
        rw [wCells_snoc, List.length_append, List.length_singleton]
        have := own_base hown6 hs4
        rw [Nat.zero_add] at this ⊢
        rw [hk]
        simpa [RW.sl] using this
      have hS := hK6.setSince hown7 (fun y hy => by
        rcases List.mem_append.1 hy with hy | hy
        · exact hK6.sinceB y hy
        · obtain rfl := List.mem_singleton.1 hy
          exact own_up hx4 hb56)
      rw [Nat.zero_add] at hS
      exact ⟨rfl, hS.1, (hb4.trans (hb56.mono hs4)).setCell hrb _, (hk4.trans (keepF_below hb56)).trans hS.2⟩
set_option maxRecDepth 100000 in
set_option maxHeartbeats 8000000 in
theorem kdo_op2 (base R n : Nat) (k : KS) (x : RW) (w : World) (h : KAt w base R k) (hx : BOk w base x.b x.A x.c) (hbw : base ≤ w.heap.size) (hf : k.Few n) (hn : n ≤ 1000) (hk : x.kind = 2) (hE : kOpE k x = 0) (hc : k.stop < 0 ∨ (k.steps : Int) < k.stop) :
    Calls Tryz.prog 23 #[.pointer (some ⟨R, 0, none⟩), x.val] w fun r w' => r = .returned (.int .i64 0) ∧ KAt w' base R ⟨doingR k.now x, k.safe, k.since ++ [x], k.steps + 1, k.stop⟩ ∧ Below base w w' ∧ KeepF (offT 48) w w' := by
  rw [kOp_ren hk] at hE
  rcases hb2 : namedB x.to
  · rw [hb2] at hE; cases hE
  rw [hb2, if_pos rfl] at hE
  obtain ⟨hb, i, hi⟩ := kHas_zero hE
  have HIX := Lib.hid (idxI_some hi)
  clear hE hi
  have hl1 := hf.now
  have hl2 := hf.since
  have hl3 := hf.steps
  have hrb := h.rb
  obtain ⟨w0, hw0⟩ : ∃ w0, w0 = w.alloc (.cells #[.int .i64 x.kind, .string x.name, .string x.to, x.sl, .int .i64 x.n] 52) := ⟨_, rfl⟩
  have hb0 : Below w.heap.size w w0 := by rw [hw0]; exact (Below.refl _ w).alloc (Nat.le_refl _) _
  have hbx : Blk w0 w.heap.size 52 #[.int .i64 x.kind, .string x.name, .string x.to, x.sl, .int .i64 x.n] := by rw [hw0]; exact Blk.new w _ _
  have hK0 := h.up hb0
  unfold RW.val RW.sl at *
  obtain ⟨q0, q1, q2, q3, q4⟩ := blkW hbx
  obtain ⟨vn, vs, vw, hblk, _⟩ := hK0.rows
  obtain ⟨c0, c1, c2, c3, c4⟩ := blkK hblk
  rw [hk] at hbx q0 hw0 ⊢
  clear hf
  go_enter Tryz.func23, Tryz.ntmps23
  go_upto_region 1 with fail
  rw [← hw0]
  clear hw0
  go_upto_region 19 with fail
  have HC := Lib.hid hc
  clear hc
  go_cut [88] from 73 to 88 (fun s wx => s = .bool false ∧ ∃ q : Nat, wx = w0.drewN q)
  case first =>
    rcases HC.out with hc | hc
    · have hg1 : decide (0 ≤ k.stop) = false := by simp; omega
      have hg2 : decide (k.stop ≥ 0) = false := by simp; omega
      go_quiet (fail)
      go_wp2_with fail
      go_meet
      exact ⟨rfl, _, rfl⟩
    · have h0 : (0 : Int) ≤ k.stop := by omega
      have hg1 : decide (k.stop ≤ (k.steps : Int)) = false := by simp; omega
      have hg2 : decide ((k.steps : Int) ≥ k.stop) = false := by simp; omega
      go_quiet (fail)
      go_wp2_with fail
      go_meet
      exact ⟨rfl, _, rfl⟩
  case rest =>
    obtain ⟨rfl, q, hq⟩ := hcut
    have hbq : Below w0.heap.size w0 wc := by rw [hq]; exact below_drewN (Below.refl _ _) _
    clear hq c0 c1 c2 c3 c4 q0 q1 q2 q3 q4 hblk
    have hK1 := hK0.up hbq
    have hbx1 := hbx.up hbq
    have hb1 : Below w.heap.size w wc := hb0.trans (hbq.mono hb0.size)
    obtain ⟨q0, q1, q2, q3, q4⟩ := blkW hbx1
    obtain ⟨vn, vs, vw, hblk, hFn, hFs, hFw⟩ := hK1.rows
    obtain ⟨An, cn, rfl, hrn⟩ := hFn.form
    obtain ⟨As, cs, rfl, hrs⟩ := hFs.form
    obtain ⟨Aw, cw, rfl, _, hcw, _, hrw⟩ := own_form hFw
    obtain ⟨c0, c1, c2, c3, c4⟩ := blkK hblk
    have f0 := hblk.frozen 0
    have f1 := hblk.frozen 1
    have f2 := hblk.frozen 2
    have f3 := hblk.frozen 3
    clear hbq hK0 hbx hb0
    have HNM := Lib.hid (fun (s : ByteArray) (W : World) => knamed_any s W)
    have hfi := fun (W : World) (hr : Rd W wc.heap.size 2 An k.now.length (fCells k.now)) => kfind_any An cn k.now.length wc.heap.size k.now x.name W hr rfl (by omega)
    rw [HIX.out] at hfi
    have hi0 : ¬ (i : Int) < 0 := by omega
    go_upto_region 30 with (go_at_call 28; go_must (refine (HNM.out _ _).mono ?_); rintro e w1 ⟨rfl, rfl⟩)
    go_quiet (first
      | (go_at_call 48; refine Calls.quiet_of_same (hfi _ ?_); exact hrn))
    go_upto_region 33 with fail
    have hbq := below_drewN (Below.refl w1.heap.size w1) nq
    have hK1 := hK1.up hbq
    have hbx1 := hbx1.up hbq
    have hblk := hblk.up hbq
    have hb1 : Below w.heap.size w (w1.drewN nq) := hb1.trans (hbq.mono hb1.size)
    clear hfi hi0 c0 c1 c2 c3 c4 q0 q1 q2 q3 q4 f0 f1 f2 f3 hFn hFs hFw hrn hrs hrw hcw hbq
    generalize w1.drewN nq = w9 at *
    have hT := hK1.tick
    obtain ⟨c0, c1, c2, c3, c4⟩ := blkK hblk
    have f3 := hblk.frozen 3
    obtain ⟨q0, q1, q2, q3, q4⟩ := blkW hbx1
    have hbx2 := hT.2.blk hbx1 rfl
    have hkf2 := (keepF_below hb1).trans hT.2
    have hb2 : Below base w (w9.setCell ⟨R, 3, none⟩ (.int .i64 ((k.steps : Int) + 1))) := (hb1.mono hbw).setCell hrb _
    have hx2 : BOk (w9.setCell ⟨R, 3, none⟩ (.int .i64 ((k.steps : Int) + 1))) base x.b x.A x.c := hT.2.own (own_up hx hb1) (fun _ => rfl)
    go_upto_region 38 with fail
    clear c0 c1 c2 c3 c4 q0 q1 q2 q3 q4 f3 hblk hbx1 hb1 hK1
    generalize (w9.setCell ⟨R, 3, none⟩ (.int .i64 ((k.steps : Int) + 1))) = w2 at *
    obtain ⟨hK2, _⟩ := hT
    have hs2 := Nat.le_trans hbw hb2.size
    obtain ⟨vn, vs, vw, hblk, hFn, _⟩ := hK2.rows
    obtain ⟨An, cn, rfl, hrn⟩ := hFn.form
    obtain ⟨c0, c1, c2, c3, c4⟩ := blkK hblk
    have f0 := hblk.frozen 0
    obtain ⟨q0, q1, q2, q3, q4⟩ := blkW hbx2
    have hblkd : Blk w2.drew R _ _ := hblk.drew
    have hbxd : Blk w2.drew w.heap.size _ _ := hbx2.drew
    have hFnd : FsAt w2.drew base (.slice An k.now.length cn) k.now := hFn.up (Below.refl _ _).drew
    have hxd : BOk w2.drew base x.b x.A x.c := own_drew hx2
    have hKd : KAt w2.drew base R ⟨k.now, k.safe, k.since, k.steps + 1, k.stop⟩ := hK2.up (Below.refl _ _).drew
    have hcl := kdoing_any base (.slice An k.now.length cn) k.now x w2.drew hFnd hxd hs2 (by omega) (by omega)
    unfold RW.val RW.sl at hcl
    have hkd : KeepF (offT 48) w w2.drew := hkf2.drew
    have hbd : Below base w w2.drew := hb2.drew
    rw [hk] at hcl
    go_cut [] from 155 to 163 (fun wx => KAt wx base R ⟨doingR k.now x, k.safe, k.since, k.steps + 1, k.stop⟩ ∧ Blk wx w.heap.size 52 #[.int .i64 2, .string x.name, .string x.to, .slice x.A x.b.length x.c, .int .i64 x.n] ∧ Below base w wx ∧ KeepF (offT 48) w wx)
    case first =>
      go_region_law
        ((first
          | (with_reducible show (if Region.wanted (⟨some 161, _, _, _, _, _⟩ : Oper) _ = true then _ else _); go_must (refine step_call2 rfl 47 (.tmp 159) (.tmp 160) 45 52 rfl (.slice An k.now.length cn) (.agg #[.int .i64 2, .string x.name, .string x.to, .slice x.A x.b.length x.c, .int .i64 x.n]) rfl rfl (fun _ _ => by kernel_rfl) hcl ?_; rintro v2 w3 ⟨hfs, hb3⟩; obtain ⟨A2, c2, rfl, hr2⟩ := hfs.form; have hbl3 := hblkd.up hb3; have e4 := (blkK hbl3).1; have f4 := hbl3.frozen 0))))
      all_goals
        go_wp2_with fail
        go_meet
        have hN := (hKd.up hb3).setNow hfs
        exact ⟨hN.1, hN.2.blk (hbxd.up hb3) rfl, (hbd.trans (hb3.mono hs2)).setCell hrb _, (hkd.trans (keepF_below hb3)).trans hN.2⟩
    case rest =>
      obtain ⟨hK4, hbx4, hb4, hk4⟩ := hcut
      have hx4 : BOk wc base x.b x.A x.c := hk4.own hx (fun _ => rfl)
      have hs4 := Nat.le_trans hbw hb4.size
      obtain ⟨vn4, vs4, vw4, hblk4, _, _, hFw4⟩ := hK4.rows
      obtain ⟨Aw, cw, rfl, hnc, hcm, _, hrw⟩ := own_form hFw4
      obtain ⟨c0, c1, c2, c3, c4⟩ := blkK hblk4
      have HQ := Lib.hid (fun (W : World) (hb : Below wc.heap.size wc W) => blkW (hbx4.up hb))
      have HF := Lib.hid (fun (W : World) (hb : Below wc.heap.size wc W) => (show W.cell? ⟨R, 2, none⟩ = some (.slice Aw k.since.length cw) ∧ W.frozen? ⟨R, 2, none⟩ = false from ⟨(blkK (hblk4.up hb)).2.2.1, (hblk4.up hb).frozen 2⟩))
      have hown0 : wc.ownsRow wc.heap.size 52 5 (.slice none 0 0) 0 [] := World.ownsRow_nil _ _ _ _
      have hw1 := wCells_one k.since
      have hby : (0 + k.since.length) * 72 ≤ 140737488355328 := by omega
      have hby2 : (0 + k.since.length + 1) * 72 ≤ 140737488355328 := by omega
      clear hblk hFn hrn c0 c1 c3 c4 hFnd hxd hKd hcl hkd hbd hblkd hbxd hK2 hx2 hbx2 hb2
      go_wp2_with (first
        | (with_reducible show wpList _ _ _ (⟨some 169, _, _, _, _, _⟩ :: _) _ _; go_must (refine wpList_rd (.tmp 164) (.tmp 168) el_w rfl rfl hown0 rfl hrw rfl hw1 hby (Nat.le_refl _) ?_); intro v5 w5 hown5 hb5 hg5 ha5; obtain ⟨p0, p1, p2, p3, p4⟩ := HQ.out w5 hb5)
        | (with_reducible show wpList _ _ _ (⟨some 174, _, _, _, _, _⟩ :: _) _ _; go_must (refine wpList_newg (.tmp 171) (.tmp 173) el_w rfl rfl hown5 rfl rfl rfl rfl rfl hby2 hb5.size ?_); intro v6 w6 hown6 hb6 hg6 ha6; obtain ⟨A6, c6, rfl, _, _, _, _⟩ := own_form hown6; obtain ⟨e6, f6⟩ := HF.out w6 (hb5.trans hb6)))
      go_ret
      have hb56 := hb5.trans hb6
      have hK6 := hK4.up hb56
      have hown7 : w6.ownsRow base 52 5 (.slice A6 (0 + k.since.length + 1) c6) (k.since ++ [x]).length (wCells (k.since ++ [x])) := by
        rw [wCells_snoc, List.length_append, List.length_singleton]
        have := own_base hown6 hs4
        rw [Nat.zero_add] at this ⊢
        rw [hk]
        simpa [RW.sl] using this
      have hS := hK6.setSince hown7 (fun y hy => by
        rcases List.mem_append.1 hy with hy | hy
        · exact hK6.sinceB y hy
        · obtain rfl := List.mem_singleton.1 hy
          exact own_up hx4 hb56)
      rw [Nat.zero_add] at hS
      exact ⟨rfl, hS.1, (hb4.trans (hb56.mono hs4)).setCell hrb _, (hk4.trans (keepF_below hb56)).trans hS.2⟩
end Go.Proofs.YtmeemcafjebanaaGreatDoor
