/- The walks of the disk's New, Read, Sync, Crash, Fail, Steps. -/
import Derived.Test.YtmeemcafjebanaaGreatDoorDiskHas
namespace Go.Proofs.YtmeemcafjebanaaGreatDoor
open Go.RowKit Go.Maps Go.WideMaps Go.Shelf

def readB (l : List Fl) (n : ByteArray) : List UInt8 := if hasE l n = 0 then ((atF n l).map Fl.b).getD [] else []
theorem errV_ne {e : Nat} (h : e ≠ 0) : errV e = .iface 71 (.int .i64 e) := by rw [errV, if_neg h]
set_option maxRecDepth 100000 in
set_option maxHeartbeats 2000000 in
theorem read_any (base g : Nat) (s : DS) (name : ByteArray) (w : World) (h : DiskAt w base g s) (hs : name.size ≤ 9223372036854775807) :
    Calls Tryz.prog 26 #[.pointer (some ⟨g, 0, none⟩), .string name] w fun r w' => ∃ v, r = .returned (.tuple #[v, errV (hasE s.now name)]) ∧ w'.ownsRow w.heap.size 5 1 v (readB s.now name).length ((readB s.now name).map bv) ∧ Below w.heap.size w w' := by
  have hhas := dhas_any base g s name w h hs
  by_cases hE : hasE s.now name = 0
  · obtain ⟨hnm, x, hx⟩ := hasE_zero hE
    have h20 := namedB_size hnm
    have HR : Hid (readB s.now name = x.b) := Lib.hid (by rw [readB, if_pos hE, hx]; rfl)
    have HE := Lib.hid hE
    rw [hE, errV_zero] at hhas
    have hfine := h.now_fine x (atF_some hx).1
    have HX := Lib.hid hx
    clear hE hnm hx
    go_enter Tryz.func26, Tryz.ntmps26
    go_upto_region 4 with (go_at_call 43; go_must (refine hhas.mono ?_); rintro e w1 ⟨rfl, hb1⟩)
    obtain ⟨Mn, Ms, vs, os, hblk, r1, r2, r3, r4, _⟩ := (DiskIn.up h hb1).rows
    have c0 := hblk.cell 0
    simp at c0
    have hlk := FMap.look r4 h20
    rw [show runF s.safe s.since = s.now from rfl, HX.out] at hlk
    have hown := own_up hfine.1 hb1
    have hlen := hfine.2
    replace hlk : (Instr.lookup 86 (.map (some Mn)) (.string name) false).run Tryz.prog w1 = .ok (.slice (x.g.map fun k => ⟨k, 0, none⟩) x.b.length x.c) w1 := hlk
    have hr := own_rd (show w1.ownsRow base 5 1 (.slice (x.g.map fun k => ⟨k, 0, none⟩) x.b.length x.c) x.b.length (x.b.map bv) from hown)
    have hcl := bclone_any _ x.c x.b.length w1.heap.size x.b w1 hr rfl (Nat.le_refl _) (by omega)
    generalize (x.g.map fun k => (⟨k, 0, none⟩ : Addr)) = A at *
    clear hown hfine
    go_wp2_with (go_at_call 40; go_must (refine hcl.mono ?_); rintro e w2 ⟨v2, rfl, hown2, hb2⟩)
    go_ret2
    rw [HE.out, HR.out]
    exact ⟨v2, rfl, own_base hown2 hb1.size, hb1.trans (hb2.mono hb1.size)⟩
  · have HR : Hid (readB s.now name = []) := Lib.hid (by rw [readB, if_neg hE])
    have HEV := Lib.hid (errV_ne hE)
    rw [errV_ne hE] at hhas
    clear hE
    go_enter Tryz.func26, Tryz.ntmps26
    go_wp2_with (go_at_call 43; go_must (refine hhas.mono ?_); rintro e w1 ⟨rfl, hb1⟩)
    go_ret2
    rw [HEV.out, HR.out]
    exact ⟨_, rfl, World.ownsRow_nil _ _ _ _, hb1⟩
/-- What is safe now is what is there now. -/
theorem syncS_ok {s : DS} (h : stepE s 0 = 0) : syncS s = ⟨s.now, [], s.steps + 1, s.stop⟩ := by rw [syncS, if_pos h]
theorem syncS_no {s : DS} (h : stepE s 0 ≠ 0) : syncS s = s := by rw [syncS, if_neg h]
theorem DiskIn.synced {w w2 : World} {base g steps Mn Ms M2 : Nat} {safe : List Fl} {since : List DOp} {stop : Int} {vs : Value} (h : DiskIn w base g safe since steps stop)
    (hblk : Blk w g 89 #[.map (some Mn), .map (some Ms), vs, .int .i64 steps, .int .i64 stop]) (r1 : base ≤ Mn) (r4 : FMap w Mn (runF safe since)) (hb : Below w.heap.size w w2) (hM2 : w.heap.size ≤ M2) (hbw : base ≤ w.heap.size) (h2 : FMap w2 M2 (runF safe since)) :
    DiskIn ((w2.setCell ⟨g, 1, none⟩ (.map (some M2))).setCell ⟨g, 2, none⟩ (.slice none 0 0)) base g (runF safe since) [] steps stop ∧ Below base w ((w2.setCell ⟨g, 1, none⟩ (.map (some M2))).setCell ⟨g, 2, none⟩ (.slice none 0 0)) ∧ KeepF fixD w ((w2.setCell ⟨g, 1, none⟩ (.map (some M2))).setCell ⟨g, 2, none⟩ (.slice none 0 0)) := by
  have b2 := hblk.up hb
  have b3 := b2.set_ 1 (.map (some M2))
  have k3 := keepT_set b2 1 (.map (some M2))
  have k4 := keepT_set b3 2 (.slice none 0 0)
  have b4 := b3.set_ 2 (.slice none 0 0)
  have k34 := k3.trans k4
  have lt := r4.lt
  refine ⟨⟨h.gb, ⟨Mn, M2, .slice none 0 0, [], by simpa using b4, r1, by omega, by omega, (r4.up hb).keep k34 (fun _ _ => rfl), h2.keep k34 (fun _ _ => rfl), World.ownsRow_nil _ _ _ _, ⟨rfl, fun i o v ho => by simp at ho⟩⟩, trivial, fun x hx => ((show FlOk w2 base x from ⟨own_up (h.now_fine x hx).1 hb, (h.now_fine x hx).2⟩)).keep k34 (fun _ => rfl)⟩, ((hb.mono hbw).setCell h.gb _).setCell h.gb _, (keepF_below hb).trans (k34.mono (offT_fixD (.inl rfl)))⟩
/-- What Sync answers. -/
def SyncPost (base g : Nat) (s : DS) (w : World) (r : Ending) (w' : World) : Prop := r = .returned (errV (stepE s 0)) ∧ DiskAt w' base g (syncS s) ∧ Below base w w' ∧ KeepF fixD w w'
set_option maxRecDepth 100000 in
set_option maxHeartbeats 2000000 in
theorem sync_any (base g n : Nat) (s : DS) (w : World) (h : DiskAt w base g s) (hbw : base ≤ w.heap.size) (hf : s.Few n) (hn : n ≤ 1000) :
    Calls Tryz.prog 20 #[.pointer (some ⟨g, 0, none⟩)] w fun r w' => SyncPost base g s w r w' := by
  by_cases hE : stepE s 0 = 0
  · have hst := step_nil base g 0 n s w h hbw hf hn hE
    rw [errV_zero, stepS_ok none hE] at hst
    have HS := Lib.hid (syncS_ok hE)
    have HE := Lib.hid hE
    clear hE
    go_enter Tryz.func20, Tryz.ntmps20
    go_upto_region 4 with (go_at_call 41; go_must (refine hst.mono ?_); rintro e w1 ⟨rfl, h1, hb1, hk1⟩)
    have h1 : DiskIn w1 base g s.safe s.since (s.steps + 1) s.stop := by simpa [DiskAt] using h1
    have hbw1 := Nat.le_trans hbw hb1.size
    obtain ⟨Mn, Ms, vs, os, hblk, r1, r2, r3, r4, r5, r6, r7⟩ := h1.rows
    obtain ⟨A, c, rfl, _, _, _, _⟩ := own_form r6
    obtain ⟨D, hD, hL⟩ := r4
    have hcl := AnyW.maps_Clone_owns laysClone 9 slR Mn _ D w1 hD
    have c0 := hblk.cell 0
    simp at c0
    have HFE := Lib.hid (fun W (h : Below w1.heap.size w1 W) => (show (W.cell? ⟨g, 1, none⟩ = some (.map (some Ms)) ∧ W.frozen? ⟨g, 1, none⟩ = false) ∧ (W.cell? ⟨g, 2, none⟩ = some (.slice A s.since.length c) ∧ W.frozen? ⟨g, 2, none⟩ = false) from
      ⟨⟨by have := (hblk.up h).cell 1; simpa using this, (hblk.up h).frozen 1⟩, ⟨by have := (hblk.up h).cell 2; simpa using this, (hblk.up h).frozen 2⟩⟩))
    go_wp2_with (go_at_call 46; go_must (refine hcl.mono ?_); rintro e w2 ⟨rfl, hD2, hD1, hb2⟩; obtain ⟨⟨e1, f1⟩, ⟨e2, f2⟩⟩ := HFE.out w2 hb2)
    go_ret
    have hsy := h1.synced hblk r1 ⟨D, hD, hL⟩ hb2 (Nat.le_refl _) hbw1 ⟨D, hD2, hL⟩
    exact ⟨by rw [HE.out]; rfl, by rw [HS.out]; exact hsy.1, hb1.trans hsy.2.1, hk1.trans hsy.2.2⟩
  · have hst := step_no base g 0 s .nilFunc w h hE
    have HS := Lib.hid (syncS_no hE)
    have HEV := Lib.hid (errV_ne hE)
    rw [errV_ne hE, errV_zero] at hst
    clear hE
    go_enter Tryz.func20, Tryz.ntmps20
    go_wp2_with (go_at_call 41; go_must (refine hst.mono ?_); rintro e w1 ⟨rfl, hb1⟩)
    go_ret
    exact ⟨by rw [HEV.out]; rfl, by rw [HS.out]; exact DiskIn.up h hb1, hb1.mono hbw, keepF_below hb1⟩
def fiveSet (W : World) (g F F2 : Nat) : World := ((((W.setCell ⟨g, 0, none⟩ (.map (some F))).setCell ⟨g, 1, none⟩ (.map (some F2))).setCell ⟨g, 2, none⟩ (.slice none 0 0)).setCell ⟨g, 3, none⟩ (.int .i64 0)).setCell ⟨g, 4, none⟩ (.int .i64 (-1))
theorem DiskIn.crashed {w wr w4 : World} {base g F F2 : Nat} {a b c d e : Value} {l : List Fl} (hg : base ≤ g) (hblk : Blk wr g 89 #[a, b, c, d, e]) (h1 : FMap wr F l) (hF : base ≤ F) (hk : KeepF fixD w wr) (hb0 : Below base w wr) (hb : Below wr.heap.size wr w4) (hF2 : wr.heap.size ≤ F2) (hbw : base ≤ w.heap.size) (h2 : FMap w4 F2 l) (hfine : ∀ x ∈ l, FlOk w base x) :
    DiskIn (fiveSet w4 g F F2) base g l [] 0 (-1) ∧ Below base w (fiveSet w4 g F F2) ∧ KeepF fixD w (fiveSet w4 g F F2) := by
  have lt := h1.lt
  have hbr : base ≤ wr.heap.size := Nat.le_trans hbw hb0.size
  have b0 := hblk.up hb
  have k1 := keepT_set b0 0 (.map (some F))
  have b1 := b0.set_ 0 (.map (some F))
  have k2 := keepT_set b1 1 (.map (some F2))
  have b2 := b1.set_ 1 (.map (some F2))
  have k3 := keepT_set b2 2 (.slice none 0 0)
  have b3 := b2.set_ 2 (.slice none 0 0)
  have k4 := keepT_set b3 3 (.int .i64 0)
  have b4 := b3.set_ 3 (.int .i64 0)
  have k5 := keepT_set b4 4 (.int .i64 (-1))
  have b5 := b4.set_ 4 (.int .i64 (-1))
  have kk := (((k1.trans k2).trans k3).trans k4).trans k5
  have kall : KeepF fixD w (fiveSet w4 g F F2) := (hk.trans (keepF_below hb)).trans (kk.mono (offT_fixD (.inl rfl)))
  refine ⟨⟨hg, ⟨F, F2, .slice none 0 0, [], by simpa [fiveSet] using b5, hF, by omega, by omega, (h1.up hb).keep kk (fun _ _ => rfl), h2.keep kk (fun _ _ => rfl), World.ownsRow_nil _ _ _ _, ⟨rfl, fun i o v ho => by simp at ho⟩⟩, trivial, fun x hx => (hfine x hx).keep kall (fun _ => rfl)⟩, ?_, kall⟩
  exact ((((((hb0.trans (hb.mono hbr)).setCell hg _).setCell hg _).setCell hg _).setCell hg _).setCell hg _)
theorem runF_take {l : List Fl} {os : List DOp} {i : Nat} {o : DOp} (h : os[i]? = some o) : runF l (os.take (i + 1)) = doF (runF l (os.take i)) o := by
  rw [List.take_add_one, h]
  exact runF_app _ _ _
set_option maxRecDepth 100000 in
set_option maxHeartbeats 4000000 in
theorem crash_any (base g n : Nat) (s : DS) (keep : Int) (w : World) (h : DiskAt w base g s) (hbw : base ≤ w.heap.size) (hf : s.Few n) (hn : n ≤ 1000) (hk : keep ≤ 9223372036854775807) (hk0 : -9223372036854775808 ≤ keep) :
    Calls Tryz.prog 21 #[.pointer (some ⟨g, 0, none⟩), .int .i64 keep] w fun r w' => r = .returned (.tuple #[]) ∧ DiskAt w' base g (crashS s keep) ∧ Below base w w' ∧ KeepF fixD w w' := by
  have hlen := hf.files
  have hck : crashK keep s.since.length = min (max 0 keep).toNat s.since.length := rfl
  obtain ⟨safe, since, sn, st⟩ := s
  replace hlen : safe.length + since.length ≤ n := hlen
  replace hck : crashK keep since.length = min (max 0 keep).toNat since.length := hck
  have h : DiskIn w base g safe since sn st := h
  obtain ⟨Mn, Ms, A, c, os, hblk, r1, r2, r3, r4, r5, r6, r7⟩ := h.rows_
  obtain ⟨D, hD, hL⟩ := r5
  have hcl := AnyW.maps_Clone_owns laysClone 9 slR Ms _ D w hD
  have c1 := hblk.cell 1
  simp at c1
  go_enter Tryz.func21, Tryz.ntmps21
  go_upto_region 1 with (go_at_call 46; go_must (refine hcl.mono ?_); rintro e w1 ⟨rfl, hD2, hD1, hb1⟩)
  have hblk1 := hblk.up hb1
  have c2 := hblk1.cell 2
  simp at c2
  obtain ⟨k, hk⟩ : ∃ k, k = min (max 0 keep).toNat since.length := ⟨_, rfl⟩
  have hkl : k ≤ since.length := by rw [hk]; exact Nat.min_le_right _ _
  have hcc : since.length ≤ c := by
    obtain ⟨_, _, he, h1, _⟩ := own_form r6
    injection he with _ _ he
    omega
  have hkc : min (max 0 keep).toNat since.length ≤ c := Nat.le_trans (Nat.min_le_right _ _) hcc
  have HK := Lib.hid (show crashK keep since.length = k from hck.trans hk.symm)
  go_region
  have hm : min (max 0 keep) (since.length : Int) = (k : Int) := by omega
  rw [hm, Int.toNat_natCast, show max (k : Int) 0 = (k : Int) from by omega]
  clear hm hkc hk hck hcl c1 c2
  have hrs := (own_rd r6).below hb1 (Nat.le_refl _)
  have hM1 : FMap w1.drew w.heap.size safe := FMap.up ⟨D, hD2, hL⟩ (Below.refl _ _).drew
  have hFl := hM1.lt
  have hrs : Rd w1.drew w.heap.size 1 A since.length os := hrs.drew
  have hb1 := hb1.drew
  have hblk1 : Blk w1.drew g 89 #[.map (some Mn), .map (some Ms), .slice A since.length c, .int .i64 sn, .int .i64 st] := hblk1.drew
  have hglt := hblk.lt
  have hbg := h.gb
  have hfine : ∀ x ∈ runF safe (since.take k), FlOk w base x := run_fine (P := FlOk w base) (fun x n hx => hx) h.fine (fun o ho => r7.put_fine o (List.mem_of_mem_take ho))
  have HFINE := Lib.hid hfine
  have HOPS := Lib.hid (fun (W : World) (i : Nat) (hi : i < k) (u : Value) (hu : os[i]? = some u) (hkk : KeepF fixD w W) (hM : FMap W w.heap.size (runF safe (since.take i))) =>
    (show ∃ o, since[i]? = some o ∧ ∃ fn lb, u = .func (.func fn) #[] lb ∧ (∀ args W, (callFunc fn args).run Tryz.prog W = .ok (.enter fn args) W) ∧ Calls Tryz.prog fn (#[.map (some w.heap.size)] ++ lb) W fun e w' => e = .returned (.tuple #[]) ∧ FMap w' w.heap.size (doF (runF safe (since.take i)) o) ∧ W.grownBy w' (some w.heap.size) from by
      have hsi : since[i]? = some since[i] := List.getElem?_eq_getElem (by omega)
      have hl2 := run_le (since.take i) safe
      have hl3 : (since.take i).length ≤ since.length := List.length_take_le' _ _
      exact ⟨_, hsi, op_call ((r7.2 i _ u hsi hu).keep hkk (fun _ => rfl) (fun _ => rfl) (fun _ => rfl)) hM (okRun_at h.run hsi) (by omega)⟩))
  clear h hfine r7 r4 r6 hD1 hD2 hL hD hcc hblk
  generalize w1.drew = w2 at *
  have hw2 : KeepF fixD w w2 := keepF_below hb1
  obtain ⟨D2, hD2, hL2⟩ := hM1
  have HD2 := Lib.hid hD2
  have hM1 : FMap w2 w.heap.size safe := ⟨D2, hD2, hL2⟩
  clear hD2 hL2
  go_wp2_with fail
  go_loopw [26] (fun x wr => ∃ i : Nat, i ≤ k ∧ x = .int .i64 i ∧ FMap wr w.heap.size (runF safe (since.take i)) ∧ w2.grownBy wr (some w.heap.size)) (fun x _ => k - (intOf x).toNat)
  case atStart => exact ⟨0, Nat.zero_le _, rfl, hM1, only_refl _ _⟩
  obtain ⟨i, hi, rfl, hM, hgr⟩ := hrel
  have hkr : KeepF fixD w wr := hw2.trans ((keepM_grown HD2.out hgr).mono offMap_fixD)
  by_cases hlt : i < k
  · obtain ⟨ad, u, rfl, hpb, hu, hcell⟩ := (hrs.grown hgr (Nat.le_of_lt hFl) (fun j hj => by cases hj; exact Nat.le_refl _)).at_ (k := i) (by omega)
    obtain ⟨o, ho, fn, lb, rfl, eg, hcall⟩ := HOPS.out wr i hlt u hu hkr hM
    have HO := Lib.hid ho
    clear ho hu
    go_wp2_with (go_at_fn fn; refine hcall.mono ?_; rintro e w3 ⟨rfl, hF3, hg3⟩)
    go_roundw
    case rel => exact ⟨i + 1, hlt, by go_num, by rw [runF_take HO.out]; exact hF3, only_trans hgr hg3⟩
    case measure => simp [intOf]; omega
  · obtain rfl : i = k := by omega
    have hblkr := hblk1.grown hgr (fun e => by injection e with e; omega)
    obtain ⟨D3, hD3, hL3⟩ := hM
    have hcl := AnyW.maps_Clone_owns laysClone 9 slR w.heap.size _ D3 wr hD3
    have HFE := Lib.hid (fun W (h : Below wr.heap.size wr W) => (show ((W.cell? ⟨g, 0, none⟩ = some (.map (some Mn)) ∧ W.frozen? ⟨g, 0, none⟩ = false) ∧ (W.cell? ⟨g, 1, none⟩ = some (.map (some Ms)) ∧ W.frozen? ⟨g, 1, none⟩ = false)) ∧ (W.cell? ⟨g, 2, none⟩ = some (.slice A since.length c) ∧ W.frozen? ⟨g, 2, none⟩ = false) ∧ (W.cell? ⟨g, 3, none⟩ = some (.int .i64 sn) ∧ W.frozen? ⟨g, 3, none⟩ = false) ∧ (W.cell? ⟨g, 4, none⟩ = some (.int .i64 st) ∧ W.frozen? ⟨g, 4, none⟩ = false) from
      ⟨⟨⟨by have := (hblkr.up h).cell 0; simpa using this, (hblkr.up h).frozen 0⟩, ⟨by have := (hblkr.up h).cell 1; simpa using this, (hblkr.up h).frozen 1⟩⟩, ⟨by have := (hblkr.up h).cell 2; simpa using this, (hblkr.up h).frozen 2⟩, ⟨by have := (hblkr.up h).cell 3; simpa using this, (hblkr.up h).frozen 3⟩, ⟨by have := (hblkr.up h).cell 4; simpa using this, (hblkr.up h).frozen 4⟩⟩))
    go_wp2_with (go_at_call 46; go_must (refine hcl.mono ?_); rintro e w4 ⟨rfl, hD4, hD5, hb4⟩; obtain ⟨⟨⟨e0, f0⟩, ⟨e1, f1⟩⟩, ⟨e2, f2⟩, ⟨e3, f3⟩, ⟨e4, f4⟩⟩ := HFE.out w4 hb4)
    go_end0
    have hbb : Below base w wr := (hb1.mono hbw).grown hgr (Nat.le_trans hbw hb1.size) (fun j hj => by cases hj; exact hbw)
    have hc := DiskIn.crashed (F2 := wr.heap.size) hbg hblkr ⟨D3, hD3, hL3⟩ hbw hkr hbb hb4 (Nat.le_refl _) hbw ⟨D3, hD4, hL3⟩ HFINE.out
    refine ⟨rfl, ?_, hc.2.1, hc.2.2⟩
    show DiskIn _ base g (runF safe (since.take (crashK keep since.length))) [] 0 (-1)
    rw [HK.out]
    exact hc.1
def noDS : DS := ⟨[], [], 0, -1⟩
set_option maxRecDepth 100000 in
set_option maxHeartbeats 2000000 in
theorem dnew_any (w : World) :
    Calls Tryz.prog 15 #[] w fun r w' => ∃ g, r = .returned (.pointer (some ⟨g, 0, none⟩)) ∧ DiskAt w' w.heap.size g noDS ∧ Below w.heap.size w w' := by
  have hmm := @run_makeMap Tryz.prog
  go_enter Tryz.func15, Tryz.ntmps15
  go_wp2_with fail
  go_ret
  have hm1 : FMap ((w.alloc (.map #[] 0)).alloc (.map #[] 0)) w.heap.size [] := ⟨_, (World.ownsMap_made w Tryz.prog 9 slR).alloc _, MapL.start⟩
  have hm2 : FMap ((w.alloc (.map #[] 0)).alloc (.map #[] 0)) (w.heap.size + 1) [] := by
    have := World.ownsMap_made (w.alloc (.map #[] 0)) Tryz.prog 9 slR
    rw [show (w.alloc (.map #[] 0)).heap.size = w.heap.size + 1 from by simp] at this
    exact ⟨_, this, MapL.start⟩
  have hb0 : Below w.heap.size w ((w.alloc (.map #[] 0)).alloc (.map #[] 0)) := ((Below.refl _ w).alloc (Nat.le_refl _) _).alloc (by simp) _
  have hsz : ((w.alloc (.map #[] 0)).alloc (.map #[] 0)).heap.size = w.heap.size + 1 + 1 := by simp
  have hbl := Blk.new ((w.alloc (.map #[] 0)).alloc (.map #[] 0)) 89 #[.map (some w.heap.size), .map (some (w.heap.size + 1)), .slice none 0 0, .int .i64 0, .int .i64 (-1)]
  rw [hsz] at hbl
  have hb1 := (Below.refl _ ((w.alloc (.map #[] 0)).alloc (.map #[] 0))).alloc (Nat.le_refl _) (.cells #[.map (some w.heap.size), .map (some (w.heap.size + 1)), .slice none 0 0, .int .i64 0, .int .i64 (-1)] 89)
  exact ⟨_, rfl, ⟨by omega, ⟨_, _, _, [], hbl, Nat.le_refl _, Nat.le_succ _, by omega, hm1.up hb1, hm2.up hb1, World.ownsRow_nil _ _ _ _, ⟨rfl, fun i o v ho => by simp [noDS] at ho⟩⟩, trivial, fun x hx => by simp [noDS] at hx⟩, hb0.trans (hb1.mono hb0.size)⟩
set_option maxRecDepth 100000 in
set_option maxHeartbeats 2000000 in
theorem fail_any (base g : Nat) (s : DS) (a : Int) (w : World) (h : DiskAt w base g s) :
    Calls Tryz.prog 22 #[.pointer (some ⟨g, 0, none⟩), .int .i64 a] w fun r w' => r = .returned (.tuple #[]) ∧ DiskAt w' base g (failS s a) ∧ Below base w w' ∧ KeepF fixD w w' := by
  have h : DiskIn w base g s.safe s.since s.steps s.stop := h
  obtain ⟨Mn, Ms, vs, os, hblk, r1, r2, r3, r4, r5, r6, r7⟩ := h.rows
  have c4 := hblk.cell 4
  have f4 := hblk.frozen 4
  simp at c4
  go_enter Tryz.func22, Tryz.ntmps22
  go_wp2_with fail
  go_end0
  have hk := keepT_set hblk 4 (.int .i64 (max (-1) a))
  have hb := hblk.set_ 4 (.int .i64 (max (-1) a))
  exact ⟨rfl, ⟨h.gb, ⟨Mn, Ms, vs, os, by simpa [failS] using hb, r1, r2, r3, r4.keep hk (fun _ _ => rfl), r5.keep hk (fun _ _ => rfl), hk.own r6 (fun _ => rfl), r7.keep hk (fun _ => rfl) (fun _ => rfl) (fun _ => rfl)⟩, h.run, fun x hx => (h.fine x hx).keep hk (fun _ => rfl)⟩, (Below.refl base w).setCell h.gb _, hk.mono (offT_fixD (.inl rfl))⟩
theorem steps_any (base g : Nat) (s : DS) (w : World) (h : DiskAt w base g s) :
    Calls Tryz.prog 25 #[.pointer (some ⟨g, 0, none⟩)] w fun r w' => r = .returned (.int .i64 s.steps) ∧ w' = w := by
  obtain ⟨Mn, Ms, vs, os, hblk, _⟩ := h.rows
  have c3 := hblk.cell 3
  simp at c3
  go_enter Tryz.func25, Tryz.ntmps25
  go_wp2_with fail
  go_ret
  exact ⟨rfl, rfl⟩
end Go.Proofs.YtmeemcafjebanaaGreatDoor
