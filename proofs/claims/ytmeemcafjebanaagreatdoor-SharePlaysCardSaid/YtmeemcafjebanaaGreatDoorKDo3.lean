/- The walks of the reference's Do: Fail and Crash. -/
import Derived.Test.YtmeemcafjebanaaGreatDoorKDo
namespace Go.Proofs.YtmeemcafjebanaaGreatDoor
open Go.RowKit Go.Maps Go.WideMaps

def kCrash (k : KS) (n : Int) : List RFl := (k.since.take (crashK n k.since.length)).foldl doingR k.safe
theorem KAt.setStop {w : World} {base R : Nat} {k : KS} (h : KAt w base R k) (a : Int) : KAt (w.setCell ⟨R, 4, none⟩ (.int .i64 a)) base R ⟨k.now, k.safe, k.since, k.steps, a⟩ ∧ KeepF (offT 48) w (w.setCell ⟨R, 4, none⟩ (.int .i64 a)) := by
  obtain ⟨vn, vs, vw, b, n, s, ow⟩ := h.rows
  have hk := keepT_set b 4 (.int .i64 a)
  have hb := b.set_ 4 (.int .i64 a)
  exact ⟨⟨h.rb, ⟨vn, vs, vw, by simpa using hb, n.keep hk (fun _ => rfl) (fun _ => rfl), s.keep hk (fun _ => rfl) (fun _ => rfl), hk.own ow (fun _ => rfl)⟩, fun x hx => hk.own (h.sinceB x hx) (fun _ => rfl)⟩, hk⟩
def five (W : World) (R : Nat) (v : Value) : World := ((((W.setCell ⟨R, 0, none⟩ v).setCell ⟨R, 1, none⟩ v).setCell ⟨R, 2, none⟩ (.slice none 0 0)).setCell ⟨R, 3, none⟩ (.int .i64 0)).setCell ⟨R, 4, none⟩ (.int .i64 (-1))
theorem KAt.crashed {w : World} {base R : Nat} {k : KS} {v : Value} {l : List RFl} (h : KAt w base R k) (hv : FsAt w base v l) : KAt (five w R v) base R ⟨l, l, [], 0, -1⟩ ∧ KeepF (offT 48) w (five w R v) := by
  obtain ⟨vn, vs, vw, b, n, s, ow⟩ := h.rows
  have k1 := keepT_set b 0 v
  have b1 := b.set_ 0 v
  have k2 := keepT_set b1 1 v
  have b2 := b1.set_ 1 v
  have k3 := keepT_set b2 2 (.slice none 0 0)
  have b3 := b2.set_ 2 (.slice none 0 0)
  have k4 := keepT_set b3 3 (.int .i64 0)
  have b4 := b3.set_ 3 (.int .i64 0)
  have k5 := keepT_set b4 4 (.int .i64 (-1))
  have b5 := b4.set_ 4 (.int .i64 (-1))
  have kk := (((k1.trans k2).trans k3).trans k4).trans k5
  exact ⟨⟨h.rb, ⟨v, v, .slice none 0 0, by simpa [five] using b5, hv.keep kk (fun _ => rfl) (fun _ => rfl), hv.keep kk (fun _ => rfl) (fun _ => rfl), World.ownsRow_nil _ _ _ _⟩, fun x hx => by simp at hx⟩, kk⟩
theorem fold_take {l : List RFl} {os : List RW} {i : Nat} {o : RW} (h : os[i]? = some o) : (os.take (i + 1)).foldl doingR l = doingR ((os.take i).foldl doingR l) o := by
  rw [List.take_add_one, h, List.foldl_append]; rfl
theorem fold_len : ∀ (os : List RW) (l : List RFl), (os.foldl doingR l).length ≤ l.length + os.length := by
  intro os
  induction os with
  | nil => intro l; exact Nat.le_refl _
  | cons o os ih =>
    intro l
    have h1 := ih (doingR l o)
    have h2 := doingR_len l o
    rw [List.foldl_cons, List.length_cons]
    omega
set_option maxRecDepth 100000 in
set_option maxHeartbeats 4000000 in
theorem kdo_fail (base R : Nat) (k : KS) (x : RW) (w : World) (h : KAt w base R k) (hbw : base ≤ w.heap.size) (hk : x.kind = 6) :
    Calls Tryz.prog 23 #[.pointer (some ⟨R, 0, none⟩), x.val] w fun r w' => r = .returned (.int .i64 0) ∧ KAt w' base R ⟨k.now, k.safe, k.since, k.steps, max (-1) x.n⟩ ∧ Below base w w' ∧ KeepF (offT 48) w w' := by
  have hrb := h.rb
  have hRl : R < w.heap.size := by obtain ⟨_, _, _, hb, _⟩ := h.rows; exact hb.lt
  have hne : ¬ w.heap.size = R := by omega
  have hne2 : ¬ R = w.heap.size := by omega
  obtain ⟨w0, hw0⟩ : ∃ w0, w0 = w.alloc (.cells #[.int .i64 x.kind, .string x.name, .string x.to, x.sl, .int .i64 x.n] 52) := ⟨_, rfl⟩
  have hb0 : Below w.heap.size w w0 := by rw [hw0]; exact (Below.refl _ w).alloc (Nat.le_refl _) _
  have hbx : Blk w0 w.heap.size 52 #[.int .i64 x.kind, .string x.name, .string x.to, x.sl, .int .i64 x.n] := by rw [hw0]; exact Blk.new w _ _
  have hK0 := h.up hb0
  unfold RW.val RW.sl at *
  obtain ⟨q0, q1, q2, q3, q4⟩ := blkW hbx
  obtain ⟨vn, vs, vw, hblk, hFn, hFs, hFw⟩ := hK0.rows
  obtain ⟨An, cn, rfl, hrn⟩ := hFn.form
  obtain ⟨As, cs, rfl, hrs⟩ := hFs.form
  obtain ⟨Aw, cw, rfl, _, _, _, hrw⟩ := own_form hFw
  obtain ⟨c0, c1, c2, c3, c4⟩ := blkK hblk
  have f0 := hblk.frozen 0
  have f1 := hblk.frozen 1
  have f2 := hblk.frozen 2
  have f3 := hblk.frozen 3
  have f4 := hblk.frozen 4
  rw [hk] at hbx q0 hw0 ⊢
  clear hk
  by_cases hn : x.n < 0
  · have HM : Hid (max (-1) x.n = -1) := Lib.hid (by omega)
    go_enter Tryz.func23, Tryz.ntmps23
    go_upto_region 1 with fail
    rw [← hw0]
    clear hw0
    go_wp2_with fail
    go_ret
    rw [HM.out]
    have h1 := hK0.setStop x.n
    have h2 := h1.1.setStop (-1)
    exact ⟨rfl, h2.1, ((hb0.mono hbw).setCell hrb _).setCell hrb _, ((keepF_below hb0).trans h1.2).trans h2.2⟩
  · have HM : Hid (max (-1) x.n = x.n) := Lib.hid (by omega)
    go_enter Tryz.func23, Tryz.ntmps23
    go_upto_region 1 with fail
    rw [← hw0]
    clear hw0
    go_wp2_with fail
    go_ret
    rw [HM.out]
    have h1 := hK0.setStop x.n
    exact ⟨rfl, h1.1, (hb0.mono hbw).setCell hrb _, (keepF_below hb0).trans h1.2⟩
set_option maxRecDepth 100000 in
set_option maxHeartbeats 4000000 in
theorem kdo_crash (base R n : Nat) (k : KS) (x : RW) (w : World) (h : KAt w base R k) (hbw : base ≤ w.heap.size) (hf : k.Few n) (hn : n ≤ 1000) (hk : x.kind = 5) (hks : ∀ y ∈ k.since, y.kind = 1 ∨ y.kind = 2 ∨ y.kind = 3) :
    Calls Tryz.prog 23 #[.pointer (some ⟨R, 0, none⟩), x.val] w fun r w' => r = .returned (.int .i64 0) ∧ KAt w' base R ⟨kCrash k x.n, kCrash k x.n, [], 0, -1⟩ ∧ Below base w w' ∧ KeepF (offT 48) w w' := by
  have hrb := h.rb
  have hRl : R < w.heap.size := by obtain ⟨_, _, _, hb, _⟩ := h.rows; exact hb.lt
  have hne : ¬ w.heap.size = R := by omega
  have hne2 : ¬ R = w.heap.size := by omega
  obtain ⟨w0, hw0⟩ : ∃ w0, w0 = w.alloc (.cells #[.int .i64 x.kind, .string x.name, .string x.to, x.sl, .int .i64 x.n] 52) := ⟨_, rfl⟩
  have hb0 : Below w.heap.size w w0 := by rw [hw0]; exact (Below.refl _ w).alloc (Nat.le_refl _) _
  have hbx : Blk w0 w.heap.size 52 #[.int .i64 x.kind, .string x.name, .string x.to, x.sl, .int .i64 x.n] := by rw [hw0]; exact Blk.new w _ _
  have hK0 := h.up hb0
  unfold RW.val RW.sl at *
  obtain ⟨q0, q1, q2, q3, q4⟩ := blkW hbx
  obtain ⟨vn, vs, vw, hblk, hFn, hFs, hFw⟩ := hK0.rows
  obtain ⟨An, cn, rfl, hrn⟩ := hFn.form
  obtain ⟨As, cs, rfl, hrs⟩ := hFs.form
  obtain ⟨Aw, cw, rfl, _, _, _, hrw⟩ := own_form hFw
  obtain ⟨c0, c1, c2, c3, c4⟩ := blkK hblk
  have f0 := hblk.frozen 0
  have f1 := hblk.frozen 1
  have f2 := hblk.frozen 2
  have f3 := hblk.frozen 3
  have f4 := hblk.frozen 4
  rw [hk] at hbx q0 hw0 ⊢
  clear hk
  have hbw0 := Nat.le_trans hbw hb0.size
  have hl1 := hf.safe
  have hl2 := hf.since
  obtain ⟨m, hm⟩ : ∃ m, m = crashK x.n k.since.length := ⟨_, rfl⟩
  have hm2 : m = min (max 0 x.n).toNat k.since.length := hm
  have HM := Lib.hid hm
  have hml : m ≤ k.since.length := by omega
  have hmn : ∀ i : Nat, i < m → (i : Int) < x.n := fun i hi => by omega
  have hme : ¬ (m : Int) < x.n ∨ m = k.since.length := by omega
  have HMN := Lib.hid hmn
  have HME := Lib.hid hme
  obtain ⟨sn, hsn⟩ : ∃ sn, sn = k.since.length := ⟨_, rfl⟩
  have HSN := Lib.hid hsn
  have HKS := Lib.hid hks
  have HDO := Lib.hid (fun (W : World) (i : Nat) (y : RW) (v : Value) (hy : k.since[i]? = some y) (hb : Below w0.heap.size w0 W) (hfs : FsAt W base v ((k.since.take i).foldl doingR k.safe)) =>
    (show Calls Tryz.prog 47 #[v, y.val] W fun r w' => ∃ v', r = .returned v' ∧ FsAt w' base v' ((k.since.take (i + 1)).foldl doingR k.safe) ∧ Below W.heap.size W w' from by
      have h1 := fold_len (k.since.take i) k.safe
      have h2 : (k.since.take i).length ≤ k.since.length := List.length_take_le' _ _
      have h3 := kdoing_any base v _ y W hfs (own_up (hK0.sinceB y (List.mem_of_getElem? hy)) hb) (Nat.le_trans hbw0 hb.size) (by omega) (hks y (List.mem_of_getElem? hy))
      rw [← fold_take hy] at h3
      exact h3))
  rw [← hsn] at hrw c2 hml hl2
  have HC2 := Lib.hid (fun (W : World) (hb : Below w0.heap.size w0 W) => (show W.cell? ⟨R, 2, none⟩ = some (.slice Aw sn cw) ∧ W.cell? ⟨w.heap.size, 4, none⟩ = some (.int .i64 x.n) from ⟨(hb.cell hblk.lt).trans c2, (hb.cell hbx.lt).trans q4⟩))
  have hFs0 : FsAt w0 base (.slice As k.safe.length cs) ((k.since.take 0).foldl doingR k.safe) := hFs
  obtain ⟨F, hF⟩ : ∃ F : Nat → List RFl, F = fun i => (k.since.take i).foldl doingR k.safe := ⟨_, rfl⟩
  have HDO := Lib.hid (fun (W : World) (i : Nat) (y : RW) (v : Value) (hy : k.since[i]? = some y) (hb : Below w0.heap.size w0 W) (hfs : FsAt W base v (F i)) =>
    (show Calls Tryz.prog 47 #[v, y.val] W fun r w' => ∃ v', r = .returned v' ∧ FsAt w' base v' (F (i + 1)) ∧ Below W.heap.size W w' from by
      rw [hF] at hfs ⊢
      exact HDO.out W i y v hy hb hfs))
  replace hFs0 : FsAt w0 base (.slice As k.safe.length cs) (F 0) := by rw [hF]; exact hFs0
  have HFM : Hid (kCrash k x.n = F m) := Lib.hid (by rw [hF, kCrash, ← HM.out])
  rename_i HDO0
  clear hm hm2 hmn hme hsn hks hf h hFs hF HDO0
  go_enter Tryz.func23, Tryz.ntmps23
  go_upto_region 1 with fail
  rw [← hw0]
  clear hw0
  go_wp2_with fail
  go_loopw [5, 6] (fun lv iv wr => ∃ (i : Nat), i ≤ m ∧ iv = .int .i64 i ∧ FsAt wr base lv (F i) ∧ Below w0.heap.size w0 wr) (fun _ iv _ => m - (intOf iv).toNat)
  case atStart => exact ⟨0, Nat.zero_le _, rfl, hFs0, Below.refl _ _⟩
  obtain ⟨i, hi, rfl, hfs, hbel⟩ := hrel
  obtain ⟨c2, q4⟩ := HC2.out wr hbel
  by_cases hlt : i < m
  · have hi0 : (0 : Int) ≤ (i : Int) := by omega
    have hi1 : (i : Int) < (sn : Int) := by omega
    have hi2 : (i : Int) < x.n := HMN.out i hlt
    obtain ⟨ad, y, rfl, _, hy, y0, y1, y2, y3, y4⟩ := (hrw.below hbel (Nat.le_refl _)).w_ (k := i) (by omega) HSN.out.symm
    have hcl := HDO.out wr i y _ hy hbel hfs
    unfold RW.val RW.sl at hcl
    clear hy
    go_wp2_with (go_at_call 47; go_must (refine hcl.mono ?_); rintro e w3 ⟨v3, rfl, hfs3, hb3⟩)
    go_roundw
    case rel => exact ⟨i + 1, hlt, by go_num, hfs3, hbel.trans (hb3.mono hbel.size)⟩
    case measure => simp [intOf]; omega
  · obtain rfl : i = m := by omega
    have hKr := hK0.up hbel
    have hblkr := hblk.up hbel
    obtain ⟨c0, c1, c2, c3, c4⟩ := blkK hblkr
    have f0 := hblkr.frozen 0
    have f1 := hblkr.frozen 1
    have f2 := hblkr.frozen 2
    have f3 := hblkr.frozen 3
    have f4 := hblkr.frozen 4
    obtain ⟨Al, cl, rfl, hrl⟩ := hfs.form
    obtain ⟨L, hL⟩ : ∃ L, L = F i := ⟨_, rfl⟩
    rw [← hL] at hfs HFM ⊢
    clear hL
    obtain ⟨nl, hnl⟩ : ∃ nl, nl = L.length := ⟨_, rfl⟩
    have hcr := fun (W : World) (h : KAt W base R k) (hv : FsAt W base (.slice Al L.length cl) L) => h.crashed hv
    rw [← hnl] at hcr hfs ⊢
    have HCR := Lib.hid hcr
    clear hnl hcr hrl
    have hbf : Below w.heap.size w wr := hb0.trans (hbel.mono hb0.size)
    rcases HME.out with hme | hme
    · by_cases hlen : i < sn
      · have hi1 : (i : Int) < (sn : Int) := by omega
        go_wp2_with fail
        go_ret
        have hc := HCR.out _ hKr hfs
        rw [HFM.out]
        exact ⟨rfl, hc.1, (((((hbf.mono hbw).setCell hrb _).setCell hrb _).setCell hrb _).setCell hrb _).setCell hrb _, (keepF_below hbf).trans hc.2⟩
      · have hi1 : ¬ (i : Int) < (sn : Int) := by omega
        go_wp2_with fail
        go_ret
        have hc := HCR.out _ hKr hfs
        rw [HFM.out]
        exact ⟨rfl, hc.1, (((((hbf.mono hbw).setCell hrb _).setCell hrb _).setCell hrb _).setCell hrb _).setCell hrb _, (keepF_below hbf).trans hc.2⟩
    · have hi1 : ¬ (i : Int) < (sn : Int) := by have := HSN.out; omega
      clear hme
      go_wp2_with fail
      go_ret
      have hc := HCR.out _ hKr hfs
      rw [HFM.out]
      exact ⟨rfl, hc.1, (((((hbf.mono hbw).setCell hrb _).setCell hrb _).setCell hrb _).setCell hrb _).setCell hrb _, (keepF_below hbf).trans hc.2⟩
end Go.Proofs.YtmeemcafjebanaaGreatDoor
