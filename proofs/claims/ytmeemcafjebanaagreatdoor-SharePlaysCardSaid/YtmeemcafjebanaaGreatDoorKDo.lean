/- The walks of the reference's Do: what is done, and what is refused. -/
import Derived.Test.YtmeemcafjebanaaGreatDoorKWalk2
import Derived.Deep.CutRange
import Derived.Deep.RegionLaw
namespace Go.Proofs.YtmeemcafjebanaaGreatDoor
open Go.RowKit Go.Maps Go.WideMaps

/-- A call of a Go function with two arguments, as one step of a region that draws its order. -/
theorem step_call2 {P : Program} {ops : Array Oper} {o : Oper} {a : Act} {w : World} {K : Act → World → Prop} {Q : Exit → Act → World → Prop} {E : Prop} (hg : o.guard = none) (f : FuncId) (x y : Operand) (t1 t2 : TypeId)
    (hop : o.op = .call { callee := .value (.func f), args := #[x, y], argTypes := #[t1, t2] }) (u v : Value) (hx : a.eval x = u) (hy : a.eval y = v) (eg : ∀ args w, (callFunc f args).run P w = .ok (.enter f args) w) {R : Value → World → Prop}
    (hc : Calls P f #[u, v] w fun e w' => ∃ v, e = .returned v ∧ R v w') (hK : ∀ v w', R v w' → K (a.put o.dst v) w') : if Region.wanted o (yielded ops a.tmps) = true then Oper.wp P o a w K Q else E := by
  have hw : Region.wanted o (yielded ops a.tmps) = true := by simp [Region.wanted, hg]
  rw [if_pos hw]
  have hrun : (execOp a.eval o).run P w = .ok (.enter f #[u, v]) w := by
    have hf : a.eval (.func f) = .func (.func f) #[] #[] := rfl
    simp [execOp, hop, resolve, invoke, hx, hy, hf, Deferred.ofValue, eg]
  unfold Oper.wp
  rw [hrun, Oper.upon_enter]
  refine hc.mono ?_
  rintro e w' ⟨v, rfl, h⟩
  exact hK v w' h
structure KS.Few (k : KS) (n : Nat) : Prop where
  now : k.now.length ≤ n
  safe : k.safe.length ≤ n
  since : k.since.length ≤ n
  steps : k.steps ≤ n
/-- The fault of what is to be done, of kinds 1, 2, 3. -/
def kOpE (k : KS) (x : RW) : Nat :=
  if x.kind = 1 then writeE x.name x.b.length
  else if x.kind = 2 then (if namedB x.to then kHasE k.now x.name else 2)
  else kHasE k.now x.name
def kStopE (k : KS) (e : Nat) : Nat := if decide (0 ≤ k.stop) && decide (k.stop ≤ (k.steps : Int)) then 7 else e
def kDoS (k : KS) (x : RW) : KS := if kStopE k (kOpE k x) = 0 then ⟨doingR k.now x, k.safe, k.since ++ [x], k.steps + 1, k.stop⟩ else k
def kSyncS (k : KS) : KS := if kStopE k 0 = 0 then ⟨k.now, k.now, [], k.steps + 1, k.stop⟩ else k
theorem kStop_zero {k : KS} {e : Nat} (h : kStopE k e = 0) : e = 0 ∧ (k.stop < 0 ∨ (k.steps : Int) < k.stop) := by
  unfold kStopE at h
  split at h
  · cases h
  · rename_i h1
    simp at h1
    exact ⟨h, by omega⟩
theorem kStop_free {k : KS} (h : k.stop < 0 ∨ (k.steps : Int) < k.stop) (e : Nat) : kStopE k e = e := by
  unfold kStopE
  rw [if_neg]
  simp
  omega
theorem kStop_full {k : KS} (h : ¬ (k.stop < 0 ∨ (k.steps : Int) < k.stop)) (e : Nat) : kStopE k e = 7 := by
  unfold kStopE
  rw [if_pos]
  simp
  omega
section
variable {w w' : World} {base R : Nat} {k : KS}
theorem KAt.tick (h : KAt w base R k) : KAt (w.setCell ⟨R, 3, none⟩ (.int .i64 ((k.steps : Int) + 1))) base R ⟨k.now, k.safe, k.since, k.steps + 1, k.stop⟩ ∧ KeepF (offT 48) w (w.setCell ⟨R, 3, none⟩ (.int .i64 ((k.steps : Int) + 1))) := by
  obtain ⟨vn, vs, vw, b, n, s, ow⟩ := h.rows
  have hk := keepT_set b 3 (.int .i64 ((k.steps : Int) + 1))
  have hb := b.set_ 3 (.int .i64 ((k.steps : Int) + 1))
  exact ⟨⟨h.rb, ⟨vn, vs, vw, by simpa using hb, n.keep hk (fun _ => rfl) (fun _ => rfl), s.keep hk (fun _ => rfl) (fun _ => rfl), hk.own ow (fun _ => rfl)⟩, fun x hx => hk.own (h.sinceB x hx) (fun _ => rfl)⟩, hk⟩
theorem KAt.setNow {v : Value} {l : List RFl} (h : KAt w base R k) (hv : FsAt w base v l) : KAt (w.setCell ⟨R, 0, none⟩ v) base R ⟨l, k.safe, k.since, k.steps, k.stop⟩ ∧ KeepF (offT 48) w (w.setCell ⟨R, 0, none⟩ v) := by
  obtain ⟨vn, vs, vw, b, n, s, ow⟩ := h.rows
  have hk := keepT_set b 0 v
  have hb := b.set_ 0 v
  exact ⟨⟨h.rb, ⟨v, vs, vw, by simpa using hb, hv.keep hk (fun _ => rfl) (fun _ => rfl), s.keep hk (fun _ => rfl) (fun _ => rfl), hk.own ow (fun _ => rfl)⟩, fun x hx => hk.own (h.sinceB x hx) (fun _ => rfl)⟩, hk⟩
theorem KAt.setSince {v : Value} {l : List RW} (h : KAt w base R k) (hv : w.ownsRow base 52 5 v l.length (wCells l)) (hl : ∀ x ∈ l, BOk w base x.b x.A x.c) : KAt (w.setCell ⟨R, 2, none⟩ v) base R ⟨k.now, k.safe, l, k.steps, k.stop⟩ ∧ KeepF (offT 48) w (w.setCell ⟨R, 2, none⟩ v) := by
  obtain ⟨vn, vs, vw, b, n, s, ow⟩ := h.rows
  have hk := keepT_set b 2 v
  have hb := b.set_ 2 v
  exact ⟨⟨h.rb, ⟨vn, vs, v, by simpa using hb, n.keep hk (fun _ => rfl) (fun _ => rfl), s.keep hk (fun _ => rfl) (fun _ => rfl), hk.own hv (fun _ => rfl)⟩, fun x hx => hk.own (hl x hx) (fun _ => rfl)⟩, hk⟩
theorem blkK {a b c d e : Value} (h : Blk w R 48 #[a, b, c, d, e]) : w.cell? ⟨R, 0, none⟩ = some a ∧ w.cell? ⟨R, 1, none⟩ = some b ∧ w.cell? ⟨R, 2, none⟩ = some c ∧ w.cell? ⟨R, 3, none⟩ = some d ∧ w.cell? ⟨R, 4, none⟩ = some e := ⟨h.cell 0, h.cell 1, h.cell 2, h.cell 3, h.cell 4⟩
theorem blkW {g : Nat} {a b c d e : Value} (h : Blk w g 52 #[a, b, c, d, e]) : w.cell? ⟨g, 0, none⟩ = some a ∧ w.cell? ⟨g, 1, none⟩ = some b ∧ w.cell? ⟨g, 2, none⟩ = some c ∧ w.cell? ⟨g, 3, none⟩ = some d ∧ w.cell? ⟨g, 4, none⟩ = some e := ⟨h.cell 0, h.cell 1, h.cell 2, h.cell 3, h.cell 4⟩
end
set_option maxRecDepth 100000 in
set_option maxHeartbeats 4000000 in
/-- No more may be done. -/
theorem kdo_full (base R : Nat) (k : KS) (x : RW) (w : World) (h : KAt w base R k) (hk : x.kind = 1 ∨ x.kind = 2 ∨ x.kind = 3 ∨ x.kind = 4) (hst : ¬ (k.stop < 0 ∨ (k.steps : Int) < k.stop)) :
    Calls Tryz.prog 23 #[.pointer (some ⟨R, 0, none⟩), x.val] w fun r w' => r = .returned (.int .i64 7) ∧ Below w.heap.size w w' := by
  obtain ⟨w0, hw0⟩ : ∃ w0, w0 = w.alloc (.cells #[.int .i64 x.kind, .string x.name, .string x.to, x.sl, .int .i64 x.n] 52) := ⟨_, rfl⟩
  have hb0 : Below w.heap.size w w0 := by rw [hw0]; exact (Below.refl _ w).alloc (Nat.le_refl _) _
  have hbx : Blk w0 w.heap.size 52 #[.int .i64 x.kind, .string x.name, .string x.to, x.sl, .int .i64 x.n] := by rw [hw0]; exact Blk.new w _ _
  have hK0 := h.up hb0
  unfold RW.val RW.sl at *
  obtain ⟨q0, q1, q2, q3, q4⟩ := blkW hbx
  obtain ⟨vn, vs, vw, hblk, _⟩ := hK0.rows
  obtain ⟨c0, c1, c2, c3, c4⟩ := blkK hblk
  have hg1 : (0 : Int) ≤ k.stop := by omega
  have hg2 : k.stop ≤ (k.steps : Int) := by omega
  have hn5 : ¬ x.kind = 5 := by omega
  have hn6 : ¬ x.kind = 6 := by omega
  clear hst hk
  generalize k.stop = st at *
  generalize k.steps = sn at *
  go_enter Tryz.func23, Tryz.ntmps23
  go_upto_region 1 with fail
  rw [← hw0]
  clear hw0
  go_upto_region 19 with fail
  go_quiet (fail)
  go_wp2_with fail
  go_ret
  exact ⟨rfl, below_drewN hb0 _⟩
theorem KAt.synced {w : World} {base R : Nat} {k : KS} {vn vs vw : Value} (h : KAt w base R k) (hblk : Blk w R 48 #[vn, vs, vw, .int .i64 k.steps, .int .i64 k.stop]) (hn : FsAt w base vn k.now) :
    KAt (((w.setCell ⟨R, 3, none⟩ (.int .i64 ((k.steps : Int) + 1))).setCell ⟨R, 1, none⟩ vn).setCell ⟨R, 2, none⟩ (.slice none 0 0)) base R ⟨k.now, k.now, [], k.steps + 1, k.stop⟩ ∧ KeepF (offT 48) w (((w.setCell ⟨R, 3, none⟩ (.int .i64 ((k.steps : Int) + 1))).setCell ⟨R, 1, none⟩ vn).setCell ⟨R, 2, none⟩ (.slice none 0 0)) := by
  have k1 := keepT_set hblk 3 (.int .i64 ((k.steps : Int) + 1))
  have b1 := hblk.set_ 3 (.int .i64 ((k.steps : Int) + 1))
  have k2 := keepT_set b1 1 vn
  have b2 := b1.set_ 1 vn
  have k3 := keepT_set b2 2 (.slice none 0 0)
  have b3 := b2.set_ 2 (.slice none 0 0)
  have kk := (k1.trans k2).trans k3
  exact ⟨⟨h.rb, ⟨vn, vn, .slice none 0 0, by simpa using b3, hn.keep kk (fun _ => rfl) (fun _ => rfl), hn.keep kk (fun _ => rfl) (fun _ => rfl), World.ownsRow_nil _ _ _ _⟩, fun x hx => by simp at hx⟩, kk⟩
set_option maxRecDepth 100000 in
set_option maxHeartbeats 4000000 in
theorem kdo_sync (base R n : Nat) (k : KS) (x : RW) (w : World) (h : KAt w base R k) (hbw : base ≤ w.heap.size) (hf : k.Few n) (hn : n ≤ 1000) (hk : x.kind = 4) (hc : k.stop < 0 ∨ (k.steps : Int) < k.stop) :
    Calls Tryz.prog 23 #[.pointer (some ⟨R, 0, none⟩), x.val] w fun r w' => r = .returned (.int .i64 0) ∧ KAt w' base R ⟨k.now, k.now, [], k.steps + 1, k.stop⟩ ∧ Below base w w' ∧ KeepF (offT 48) w w' := by
  have hs5 := hf.steps
  have hrb := h.rb
  obtain ⟨w0, hw0⟩ : ∃ w0, w0 = w.alloc (.cells #[.int .i64 x.kind, .string x.name, .string x.to, x.sl, .int .i64 x.n] 52) := ⟨_, rfl⟩
  have hb0 : Below w.heap.size w w0 := by rw [hw0]; exact (Below.refl _ w).alloc (Nat.le_refl _) _
  have hbx : Blk w0 w.heap.size 52 #[.int .i64 x.kind, .string x.name, .string x.to, x.sl, .int .i64 x.n] := by rw [hw0]; exact Blk.new w _ _
  have hK0 := h.up hb0
  unfold RW.val RW.sl at *
  obtain ⟨q0, q1, q2, q3, q4⟩ := blkW hbx
  obtain ⟨vn, vs, vw, hblk, _⟩ := hK0.rows
  obtain ⟨c0, c1, c2, c3, c4⟩ := blkK hblk
  rw [hk] at *
  clear hk hf
  go_enter Tryz.func23, Tryz.ntmps23
  go_upto_region 1 with fail
  rw [← hw0]
  clear hw0
  go_upto_region 19 with fail
  have HC := Lib.hid hc
  clear hc
  go_cut [88] from 73 to 88 (fun s wx => s = .bool false ∧ ∃ q : Nat, wx = w0.drewN q)
  case first =>
    rcases HC.out with hc | hc
    · have hg1 : decide (0 ≤ k.stop) = false := by simp; omega
      have hg2 : decide (k.stop ≥ 0) = false := by simp; omega
      go_quiet (fail)
      go_wp2_with fail
      go_meet
      exact ⟨rfl, _, rfl⟩
    · have h0 : (0 : Int) ≤ k.stop := by omega
      have hg1 : decide (k.stop ≤ (k.steps : Int)) = false := by simp; omega
      have hg2 : decide ((k.steps : Int) ≥ k.stop) = false := by simp; omega
      go_quiet (fail)
      go_wp2_with fail
      go_meet
      exact ⟨rfl, _, rfl⟩
  case rest =>
    obtain ⟨rfl, q, hq⟩ := hcut
    have hbq : Below w0.heap.size w0 wc := by rw [hq]; exact below_drewN (Below.refl _ _) _
    clear hq c0 c1 c2 c3 c4 q0 q1 q2 q3 q4 hblk
    have hK1 := hK0.up hbq
    have hbx1 := hbx.up hbq
    have hb1 : Below w.heap.size w wc := hb0.trans (hbq.mono hb0.size)
    obtain ⟨q0, q1, q2, q3, q4⟩ := blkW hbx1
    obtain ⟨vn, vs, vw, hblk, hFn, hFs, hFw⟩ := hK1.rows
    obtain ⟨An, cn, rfl, hrn⟩ := hFn.form
    obtain ⟨As, cs, rfl, hrs⟩ := hFs.form
    obtain ⟨Aw, cw, rfl, _, hcw, _, hrw⟩ := own_form hFw
    obtain ⟨c0, c1, c2, c3, c4⟩ := blkK hblk
    have f0 := hblk.frozen 0
    have f1 := hblk.frozen 1
    have f2 := hblk.frozen 2
    have f3 := hblk.frozen 3
    clear hbq hK0 hbx hb0
    have hnm := knamed_any x.name wc
    generalize namedB x.name = nb at *
    go_wp2_with (go_at_call 28; go_must (refine hnm.mono ?_); rintro e w1 ⟨rfl, rfl⟩)
    go_ret
    have hsy := hK1.synced hblk hFn
    exact ⟨rfl, hsy.1, (((hb1.mono hbw).setCell hrb _).setCell hrb _).setCell hrb _, (keepF_below hb1).trans hsy.2⟩
theorem kOp_put {k : KS} {x : RW} (h : x.kind = 1) : kOpE k x = writeE x.name x.b.length := by rw [kOpE, if_pos h]
theorem kOp_ren {k : KS} {x : RW} (h : x.kind = 2) : kOpE k x = if namedB x.to then kHasE k.now x.name else 2 := by rw [kOpE, if_neg (by omega), if_pos h]
theorem kOp_del {k : KS} {x : RW} (h : x.kind = 3) : kOpE k x = kHasE k.now x.name := by rw [kOpE, if_neg (by omega), if_neg (by omega)]
theorem writeE_bad {n : ByteArray} {m : Nat} (h : namedB n = false) : writeE n m = 2 := by rw [writeE, h]; rfl
theorem writeE_long {n : ByteArray} {m : Nat} (h : namedB n = true) (hm : 60000 < m) : writeE n m = 4 := by rw [writeE, h, if_pos rfl, if_pos hm]
theorem writeE_good {n : ByteArray} {m : Nat} (h : namedB n = true) (hm : ¬ 60000 < m) : writeE n m = 0 := by rw [writeE, h, if_pos rfl, if_neg hm]
set_option maxRecDepth 100000 in
set_option maxHeartbeats 8000000 in
/-- It is refused. -/
theorem kdo_no1 (base R : Nat) (k : KS) (x : RW) (w : World) (h : KAt w base R k) (hk : x.kind = 1) (hE : kOpE k x ≠ 0) (hc : k.stop < 0 ∨ (k.steps : Int) < k.stop) :
    Calls Tryz.prog 23 #[.pointer (some ⟨R, 0, none⟩), x.val] w fun r w' => r = .returned (.int .i64 (kOpE k x)) ∧ Below w.heap.size w w' := by
  obtain ⟨E, hEd⟩ : ∃ E, E = kOpE k x := ⟨_, rfl⟩
  rw [← hEd] at hE ⊢
  rw [kOp_put hk] at hEd
  have hrb := h.rb
  obtain ⟨w0, hw0⟩ : ∃ w0, w0 = w.alloc (.cells #[.int .i64 x.kind, .string x.name, .string x.to, x.sl, .int .i64 x.n] 52) := ⟨_, rfl⟩
  have hb0 : Below w.heap.size w w0 := by rw [hw0]; exact (Below.refl _ w).alloc (Nat.le_refl _) _
  have hbx : Blk w0 w.heap.size 52 #[.int .i64 x.kind, .string x.name, .string x.to, x.sl, .int .i64 x.n] := by rw [hw0]; exact Blk.new w _ _
  have hK0 := h.up hb0
  unfold RW.val RW.sl at *
  obtain ⟨q0, q1, q2, q3, q4⟩ := blkW hbx
  obtain ⟨vn, vs, vw, hblk, _⟩ := hK0.rows
  obtain ⟨c0, c1, c2, c3, c4⟩ := blkK hblk
  rw [hk] at *
  clear hk
  rcases hb : namedB x.name
  · have HE := Lib.hid (hEd.trans (writeE_bad hb))
    clear hE hEd
    go_enter Tryz.func23, Tryz.ntmps23
    go_upto_region 1 with fail
    rw [← hw0]
    clear hw0
    go_upto_region 19 with fail
    have HC := Lib.hid hc
    clear hc
    go_cut [88] from 73 to 88 (fun s wx => s = .bool false ∧ ∃ q : Nat, wx = w0.drewN q)
    case first =>
      rcases HC.out with hc | hc
      · have hg1 : decide (0 ≤ k.stop) = false := by simp; omega
        have hg2 : decide (k.stop ≥ 0) = false := by simp; omega
        go_quiet (fail)
        go_wp2_with fail
        go_meet
        exact ⟨rfl, _, rfl⟩
      · have h0 : (0 : Int) ≤ k.stop := by omega
        have hg1 : decide (k.stop ≤ (k.steps : Int)) = false := by simp; omega
        have hg2 : decide ((k.steps : Int) ≥ k.stop) = false := by simp; omega
        go_quiet (fail)
        go_wp2_with fail
        go_meet
        exact ⟨rfl, _, rfl⟩
    case rest =>
      obtain ⟨rfl, q, hq⟩ := hcut
      have hbq : Below w0.heap.size w0 wc := by rw [hq]; exact below_drewN (Below.refl _ _) _
      clear hq c0 c1 c2 c3 c4 q0 q1 q2 q3 q4 hblk
      have hK1 := hK0.up hbq
      have hbx1 := hbx.up hbq
      have hb1 : Below w.heap.size w wc := hb0.trans (hbq.mono hb0.size)
      obtain ⟨q0, q1, q2, q3, q4⟩ := blkW hbx1
      obtain ⟨vn, vs, vw, hblk, hFn, hFs, hFw⟩ := hK1.rows
      obtain ⟨An, cn, rfl, hrn⟩ := hFn.form
      obtain ⟨As, cs, rfl, hrs⟩ := hFs.form
      obtain ⟨Aw, cw, rfl, _, hcw, _, hrw⟩ := own_form hFw
      obtain ⟨c0, c1, c2, c3, c4⟩ := blkK hblk
      have f0 := hblk.frozen 0
      have f1 := hblk.frozen 1
      have f2 := hblk.frozen 2
      have f3 := hblk.frozen 3
      clear hbq hK0 hbx hb0
      have HNM := Lib.hid (fun (s : ByteArray) (W : World) => knamed_any s W)
      go_wp2_with (go_at_call 28; go_must (refine (HNM.out _ _).mono ?_); rintro e w1 ⟨rfl, rfl⟩)
      go_ret
      rw [HE.out]
      exact ⟨rfl, hb1⟩
  · by_cases h6 : 60000 < x.b.length
    · have HE := Lib.hid (hEd.trans (writeE_long hb h6))
      have h6i : (60000 : Int) < (x.b.length : Int) := by omega
      clear hE hEd
      go_enter Tryz.func23, Tryz.ntmps23
      go_upto_region 1 with fail
      rw [← hw0]
      clear hw0
      go_upto_region 19 with fail
      have HC := Lib.hid hc
      clear hc
      go_cut [88] from 73 to 88 (fun s wx => s = .bool false ∧ ∃ q : Nat, wx = w0.drewN q)
      case first =>
        rcases HC.out with hc | hc
        · have hg1 : decide (0 ≤ k.stop) = false := by simp; omega
          have hg2 : decide (k.stop ≥ 0) = false := by simp; omega
          go_quiet (fail)
          go_wp2_with fail
          go_meet
          exact ⟨rfl, _, rfl⟩
        · have h0 : (0 : Int) ≤ k.stop := by omega
          have hg1 : decide (k.stop ≤ (k.steps : Int)) = false := by simp; omega
          have hg2 : decide ((k.steps : Int) ≥ k.stop) = false := by simp; omega
          go_quiet (fail)
          go_wp2_with fail
          go_meet
          exact ⟨rfl, _, rfl⟩
      case rest =>
        obtain ⟨rfl, q, hq⟩ := hcut
        have hbq : Below w0.heap.size w0 wc := by rw [hq]; exact below_drewN (Below.refl _ _) _
        clear hq c0 c1 c2 c3 c4 q0 q1 q2 q3 q4 hblk
        have hK1 := hK0.up hbq
        have hbx1 := hbx.up hbq
        have hb1 : Below w.heap.size w wc := hb0.trans (hbq.mono hb0.size)
        obtain ⟨q0, q1, q2, q3, q4⟩ := blkW hbx1
        obtain ⟨vn, vs, vw, hblk, hFn, hFs, hFw⟩ := hK1.rows
        obtain ⟨An, cn, rfl, hrn⟩ := hFn.form
        obtain ⟨As, cs, rfl, hrs⟩ := hFs.form
        obtain ⟨Aw, cw, rfl, _, hcw, _, hrw⟩ := own_form hFw
        obtain ⟨c0, c1, c2, c3, c4⟩ := blkK hblk
        have f0 := hblk.frozen 0
        have f1 := hblk.frozen 1
        have f2 := hblk.frozen 2
        have f3 := hblk.frozen 3
        clear hbq hK0 hbx hb0
        have HNM := Lib.hid (fun (s : ByteArray) (W : World) => knamed_any s W)
        go_wp2_with (go_at_call 28; go_must (refine (HNM.out _ _).mono ?_); rintro e w1 ⟨rfl, rfl⟩)
        go_ret
        rw [HE.out]
        exact ⟨rfl, hb1⟩
    · exact absurd (hEd.trans (writeE_good hb h6)) hE
set_option maxRecDepth 100000 in
set_option maxHeartbeats 8000000 in
theorem kdo_no3 (base R : Nat) (k : KS) (x : RW) (w : World) (h : KAt w base R k) (hk : x.kind = 3) (hE : kOpE k x ≠ 0) (hc : k.stop < 0 ∨ (k.steps : Int) < k.stop) (hlen : k.now.length ≤ 10000) :
    Calls Tryz.prog 23 #[.pointer (some ⟨R, 0, none⟩), x.val] w fun r w' => r = .returned (.int .i64 (kOpE k x)) ∧ Below w.heap.size w w' := by
  obtain ⟨E, hEd⟩ : ∃ E, E = kOpE k x := ⟨_, rfl⟩
  rw [← hEd] at hE ⊢
  rw [kOp_del hk] at hEd
  have hrb := h.rb
  obtain ⟨w0, hw0⟩ : ∃ w0, w0 = w.alloc (.cells #[.int .i64 x.kind, .string x.name, .string x.to, x.sl, .int .i64 x.n] 52) := ⟨_, rfl⟩
  have hb0 : Below w.heap.size w w0 := by rw [hw0]; exact (Below.refl _ w).alloc (Nat.le_refl _) _
  have hbx : Blk w0 w.heap.size 52 #[.int .i64 x.kind, .string x.name, .string x.to, x.sl, .int .i64 x.n] := by rw [hw0]; exact Blk.new w _ _
  have hK0 := h.up hb0
  unfold RW.val RW.sl at *
  obtain ⟨q0, q1, q2, q3, q4⟩ := blkW hbx
  obtain ⟨vn, vs, vw, hblk, _⟩ := hK0.rows
  obtain ⟨c0, c1, c2, c3, c4⟩ := blkK hblk
  rw [hk] at *
  clear hk
  rcases hb : namedB x.name
  · have HE := Lib.hid (hEd.trans (kHasE_bad hb))
    clear hE hEd
    go_enter Tryz.func23, Tryz.ntmps23
    go_upto_region 1 with fail
    rw [← hw0]
    clear hw0
    go_upto_region 19 with fail
    have HC := Lib.hid hc
    clear hc
    go_cut [88] from 73 to 88 (fun s wx => s = .bool false ∧ ∃ q : Nat, wx = w0.drewN q)
    case first =>
      rcases HC.out with hc | hc
      · have hg1 : decide (0 ≤ k.stop) = false := by simp; omega
        have hg2 : decide (k.stop ≥ 0) = false := by simp; omega
        go_quiet (fail)
        go_wp2_with fail
        go_meet
        exact ⟨rfl, _, rfl⟩
      · have h0 : (0 : Int) ≤ k.stop := by omega
        have hg1 : decide (k.stop ≤ (k.steps : Int)) = false := by simp; omega
        have hg2 : decide ((k.steps : Int) ≥ k.stop) = false := by simp; omega
        go_quiet (fail)
        go_wp2_with fail
        go_meet
        exact ⟨rfl, _, rfl⟩
    case rest =>
      obtain ⟨rfl, q, hq⟩ := hcut
      have hbq : Below w0.heap.size w0 wc := by rw [hq]; exact below_drewN (Below.refl _ _) _
      clear hq c0 c1 c2 c3 c4 q0 q1 q2 q3 q4 hblk
      have hK1 := hK0.up hbq
      have hbx1 := hbx.up hbq
      have hb1 : Below w.heap.size w wc := hb0.trans (hbq.mono hb0.size)
      obtain ⟨q0, q1, q2, q3, q4⟩ := blkW hbx1
      obtain ⟨vn, vs, vw, hblk, hFn, hFs, hFw⟩ := hK1.rows
      obtain ⟨An, cn, rfl, hrn⟩ := hFn.form
      obtain ⟨As, cs, rfl, hrs⟩ := hFs.form
      obtain ⟨Aw, cw, rfl, _, hcw, _, hrw⟩ := own_form hFw
      obtain ⟨c0, c1, c2, c3, c4⟩ := blkK hblk
      have f0 := hblk.frozen 0
      have f1 := hblk.frozen 1
      have f2 := hblk.frozen 2
      have f3 := hblk.frozen 3
      clear hbq hK0 hbx hb0
      have HNM := Lib.hid (fun (s : ByteArray) (W : World) => knamed_any s W)
      go_wp2_with (go_at_call 28; go_must (refine (HNM.out _ _).mono ?_); rintro e w1 ⟨rfl, rfl⟩)
      go_ret
      rw [HE.out]
      exact ⟨rfl, hb1⟩
  · rcases hi : idxN x.name k.now with _ | i
    · have HE := Lib.hid (hEd.trans (kHasE_none hb hi))
      have HIX := Lib.hid (idxI_none hi)
      clear hE hi hEd
      go_enter Tryz.func23, Tryz.ntmps23
      go_upto_region 1 with fail
      rw [← hw0]
      clear hw0
      go_upto_region 19 with fail
      have HC := Lib.hid hc
      clear hc
      go_cut [88] from 73 to 88 (fun s wx => s = .bool false ∧ ∃ q : Nat, wx = w0.drewN q)
      case first =>
        rcases HC.out with hc | hc
        · have hg1 : decide (0 ≤ k.stop) = false := by simp; omega
          have hg2 : decide (k.stop ≥ 0) = false := by simp; omega
          go_quiet (fail)
          go_wp2_with fail
          go_meet
          exact ⟨rfl, _, rfl⟩
        · have h0 : (0 : Int) ≤ k.stop := by omega
          have hg1 : decide (k.stop ≤ (k.steps : Int)) = false := by simp; omega
          have hg2 : decide ((k.steps : Int) ≥ k.stop) = false := by simp; omega
          go_quiet (fail)
          go_wp2_with fail
          go_meet
          exact ⟨rfl, _, rfl⟩
      case rest =>
        obtain ⟨rfl, q, hq⟩ := hcut
        have hbq : Below w0.heap.size w0 wc := by rw [hq]; exact below_drewN (Below.refl _ _) _
        clear hq c0 c1 c2 c3 c4 q0 q1 q2 q3 q4 hblk
        have hK1 := hK0.up hbq
        have hbx1 := hbx.up hbq
        have hb1 : Below w.heap.size w wc := hb0.trans (hbq.mono hb0.size)
        obtain ⟨q0, q1, q2, q3, q4⟩ := blkW hbx1
        obtain ⟨vn, vs, vw, hblk, hFn, hFs, hFw⟩ := hK1.rows
        obtain ⟨An, cn, rfl, hrn⟩ := hFn.form
        obtain ⟨As, cs, rfl, hrs⟩ := hFs.form
        obtain ⟨Aw, cw, rfl, _, hcw, _, hrw⟩ := own_form hFw
        obtain ⟨c0, c1, c2, c3, c4⟩ := blkK hblk
        have f0 := hblk.frozen 0
        have f1 := hblk.frozen 1
        have f2 := hblk.frozen 2
        have f3 := hblk.frozen 3
        clear hbq hK0 hbx hb0
        have HNM := Lib.hid (fun (s : ByteArray) (W : World) => knamed_any s W)
        have hfi := fun (W : World) (hr : Rd W wc.heap.size 2 An k.now.length (fCells k.now)) => kfind_any An cn k.now.length wc.heap.size k.now x.name W hr rfl (by omega)
        rw [HIX.out] at hfi
        go_upto_region 30 with (go_at_call 28; go_must (refine (HNM.out _ _).mono ?_); rintro e w1 ⟨rfl, rfl⟩)
        go_quiet (first
          | (go_at_call 48; refine Calls.quiet_of_same (hfi _ ?_); exact hrn))
        go_wp2_with fail
        go_ret
        rw [HE.out]
        exact ⟨rfl, below_drewN hb1 _⟩
    · exact absurd (hEd.trans (kHasE_some hb hi)) hE
set_option maxRecDepth 100000 in
set_option maxHeartbeats 8000000 in
theorem kdo_no2 (base R : Nat) (k : KS) (x : RW) (w : World) (h : KAt w base R k) (hk : x.kind = 2) (hE : kOpE k x ≠ 0) (hc : k.stop < 0 ∨ (k.steps : Int) < k.stop) (hlen : k.now.length ≤ 10000) :
    Calls Tryz.prog 23 #[.pointer (some ⟨R, 0, none⟩), x.val] w fun r w' => r = .returned (.int .i64 (kOpE k x)) ∧ Below w.heap.size w w' := by
  obtain ⟨E, hEd⟩ : ∃ E, E = kOpE k x := ⟨_, rfl⟩
  rw [← hEd] at hE ⊢
  rw [kOp_ren hk] at hEd
  have hrb := h.rb
  obtain ⟨w0, hw0⟩ : ∃ w0, w0 = w.alloc (.cells #[.int .i64 x.kind, .string x.name, .string x.to, x.sl, .int .i64 x.n] 52) := ⟨_, rfl⟩
  have hb0 : Below w.heap.size w w0 := by rw [hw0]; exact (Below.refl _ w).alloc (Nat.le_refl _) _
  have hbx : Blk w0 w.heap.size 52 #[.int .i64 x.kind, .string x.name, .string x.to, x.sl, .int .i64 x.n] := by rw [hw0]; exact Blk.new w _ _
  have hK0 := h.up hb0
  unfold RW.val RW.sl at *
  obtain ⟨q0, q1, q2, q3, q4⟩ := blkW hbx
  obtain ⟨vn, vs, vw, hblk, _⟩ := hK0.rows
  obtain ⟨c0, c1, c2, c3, c4⟩ := blkK hblk
  rw [hk] at *
  clear hk
  rcases hb : namedB x.name
  · have HE : Hid (E = 2) := Lib.hid (by rw [hEd, kHasE_bad hb]; split <;> rfl)
    clear hE hEd
    rcases hb2 : namedB x.to
    · skip
      go_enter Tryz.func23, Tryz.ntmps23
      go_upto_region 1 with fail
      rw [← hw0]
      clear hw0
      go_upto_region 19 with fail
      have HC := Lib.hid hc
      clear hc
      go_cut [88] from 73 to 88 (fun s wx => s = .bool false ∧ ∃ q : Nat, wx = w0.drewN q)
      case first =>
        rcases HC.out with hc | hc
        · have hg1 : decide (0 ≤ k.stop) = false := by simp; omega
          have hg2 : decide (k.stop ≥ 0) = false := by simp; omega
          go_quiet (fail)
          go_wp2_with fail
          go_meet
          exact ⟨rfl, _, rfl⟩
        · have h0 : (0 : Int) ≤ k.stop := by omega
          have hg1 : decide (k.stop ≤ (k.steps : Int)) = false := by simp; omega
          have hg2 : decide ((k.steps : Int) ≥ k.stop) = false := by simp; omega
          go_quiet (fail)
          go_wp2_with fail
          go_meet
          exact ⟨rfl, _, rfl⟩
      case rest =>
        obtain ⟨rfl, q, hq⟩ := hcut
        have hbq : Below w0.heap.size w0 wc := by rw [hq]; exact below_drewN (Below.refl _ _) _
        clear hq c0 c1 c2 c3 c4 q0 q1 q2 q3 q4 hblk
        have hK1 := hK0.up hbq
        have hbx1 := hbx.up hbq
        have hb1 : Below w.heap.size w wc := hb0.trans (hbq.mono hb0.size)
        obtain ⟨q0, q1, q2, q3, q4⟩ := blkW hbx1
        obtain ⟨vn, vs, vw, hblk, hFn, hFs, hFw⟩ := hK1.rows
        obtain ⟨An, cn, rfl, hrn⟩ := hFn.form
        obtain ⟨As, cs, rfl, hrs⟩ := hFs.form
        obtain ⟨Aw, cw, rfl, _, hcw, _, hrw⟩ := own_form hFw
        obtain ⟨c0, c1, c2, c3, c4⟩ := blkK hblk
        have f0 := hblk.frozen 0
        have f1 := hblk.frozen 1
        have f2 := hblk.frozen 2
        have f3 := hblk.frozen 3
        clear hbq hK0 hbx hb0
        have HNM := Lib.hid (fun (s : ByteArray) (W : World) => knamed_any s W)
        go_wp2_with (go_at_call 28; go_must (refine (HNM.out _ _).mono ?_); rintro e w1 ⟨rfl, rfl⟩)
        go_ret
        rw [HE.out]
        exact ⟨rfl, hb1⟩
    · skip
      go_enter Tryz.func23, Tryz.ntmps23
      go_upto_region 1 with fail
      rw [← hw0]
      clear hw0
      go_upto_region 19 with fail
      have HC := Lib.hid hc
      clear hc
      go_cut [88] from 73 to 88 (fun s wx => s = .bool false ∧ ∃ q : Nat, wx = w0.drewN q)
      case first =>
        rcases HC.out with hc | hc
        · have hg1 : decide (0 ≤ k.stop) = false := by simp; omega
          have hg2 : decide (k.stop ≥ 0) = false := by simp; omega
          go_quiet (fail)
          go_wp2_with fail
          go_meet
          exact ⟨rfl, _, rfl⟩
        · have h0 : (0 : Int) ≤ k.stop := by omega
          have hg1 : decide (k.stop ≤ (k.steps : Int)) = false := by simp; omega
          have hg2 : decide ((k.steps : Int) ≥ k.stop) = false := by simp; omega
          go_quiet (fail)
          go_wp2_with fail
          go_meet
          exact ⟨rfl, _, rfl⟩
      case rest =>
        obtain ⟨rfl, q, hq⟩ := hcut
        have hbq : Below w0.heap.size w0 wc := by rw [hq]; exact below_drewN (Below.refl _ _) _
        clear hq c0 c1 c2 c3 c4 q0 q1 q2 q3 q4 hblk
        have hK1 := hK0.up hbq
        have hbx1 := hbx.up hbq
        have hb1 : Below w.heap.size w wc := hb0.trans (hbq.mono hb0.size)
        obtain ⟨q0, q1, q2, q3, q4⟩ := blkW hbx1
        obtain ⟨vn, vs, vw, hblk, hFn, hFs, hFw⟩ := hK1.rows
        obtain ⟨An, cn, rfl, hrn⟩ := hFn.form
        obtain ⟨As, cs, rfl, hrs⟩ := hFs.form
        obtain ⟨Aw, cw, rfl, _, hcw, _, hrw⟩ := own_form hFw
        obtain ⟨c0, c1, c2, c3, c4⟩ := blkK hblk
        have f0 := hblk.frozen 0
        have f1 := hblk.frozen 1
        have f2 := hblk.frozen 2
        have f3 := hblk.frozen 3
        clear hbq hK0 hbx hb0
        have HNM := Lib.hid (fun (s : ByteArray) (W : World) => knamed_any s W)
        go_wp2_with (go_at_call 28; go_must (refine (HNM.out _ _).mono ?_); rintro e w1 ⟨rfl, rfl⟩)
        go_ret
        rw [HE.out]
        exact ⟨rfl, hb1⟩
  · rcases hb2 : namedB x.to
    · have HE : Hid (E = 2) := Lib.hid (by rw [hEd, hb2]; rfl)
      clear hE hEd
      go_enter Tryz.func23, Tryz.ntmps23
      go_upto_region 1 with fail
      rw [← hw0]
      clear hw0
      go_upto_region 19 with fail
      have HC := Lib.hid hc
      clear hc
      go_cut [88] from 73 to 88 (fun s wx => s = .bool false ∧ ∃ q : Nat, wx = w0.drewN q)
      case first =>
        rcases HC.out with hc | hc
        · have hg1 : decide (0 ≤ k.stop) = false := by simp; omega
          have hg2 : decide (k.stop ≥ 0) = false := by simp; omega
          go_quiet (fail)
          go_wp2_with fail
          go_meet
          exact ⟨rfl, _, rfl⟩
        · have h0 : (0 : Int) ≤ k.stop := by omega
          have hg1 : decide (k.stop ≤ (k.steps : Int)) = false := by simp; omega
          have hg2 : decide ((k.steps : Int) ≥ k.stop) = false := by simp; omega
          go_quiet (fail)
          go_wp2_with fail
          go_meet
          exact ⟨rfl, _, rfl⟩
      case rest =>
        obtain ⟨rfl, q, hq⟩ := hcut
        have hbq : Below w0.heap.size w0 wc := by rw [hq]; exact below_drewN (Below.refl _ _) _
        clear hq c0 c1 c2 c3 c4 q0 q1 q2 q3 q4 hblk
        have hK1 := hK0.up hbq
        have hbx1 := hbx.up hbq
        have hb1 : Below w.heap.size w wc := hb0.trans (hbq.mono hb0.size)
        obtain ⟨q0, q1, q2, q3, q4⟩ := blkW hbx1
        obtain ⟨vn, vs, vw, hblk, hFn, hFs, hFw⟩ := hK1.rows
        obtain ⟨An, cn, rfl, hrn⟩ := hFn.form
        obtain ⟨As, cs, rfl, hrs⟩ := hFs.form
        obtain ⟨Aw, cw, rfl, _, hcw, _, hrw⟩ := own_form hFw
        obtain ⟨c0, c1, c2, c3, c4⟩ := blkK hblk
        have f0 := hblk.frozen 0
        have f1 := hblk.frozen 1
        have f2 := hblk.frozen 2
        have f3 := hblk.frozen 3
        clear hbq hK0 hbx hb0
        have HNM := Lib.hid (fun (s : ByteArray) (W : World) => knamed_any s W)
        go_wp2_with (go_at_call 28; go_must (refine (HNM.out _ _).mono ?_); rintro e w1 ⟨rfl, rfl⟩)
        go_ret
        rw [HE.out]
        exact ⟨rfl, hb1⟩
    · rw [hb2] at hEd
      rcases hi : idxN x.name k.now with _ | i
      · have HE : Hid (E = 6) := Lib.hid (hEd.trans (kHasE_none hb hi))
        have HIX := Lib.hid (idxI_none hi)
        clear hE hi hEd
        go_enter Tryz.func23, Tryz.ntmps23
        go_upto_region 1 with fail
        rw [← hw0]
        clear hw0
        go_upto_region 19 with fail
        have HC := Lib.hid hc
        clear hc
        go_cut [88] from 73 to 88 (fun s wx => s = .bool false ∧ ∃ q : Nat, wx = w0.drewN q)
        case first =>
          rcases HC.out with hc | hc
          · have hg1 : decide (0 ≤ k.stop) = false := by simp; omega
            have hg2 : decide (k.stop ≥ 0) = false := by simp; omega
            go_quiet (fail)
            go_wp2_with fail
            go_meet
            exact ⟨rfl, _, rfl⟩
          · have h0 : (0 : Int) ≤ k.stop := by omega
            have hg1 : decide (k.stop ≤ (k.steps : Int)) = false := by simp; omega
            have hg2 : decide ((k.steps : Int) ≥ k.stop) = false := by simp; omega
            go_quiet (fail)
            go_wp2_with fail
            go_meet
            exact ⟨rfl, _, rfl⟩
        case rest =>
          obtain ⟨rfl, q, hq⟩ := hcut
          have hbq : Below w0.heap.size w0 wc := by rw [hq]; exact below_drewN (Below.refl _ _) _
          clear hq c0 c1 c2 c3 c4 q0 q1 q2 q3 q4 hblk
          have hK1 := hK0.up hbq
          have hbx1 := hbx.up hbq
          have hb1 : Below w.heap.size w wc := hb0.trans (hbq.mono hb0.size)
          obtain ⟨q0, q1, q2, q3, q4⟩ := blkW hbx1
          obtain ⟨vn, vs, vw, hblk, hFn, hFs, hFw⟩ := hK1.rows
          obtain ⟨An, cn, rfl, hrn⟩ := hFn.form
          obtain ⟨As, cs, rfl, hrs⟩ := hFs.form
          obtain ⟨Aw, cw, rfl, _, hcw, _, hrw⟩ := own_form hFw
          obtain ⟨c0, c1, c2, c3, c4⟩ := blkK hblk
          have f0 := hblk.frozen 0
          have f1 := hblk.frozen 1
          have f2 := hblk.frozen 2
          have f3 := hblk.frozen 3
          clear hbq hK0 hbx hb0
          have HNM := Lib.hid (fun (s : ByteArray) (W : World) => knamed_any s W)
          have hfi := fun (W : World) (hr : Rd W wc.heap.size 2 An k.now.length (fCells k.now)) => kfind_any An cn k.now.length wc.heap.size k.now x.name W hr rfl (by omega)
          rw [HIX.out] at hfi
          go_upto_region 30 with (go_at_call 28; go_must (refine (HNM.out _ _).mono ?_); rintro e w1 ⟨rfl, rfl⟩)
          go_quiet (first
            | (go_at_call 48; refine Calls.quiet_of_same (hfi _ ?_); exact hrn))
          go_wp2_with fail
          go_ret
          rw [HE.out]
          exact ⟨rfl, below_drewN hb1 _⟩
      · exact absurd (hEd.trans (kHasE_some hb hi)) hE
end Go.Proofs.YtmeemcafjebanaaGreatDoor
