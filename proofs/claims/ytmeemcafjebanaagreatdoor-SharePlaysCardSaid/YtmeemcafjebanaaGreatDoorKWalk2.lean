/- The walks of the reference's doing and Read, and of the law's file names. -/
import Derived.Test.YtmeemcafjebanaaGreatDoorKWalk1
import Derived.Test.YtmeemcafjebanaaGreatDoorKNamed
namespace Go.Proofs.YtmeemcafjebanaaGreatDoor
open Go.RowKit Go.Maps Go.WideMaps

theorem bok_nil (w : World) (base : Nat) : BOk w base [] none 0 := World.ownsRow_nil _ _ _ _
theorem FsAt.form {w : World} {base : Nat} {v : Value} {l : List RFl} (h : FsAt w base v l) : ∃ A c, v = .slice A l.length c ∧ Rd w w.heap.size 2 A l.length (fCells l) := by
  obtain ⟨A, c, rfl, _, _, _, hr⟩ := own_form h.1
  exact ⟨A, c, rfl, hr⟩
theorem FsAt.with_ {w w' : World} {base : Nat} {v v' : Value} {l : List RFl} {e : RFl} {gone : Bool} (h : FsAt w base v l) (he : BOk w base e.b e.A e.c) (hbw : base ≤ w.heap.size) (hb : Below w.heap.size w w') (ho : w'.ownsRow w.heap.size 61 2 v' (withR e l gone).length (fCells (withR e l gone))) : FsAt w' base v' (withR e l gone) := by
  refine ⟨own_base ho hbw, fun x hx => ?_⟩
  rcases withR_mem hx with rfl | hx
  · exact own_up he hb
  · exact own_up (h.2 x hx) hb
/-- 'with', as files in memory. -/
theorem kwith_fs (base : Nat) (v : Value) (l : List RFl) (e : RFl) (gone : Bool) (w : World) (h : FsAt w base v l) (he : BOk w base e.b e.A e.c) (hbw : base ≤ w.heap.size) (hn : l.length ≤ 100000) :
    Calls Tryz.prog 61 #[v, .string e.name, .slice e.A e.b.length e.c, .bool gone] w fun r w' => ∃ v', r = .returned v' ∧ FsAt w' base v' (withR e l gone) ∧ Below w.heap.size w w' := by
  obtain ⟨A, c, rfl, hr⟩ := h.form
  refine (kwith_any A c l.length w.heap.size l e gone w hr rfl (Nat.le_refl _) hn).mono fun r w' ⟨v', hv, ho, hb⟩ => ⟨v', hv, h.with_ he hbw hb ho, hb⟩
theorem doing_put {l : List RFl} {w : RW} (h : w.kind = 1) : doingR l w = withR ⟨w.name, w.b, w.A, w.c⟩ l false := by rw [doingR, if_pos h]
theorem doing_ren {l : List RFl} {w : RW} (h : w.kind = 2) : doingR l w = moveR l w.name w.to (atR w.name l) := by rw [doingR, if_neg (by omega), if_pos h]
theorem doing_del {l : List RFl} {w : RW} (h : w.kind = 3) : doingR l w = withR (noR w.name) l true := by rw [doingR, if_neg (by omega), if_neg (by omega), if_pos h]
set_option maxRecDepth 100000 in
set_option maxHeartbeats 4000000 in
theorem kdoing_any (base : Nat) (v : Value) (l : List RFl) (x : RW) (w : World) (h : FsAt w base v l) (hx : BOk w base x.b x.A x.c) (hbw : base ≤ w.heap.size) (hn : l.length ≤ 10000) (hk : x.kind = 1 ∨ x.kind = 2 ∨ x.kind = 3) :
    Calls Tryz.prog 47 #[v, x.val] w fun r w' => ∃ v', r = .returned v' ∧ FsAt w' base v' (doingR l x) ∧ Below w.heap.size w w' := by
  obtain ⟨w0, hw0⟩ : ∃ w0, w0 = w.alloc (.cells #[.int .i64 x.kind, .string x.name, .string x.to, x.sl, .int .i64 x.n] 52) := ⟨_, rfl⟩
  have hb0 : Below w.heap.size w w0 := by rw [hw0]; exact (Below.refl _ w).alloc (Nat.le_refl _) _
  have hbx : Blk w0 w.heap.size 52 #[.int .i64 x.kind, .string x.name, .string x.to, x.sl, .int .i64 x.n] := by rw [hw0]; exact Blk.new w _ _
  have h0 := h.up hb0
  have hx0 : BOk w0 base x.b x.A x.c := own_up hx hb0
  have hbw0 := Nat.le_trans hbw hb0.size
  have hcut : ∀ (W : World), Below w0.heap.size w0 W → W.cell? ⟨w.heap.size, 1, none⟩ = some (.string x.name) ∧ W.cell? ⟨w.heap.size, 2, none⟩ = some (.string x.to) := fun W hb => ⟨by have := (hbx.up hb).cell 1; simpa using this, by have := (hbx.up hb).cell 2; simpa using this⟩
  have HCUT := Lib.hid hcut
  have q0 := hbx.cell 0
  have q1 := hbx.cell 1
  have q2 := hbx.cell 2
  have q3 := hbx.cell 3
  simp at q0 q1 q2 q3
  clear hcut h hx
  unfold RW.val
  rcases hk with hk | hk | hk
  · have HD := Lib.hid (doing_put (l := l) hk)
    have hwt := kwith_fs base v l ⟨x.name, x.b, x.A, x.c⟩ false w0 h0 hx0 hbw0 (by omega)
    rw [hk] at q0 hw0 ⊢
    clear hk
    unfold RW.sl at *
    go_enter Tryz.func47, Tryz.ntmps47
    go_upto_region 1 with fail
    rw [← hw0]
    clear hw0
    go_wp2_with (go_at_call 61; go_must (refine hwt.mono ?_); rintro e w1 ⟨v1, rfl, hfs, hb1⟩)
    go_ret
    rw [HD.out]
    exact ⟨v1, rfl, hfs, hb0.trans (hb1.mono hb0.size)⟩
  · have HD := Lib.hid (doing_ren (l := l) hk)
    rw [hk] at q0 hw0 ⊢
    clear hk
    unfold RW.sl at *
    obtain ⟨A, c, rfl, hr⟩ := h0.form
    have hfi := kfind_any A c l.length w0.heap.size l x.name w0 hr rfl (by omega)
    rcases hi : idxN x.name l with _ | i
    · have HA := Lib.hid (idxN_none hi)
      rw [show idxI x.name l = -1 from by rw [idxI, hi]] at hfi
      clear hi
      go_enter Tryz.func47, Tryz.ntmps47
      go_upto_region 1 with fail
      rw [← hw0]
      clear hw0
      go_wp2_with (go_at_call 48; go_must (refine hfi.mono ?_); rintro e w1 ⟨rfl, rfl⟩)
      go_ret
      rw [HD.out, HA.out]
      exact ⟨_, rfl, h0, hb0⟩
    · obtain ⟨y, hy, hat⟩ := idxN_some hi
      have hil := (List.getElem?_eq_some_iff.1 hy).1
      obtain ⟨ad, y', rfl, _, hy', _, y1⟩ := hr.fl_ (k := i) hil rfl
      obtain rfl : y = y' := by rw [hy] at hy'; injection hy'
      have HA := Lib.hid hat
      have hby : BOk w0 base y.b y.A y.c := h0.2 y (List.mem_of_getElem? hy)
      rw [show idxI x.name l = (i : Int) from by rw [idxI, hi]] at hfi
      have hw1 := kwith_fs base _ l (noR x.name) true w0 h0 (bok_nil _ _) hbw0 (by omega)
      have hlen : (withR (noR x.name) l true).length ≤ 100000 := by have := withR_len (noR x.name) l true; omega
      have HW2 := Lib.hid (fun (W : World) (v1 : Value) (hb : Below w0.heap.size w0 W) (hfs : FsAt W base v1 (withR (noR x.name) l true)) => kwith_fs base v1 _ ⟨x.to, y.b, y.A, y.c⟩ false W hfs (own_up hby hb) (Nat.le_trans hbw0 hb.size) hlen)
      clear hi hy hy' hat
      have hi0 : (0 : Int) ≤ (i : Int) := by omega
      have hi1 : (i : Int) < (l.length : Int) := by omega
      go_enter Tryz.func47, Tryz.ntmps47
      go_upto_region 1 with fail
      rw [← hw0]
      clear hw0
      go_upto_region 10 with (first
        | (go_at_call 48; go_must (refine hfi.mono ?_); rintro e w1 ⟨rfl, rfl⟩)
        | (go_at_call 61; go_must (refine hw1.mono ?_); rintro e w1 ⟨v1, rfl, hfs1, hb1⟩; obtain ⟨p1, p2⟩ := HCUT.out w1 hb1))
      have hw2 := HW2.out _ v1 hb1 hfs1
      clear hw1
      go_wp2_with (go_at_call 61; go_must (refine hw2.mono ?_); rintro e w2 ⟨v2, rfl, hfs2, hb2⟩)
      go_ret
      rw [HD.out, HA.out]
      exact ⟨v2, rfl, hfs2, hb0.trans ((hb1.mono hb0.size).trans (hb2.mono (Nat.le_trans hb0.size hb1.size)))⟩
  · have HD := Lib.hid (doing_del (l := l) hk)
    have hwt := kwith_fs base v l (noR x.name) true w0 h0 (bok_nil _ _) hbw0 (by omega)
    rw [hk] at q0 hw0 ⊢
    clear hk
    unfold RW.sl at *
    go_enter Tryz.func47, Tryz.ntmps47
    go_upto_region 1 with fail
    rw [← hw0]
    clear hw0
    go_wp2_with (go_at_call 61; go_must (refine hwt.mono ?_); rintro e w1 ⟨v1, rfl, hfs, hb1⟩)
    go_ret
    rw [HD.out]
    exact ⟨v1, rfl, hfs, hb0.trans (hb1.mono hb0.size)⟩
def kHasE (l : List RFl) (n : ByteArray) : Nat := if namedB n then (if (atR n l).isSome then 0 else 6) else 2
def kReadB (l : List RFl) (n : ByteArray) : List UInt8 := if kHasE l n = 0 then ((atR n l).map RFl.b).getD [] else []
theorem kHasE_bad {l : List RFl} {n : ByteArray} (h : namedB n = false) : kHasE l n = 2 := by rw [kHasE, h]; rfl
theorem kHasE_none {l : List RFl} {n : ByteArray} (h : namedB n = true) (hi : idxN n l = none) : kHasE l n = 6 := by rw [kHasE, h, idxN_none hi]; rfl
theorem kHasE_some {l : List RFl} {n : ByteArray} {i : Nat} (h : namedB n = true) (hi : idxN n l = some i) : kHasE l n = 0 := by
  obtain ⟨x, _, hx⟩ := idxN_some hi
  rw [kHasE, h, hx]; rfl
theorem idxI_some {l : List RFl} {n : ByteArray} {i : Nat} (h : idxN n l = some i) : idxI n l = (i : Int) := by rw [idxI, h]
theorem idxI_none {l : List RFl} {n : ByteArray} (h : idxN n l = none) : idxI n l = -1 := by rw [idxI, h]
set_option maxRecDepth 100000 in
set_option maxHeartbeats 4000000 in
theorem kread_any (base R : Nat) (k : KS) (name : ByteArray) (w : World) (h : KAt w base R k) (hn : k.now.length ≤ 10000) :
    Calls Tryz.prog 27 #[.pointer (some ⟨R, 0, none⟩), .string name] w fun r w' => ∃ v, r = .returned (.tuple #[v, .int .i64 (kHasE k.now name)]) ∧ w'.ownsRow base 5 1 v (kReadB k.now name).length ((kReadB k.now name).map bv) ∧ w' = w := by
  obtain ⟨vn, vs, vw, hblk, hfs, _⟩ := h.rows
  have hnm := knamed_any name w
  obtain ⟨A, c, rfl, hr⟩ := hfs.form
  have c0 := hblk.cell 0
  simp at c0
  rcases hb : namedB name
  · have HE := Lib.hid (kHasE_bad (l := k.now) hb)
    have HB : Hid (kReadB k.now name = []) := Lib.hid (by rw [kReadB, HE.out]; rfl)
    rw [hb] at hnm
    clear hb
    go_enter Tryz.func27, Tryz.ntmps27
    go_wp2_with (go_at_call 28; go_must (refine hnm.mono ?_); rintro e w1 ⟨rfl, rfl⟩)
    go_ret2
    rw [HE.out, HB.out]
    exact ⟨_, rfl, World.ownsRow_nil _ _ _ _, rfl⟩
  rw [hb] at hnm
  have hfi := kfind_any A c k.now.length w.heap.size k.now name w hr rfl (by omega)
  rcases hi : idxN name k.now with _ | i
  · have HE := Lib.hid (kHasE_none hb hi)
    have HB : Hid (kReadB k.now name = []) := Lib.hid (by rw [kReadB, HE.out]; rfl)
    rw [idxI_none hi] at hfi
    clear hb hi
    go_enter Tryz.func27, Tryz.ntmps27
    go_wp2_with (first
      | (go_at_call 28; go_must (refine hnm.mono ?_); rintro e w1 ⟨rfl, rfl⟩)
      | (go_at_call 48; go_must (refine hfi.mono ?_); rintro e w1 ⟨rfl, rfl⟩))
    go_ret2
    rw [HE.out, HB.out]
    exact ⟨_, rfl, World.ownsRow_nil _ _ _ _, rfl⟩
  · obtain ⟨y, hy, hat⟩ := idxN_some hi
    have hil := (List.getElem?_eq_some_iff.1 hy).1
    obtain ⟨ad, y', rfl, _, hy', _, y1⟩ := hr.fl_ (k := i) hil rfl
    obtain rfl : y = y' := by rw [hy] at hy'; injection hy'
    have hby : BOk w base y.b y.A y.c := hfs.2 y (List.mem_of_getElem? hy)
    have HE := Lib.hid (kHasE_some hb hi)
    have HB : Hid (kReadB k.now name = y.b) := Lib.hid (by rw [kReadB, HE.out, hat]; rfl)
    rw [idxI_some hi] at hfi
    clear hb hi hy hy' hat
    have hi0 : (0 : Int) ≤ (i : Int) := by omega
    have hi1 : (i : Int) < (k.now.length : Int) := by omega
    go_enter Tryz.func27, Tryz.ntmps27
    go_wp2_with (first
      | (go_at_call 28; go_must (refine hnm.mono ?_); rintro e w1 ⟨rfl, rfl⟩)
      | (go_at_call 48; go_must (refine hfi.mono ?_); rintro e w1 ⟨rfl, rfl⟩))
    go_ret2
    rw [HE.out, HB.out]
    exact ⟨_, rfl, hby, rfl⟩
/-- The name of a number. -/
def fileB (n : Int) : ByteArray := if n = 0 ∨ n = 1 then ⟨#[97]⟩ else if n = 2 then ⟨#[98, 45, 49]⟩ else if n = 3 then ⟨#[99]⟩ else if n = 4 then ⟨#[]⟩ else ⟨#[65]⟩
set_option maxRecDepth 100000 in
set_option maxHeartbeats 1000000 in
theorem file_any (n : Int) (w : World) :
    Calls Tryz.prog 16 #[.int .i64 n] w fun e w' => e = .returned (.string (fileB n)) ∧ w' = w := by
  by_cases h0 : n = 0
  · subst h0
    go_enter Tryz.func16, Tryz.ntmps16
    go_wp2_with fail
    go_ret
    exact ⟨rfl, rfl⟩
  by_cases h1 : n = 1
  · subst h1
    go_enter Tryz.func16, Tryz.ntmps16
    go_wp2_with fail
    go_ret
    exact ⟨rfl, rfl⟩
  by_cases h2 : n = 2
  · subst h2
    go_enter Tryz.func16, Tryz.ntmps16
    go_wp2_with fail
    go_ret
    exact ⟨rfl, rfl⟩
  by_cases h3 : n = 3
  · subst h3
    go_enter Tryz.func16, Tryz.ntmps16
    go_wp2_with fail
    go_ret
    exact ⟨rfl, rfl⟩
  by_cases h4 : n = 4
  · subst h4
    go_enter Tryz.func16, Tryz.ntmps16
    go_wp2_with fail
    go_ret
    exact ⟨rfl, rfl⟩
  · have HF : Hid (fileB n = ⟨#[65]⟩) := Lib.hid (by rw [fileB, if_neg (by omega), if_neg h2, if_neg h3, if_neg h4])
    go_enter Tryz.func16, Tryz.ntmps16
    go_wp2_with fail
    go_ret
    exact ⟨by rw [HF.out]; rfl, rfl⟩
theorem fileB_size (n : Int) : (fileB n).size ≤ 20 := by
  unfold fileB
  split
  · decide
  · split
    · decide
    · split
      · decide
      · split <;> decide
end Go.Proofs.YtmeemcafjebanaaGreatDoor
