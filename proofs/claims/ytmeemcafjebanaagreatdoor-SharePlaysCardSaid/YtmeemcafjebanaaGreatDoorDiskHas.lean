/- The walks of the disk's has, Write, Rename, Remove, Fail, Steps. -/
import Derived.Test.YtmeemcafjebanaaGreatDoorDiskNamed
import Derived.Test.YtmeemcafjebanaaGreatDoorDiskStep
import Derived.Test.YtmeemcafjebanaaGreatDoorBClone
namespace Go.Proofs.YtmeemcafjebanaaGreatDoor
open Go.RowKit Go.Maps Go.WideMaps

theorem hasE_bad {l : List Fl} {n : ByteArray} (h : namedB n = false) : hasE l n = 2 := by rw [hasE, h]; rfl
theorem hasE_good {l : List Fl} {n : ByteArray} (h : namedB n = true) : hasE l n = if (atF n l).isSome then 0 else 6 := by rw [hasE, h]; rfl
set_option maxRecDepth 100000 in
set_option maxHeartbeats 1000000 in
theorem dhas_any (base g : Nat) (s : DS) (name : ByteArray) (w : World) (h : DiskAt w base g s) (hs : name.size ≤ 9223372036854775807) :
    Calls Tryz.prog 43 #[.pointer (some ⟨g, 0, none⟩), .string name] w fun r w' => r = .returned (errV (hasE s.now name)) ∧ Below w.heap.size w w' := by
  have hnm := named_any name w hs
  rcases hb : namedB name
  · have HB : Hid (hasE s.now name = 2) := Lib.hid (hasE_bad hb)
    rw [hb] at hnm
    clear hb
    go_enter Tryz.func43, Tryz.ntmps43
    go_wp2_with (go_at_call 32; go_must (refine hnm.mono ?_); rintro e w1 ⟨rfl, hb1⟩)
    go_ret
    exact ⟨by rw [HB.out]; rfl, hb1⟩
  · have HB : Hid (hasE s.now name = if (atF name s.now).isSome then 0 else 6) := Lib.hid (hasE_good hb)
    rw [hb] at hnm
    have h20 := namedB_size hb
    clear hb
    go_enter Tryz.func43, Tryz.ntmps43
    go_upto_region 3 with (go_at_call 32; go_must (refine hnm.mono ?_); rintro e w1 ⟨rfl, hb1⟩)
    obtain ⟨Mn, Ms, vs, os, hblk, r1, r2, r3, r4, _⟩ := (DiskIn.up h hb1).rows
    have c0 := hblk.cell 0
    simp at c0
    have hlk := FMap.look_ok r4 h20
    rw [show runF s.safe s.since = s.now from rfl] at hlk
    generalize (flV (atF name s.now)) = fv at *
    rcases hv : (atF name s.now).isSome
    · rw [hv] at hlk HB
      clear hv
      go_wp2_with fail
      go_ret
      exact ⟨by rw [HB.out]; rfl, hb1⟩
    · rw [hv] at hlk HB
      clear hv
      go_wp2_with fail
      go_ret
      exact ⟨by rw [HB.out]; rfl, hb1⟩
def OVX (e : Nat) (w : World) (base : Nat) (o : DOp) (v : Value) : Prop := e = 0 → OpVal w base o v
def LENX (e n : Nat) : Prop := e = 0 → n ≤ 60000
def OKX (e : Nat) (l : List Fl) (o : DOp) : Prop := e = 0 → okOp l o
theorem errV_two : errV 2 = .iface 71 (.int .i64 2) := rfl
theorem errV_four : errV 4 = .iface 71 (.int .i64 4) := rfl
theorem errV_six : errV 6 = .iface 71 (.int .i64 6) := rfl
theorem errV_seven : errV 7 = .iface 71 (.int .i64 7) := rfl
def writeE (name : ByteArray) (n : Nat) : Nat := if namedB name then (if 60000 < n then 4 else 0) else 2
theorem writeE_zero {name : ByteArray} {n : Nat} (h : writeE name n = 0) : namedB name = true := by
  unfold writeE at h
  split at h
  · assumption
  · cases h
theorem own_fl {w : World} {base n : Nat} {v : Value} {xs : List Value} (h : w.ownsRow base 5 1 v n xs) : ∃ (g : Option Nat) (c : Nat), v = .slice (g.map fun k => ⟨k, 0, none⟩) n c := by
  rcases h.2 with ⟨rfl, rfl⟩ | ⟨g, cap, cur, rfl, _⟩
  · exact ⟨none, 0, rfl⟩
  · exact ⟨some g, cap, rfl⟩
/-- What a step answers. -/
def StepPost (base g : Nat) (s : DS) (e : Nat) (o : Option DOp) (w : World) (r : Ending) (w' : World) : Prop := r = .returned (errV (stepE s e)) ∧ DiskAt w' base g (stepS s e o) ∧ Below base w w' ∧ KeepF fixD w w'
theorem StepPost.no {base g e : Nat} {s : DS} {o : Option DOp} {w w' : World} {r : Ending} (h : DiskAt w base g s) (hbw : base ≤ w.heap.size) (hE : stepE s e ≠ 0) (hr : r = .returned (errV (stepE s e))) (hb : Below w.heap.size w w') : StepPost base g s e o w r w' := by
  refine ⟨hr, ?_, hb.mono hbw, keepF_below hb⟩
  rw [stepS, if_neg hE]
  exact DiskIn.up h hb
theorem StepPost.yes {base g e : Nat} {s : DS} {o : Option DOp} {w w' : World} {r : Ending} (hE : stepE s e = 0) (h : r = .returned (errV 0) ∧ DiskAt w' base g (stepS s e o) ∧ Below base w w' ∧ KeepF fixD w w') : StepPost base g s e o w r w' := by
  refine ⟨?_, h.2⟩
  rw [hE]; exact h.1
theorem StepPost.from_ {base g e : Nat} {s : DS} {o : Option DOp} {w w1 w' : World} {r : Ending} (h : StepPost base g s e o w1 r w') (hb : Below w.heap.size w w1) (hbw : base ≤ w.heap.size) : StepPost base g s e o w r w' :=
  ⟨h.1, h.2.1, (hb.mono hbw).trans h.2.2.1, (keepF_below hb).trans h.2.2.2⟩
/-- (*Disk).step with something to be done. -/
theorem step_any (base g e n : Nat) (s : DS) (o : DOp) (v : Value) (w : World) (h : DiskAt w base g s) (hbw : base ≤ w.heap.size) (hf : s.Few n) (hn : n ≤ 1000) (hov : OVX e w base o v) (hok : OKX e s.now o) :
    Calls Tryz.prog 41 #[.pointer (some ⟨g, 0, none⟩), errV e, v] w fun r w' => StepPost base g s e (some o) w r w' := by
  by_cases hE : stepE s e = 0
  · exact (step_op base g e n s o v w h hbw hf hn (hov (stepE_zero hE).1) hE (hok (stepE_zero hE).1)).mono fun r w' hp => StepPost.yes hE hp
  · exact (step_no base g e s v w h hE).mono fun r w' hp => StepPost.no h hbw hE hp.1 hp.2
set_option maxRecDepth 100000 in
set_option maxHeartbeats 4000000 in
theorem write_any (base g n B : Nat) (s : DS) (name : ByteArray) (A : Option Addr) (c : Nat) (bs : List UInt8) (w : World) (h : DiskAt w base g s) (hbw : base ≤ w.heap.size) (hf : s.Few n) (hn : n ≤ 1000) (hs : name.size ≤ 9223372036854775807)
    (hr : Rd w B 1 A bs.length (bs.map bv)) (hB : B ≤ w.heap.size) (hl : bs.length ≤ 140737488355328) :
    Calls Tryz.prog 17 #[.pointer (some ⟨g, 0, none⟩), .string name, .slice A bs.length c] w fun r w' => ∃ x : Fl, x.name = name ∧ x.b = bs ∧ StepPost base g s (writeE name bs.length) (some (.put x)) w r w' := by
  have HUP := Lib.hid (fun (W : World) (hb : Below ((w.alloc (.cells #[.string name] 9)).alloc (.cells #[.slice A bs.length c] 41)).heap.size ((w.alloc (.cells #[.string name] 9)).alloc (.cells #[.slice A bs.length c] 41)) W) =>
    (show Below w.heap.size w W ∧ DiskAt W base g s ∧ Rd W B 1 A bs.length (bs.map bv) ∧ Blk W (w.heap.size + 1) 41 #[.slice A bs.length c] ∧ Blk W w.heap.size 9 #[.string name] from by
      have hb0 : Below w.heap.size w ((w.alloc (.cells #[.string name] 9)).alloc (.cells #[.slice A bs.length c] 41)) := ((Below.refl _ w).alloc (Nat.le_refl _) _).alloc (by simp) _
      have hbW := hb0.trans (hb.mono hb0.size)
      have hn2 := Blk.new (w.alloc (.cells #[.string name] 9)) 41 #[.slice A bs.length c]
      rw [show (w.alloc (.cells #[.string name] 9)).heap.size = w.heap.size + 1 from by simp] at hn2
      exact ⟨hbW, DiskIn.up h hbW, hr.below hbW hB, hn2.up hb, ((Blk.new w 9 #[.string name]).alloc _).up hb⟩))
  have hnm := named_any name ((w.alloc (.cells #[.string name] 9)).alloc (.cells #[.slice A bs.length c] 41)) hs
  have hnb : ((w.alloc (.cells #[.string name] 9)).alloc (.cells #[.slice A bs.length c] 41)).cell? ⟨w.heap.size, 0, none⟩ = some (.string name) := (((Blk.new w 9 #[.string name]).alloc _).cell 0)
  have HPUT : Hid (namedB name = true → ∀ (g2 : Option Nat) (c2 : Nat), okOp s.now (.put ⟨name, bs, g2, c2⟩)) := Lib.hid (fun h _ _ => namedB_size h)
  rcases hb : namedB name
  · have HLN : Hid (LENX 2 bs.length) := Lib.hid (fun h => by cases h)
    have HE : Hid (writeE name bs.length = 2) := Lib.hid (by rw [writeE, hb]; rfl)
    have HOK : Hid (∀ (g2 : Option Nat) (c2 : Nat), OKX 2 s.now (.put ⟨name, bs, g2, c2⟩)) := Lib.hid (fun _ _ h => by cases h)
    rw [hb] at hnm
    clear hb
    go_enter Tryz.func17, Tryz.ntmps17
    go_upto_region 6 with (go_at_call 32; go_must (refine hnm.mono ?_); rintro e w1 ⟨rfl, hb1⟩; obtain ⟨hb1, h1, hr1, hbb1, hnb1⟩ := HUP.out _ hb1; have d0 := hbb1.cell 0; simp at d0)
    have hcl := bclone_any A c bs.length B bs w1 hr1 rfl (Nat.le_trans hB hb1.size) (by omega)
    have hszw := hb1.size
    have hbl := hbb1.lt
    have HD := Lib.hid (fun (W : World) (hb : Below w1.heap.size w1 W) => (show W.cell? ⟨w.heap.size + 1, 0, none⟩ = some (.slice A bs.length c) ∧ W.frozen? ⟨w.heap.size + 1, 0, none⟩ = false from ⟨(hb.cell hbl).trans d0, (hbb1.up hb).frozen 0⟩))
    go_upto_region 7 with (go_at_call 40; go_must (refine hcl.mono ?_); rintro e w2 ⟨v2, rfl, hown2, hb2⟩; obtain ⟨e2, f2⟩ := HD.out w2 hb2; obtain ⟨g2, c2, rfl⟩ := own_fl hown2)
    have hb2w := hb1.trans (hb2.mono hszw)
    have hb3 := hb2w.setCell (p := ⟨w.heap.size + 1, 0, none⟩) (Nat.le_succ _) (.slice (g2.map fun k => ⟨k, 0, none⟩) bs.length c2)
    have k3 := keepT_set (hbb1.up hb2) 0 (.slice (g2.map fun k => ⟨k, 0, none⟩) bs.length c2)
    have hov : OVX 2 (w2.setCell ⟨w.heap.size + 1, 0, none⟩ (.slice (g2.map fun k => ⟨k, 0, none⟩) bs.length c2)) base (.put ⟨name, bs, g2, c2⟩) (.func (.func 42) #[] #[.pointer (some ⟨w.heap.size + 1, 0, none⟩), .pointer (some ⟨w.heap.size, 0, none⟩)]) :=
      fun hz => ⟨_, _, rfl, by omega, hbw, by have := (hbb1.up hb2).set_ 0 (.slice (g2.map fun k => ⟨k, 0, none⟩) bs.length c2); simpa [Fl.val] using this, k3.blk (hnb1.up hb2) rfl, own_base (k3.own hown2 (fun _ => rfl)) (by omega), HLN.out hz⟩
    have hst := step_any base g 2 n s (.put ⟨name, bs, g2, c2⟩) _ _ (DiskIn.up h hb3) (Nat.le_trans hbw hb3.size) hf hn hov (HOK.out g2 c2)
    rw [errV_two] at hst
    go_wp2_with (go_at_call 41; go_must (refine hst.mono ?_); rintro e w4 ⟨rfl, hpost⟩)
    go_ret
    exact ⟨⟨name, bs, g2, c2⟩, rfl, rfl, by rw [HE.out]; exact StepPost.from_ ⟨rfl, hpost⟩ hb3 hbw⟩
  · rw [hb] at hnm
    by_cases h6 : 60000 < bs.length
    · have HLN : Hid (LENX 4 bs.length) := Lib.hid (fun h => by cases h)
      have HE : Hid (writeE name bs.length = 4) := Lib.hid (by rw [writeE, hb, if_pos h6]; rfl)
      have HOK : Hid (∀ (g2 : Option Nat) (c2 : Nat), OKX 4 s.now (.put ⟨name, bs, g2, c2⟩)) := Lib.hid (fun _ _ h => by cases h)
      have h6i : (60000 : Int) < (bs.length : Int) := by omega
      clear hb
      go_enter Tryz.func17, Tryz.ntmps17
      go_upto_region 6 with (go_at_call 32; go_must (refine hnm.mono ?_); rintro e w1 ⟨rfl, hb1⟩; obtain ⟨hb1, h1, hr1, hbb1, hnb1⟩ := HUP.out _ hb1; have d0 := hbb1.cell 0; simp at d0)
      have hcl := bclone_any A c bs.length B bs w1 hr1 rfl (Nat.le_trans hB hb1.size) (by omega)
      have hszw := hb1.size
      have hbl := hbb1.lt
      have HD := Lib.hid (fun (W : World) (hb : Below w1.heap.size w1 W) => (show W.cell? ⟨w.heap.size + 1, 0, none⟩ = some (.slice A bs.length c) ∧ W.frozen? ⟨w.heap.size + 1, 0, none⟩ = false from ⟨(hb.cell hbl).trans d0, (hbb1.up hb).frozen 0⟩))
      go_upto_region 7 with (go_at_call 40; go_must (refine hcl.mono ?_); rintro e w2 ⟨v2, rfl, hown2, hb2⟩; obtain ⟨e2, f2⟩ := HD.out w2 hb2; obtain ⟨g2, c2, rfl⟩ := own_fl hown2)
      have hb2w := hb1.trans (hb2.mono hszw)
      have hb3 := hb2w.setCell (p := ⟨w.heap.size + 1, 0, none⟩) (Nat.le_succ _) (.slice (g2.map fun k => ⟨k, 0, none⟩) bs.length c2)
      have k3 := keepT_set (hbb1.up hb2) 0 (.slice (g2.map fun k => ⟨k, 0, none⟩) bs.length c2)
      have hov : OVX 4 (w2.setCell ⟨w.heap.size + 1, 0, none⟩ (.slice (g2.map fun k => ⟨k, 0, none⟩) bs.length c2)) base (.put ⟨name, bs, g2, c2⟩) (.func (.func 42) #[] #[.pointer (some ⟨w.heap.size + 1, 0, none⟩), .pointer (some ⟨w.heap.size, 0, none⟩)]) :=
        fun hz => ⟨_, _, rfl, by omega, hbw, by have := (hbb1.up hb2).set_ 0 (.slice (g2.map fun k => ⟨k, 0, none⟩) bs.length c2); simpa [Fl.val] using this, k3.blk (hnb1.up hb2) rfl, own_base (k3.own hown2 (fun _ => rfl)) (by omega), HLN.out hz⟩
      have hst := step_any base g 4 n s (.put ⟨name, bs, g2, c2⟩) _ _ (DiskIn.up h hb3) (Nat.le_trans hbw hb3.size) hf hn hov (HOK.out g2 c2)
      rw [errV_four] at hst
      go_wp2_with (go_at_call 41; go_must (refine hst.mono ?_); rintro e w4 ⟨rfl, hpost⟩)
      go_ret
      exact ⟨⟨name, bs, g2, c2⟩, rfl, rfl, by rw [HE.out]; exact StepPost.from_ ⟨rfl, hpost⟩ hb3 hbw⟩
    · have HLN : Hid (LENX 0 bs.length) := Lib.hid (fun _ => by omega)
      have HE : Hid (writeE name bs.length = 0) := Lib.hid (by rw [writeE, hb, if_neg h6]; rfl)
      have HOK : Hid (∀ (g2 : Option Nat) (c2 : Nat), OKX 0 s.now (.put ⟨name, bs, g2, c2⟩)) := Lib.hid (fun g2 c2 _ => HPUT.out hb g2 c2)
      have h6i : ¬ (60000 : Int) < (bs.length : Int) := by omega
      clear hb
      go_enter Tryz.func17, Tryz.ntmps17
      go_upto_region 6 with (go_at_call 32; go_must (refine hnm.mono ?_); rintro e w1 ⟨rfl, hb1⟩; obtain ⟨hb1, h1, hr1, hbb1, hnb1⟩ := HUP.out _ hb1; have d0 := hbb1.cell 0; simp at d0)
      have hcl := bclone_any A c bs.length B bs w1 hr1 rfl (Nat.le_trans hB hb1.size) (by omega)
      have hszw := hb1.size
      have hbl := hbb1.lt
      have HD := Lib.hid (fun (W : World) (hb : Below w1.heap.size w1 W) => (show W.cell? ⟨w.heap.size + 1, 0, none⟩ = some (.slice A bs.length c) ∧ W.frozen? ⟨w.heap.size + 1, 0, none⟩ = false from ⟨(hb.cell hbl).trans d0, (hbb1.up hb).frozen 0⟩))
      go_upto_region 7 with (go_at_call 40; go_must (refine hcl.mono ?_); rintro e w2 ⟨v2, rfl, hown2, hb2⟩; obtain ⟨e2, f2⟩ := HD.out w2 hb2; obtain ⟨g2, c2, rfl⟩ := own_fl hown2)
      have hb2w := hb1.trans (hb2.mono hszw)
      have hb3 := hb2w.setCell (p := ⟨w.heap.size + 1, 0, none⟩) (Nat.le_succ _) (.slice (g2.map fun k => ⟨k, 0, none⟩) bs.length c2)
      have k3 := keepT_set (hbb1.up hb2) 0 (.slice (g2.map fun k => ⟨k, 0, none⟩) bs.length c2)
      have hov : OVX 0 (w2.setCell ⟨w.heap.size + 1, 0, none⟩ (.slice (g2.map fun k => ⟨k, 0, none⟩) bs.length c2)) base (.put ⟨name, bs, g2, c2⟩) (.func (.func 42) #[] #[.pointer (some ⟨w.heap.size + 1, 0, none⟩), .pointer (some ⟨w.heap.size, 0, none⟩)]) :=
        fun hz => ⟨_, _, rfl, by omega, hbw, by have := (hbb1.up hb2).set_ 0 (.slice (g2.map fun k => ⟨k, 0, none⟩) bs.length c2); simpa [Fl.val] using this, k3.blk (hnb1.up hb2) rfl, own_base (k3.own hown2 (fun _ => rfl)) (by omega), HLN.out hz⟩
      have hst := step_any base g 0 n s (.put ⟨name, bs, g2, c2⟩) _ _ (DiskIn.up h hb3) (Nat.le_trans hbw hb3.size) hf hn hov (HOK.out g2 c2)
      rw [errV_zero] at hst
      go_wp2_with (go_at_call 41; go_must (refine hst.mono ?_); rintro e w4 ⟨rfl, hpost⟩)
      go_ret
      exact ⟨⟨name, bs, g2, c2⟩, rfl, rfl, by rw [HE.out]; exact StepPost.from_ ⟨rfl, hpost⟩ hb3 hbw⟩
def renE (l : List Fl) (a b : ByteArray) : Nat := if namedB b then hasE l a else 2
set_option maxRecDepth 100000 in
set_option maxHeartbeats 2000000 in
theorem remove_any (base g n : Nat) (s : DS) (name : ByteArray) (w : World) (h : DiskAt w base g s) (hbw : base ≤ w.heap.size) (hf : s.Few n) (hn : n ≤ 1000) (hs : name.size ≤ 9223372036854775807) :
    Calls Tryz.prog 19 #[.pointer (some ⟨g, 0, none⟩), .string name] w fun r w' => StepPost base g s (hasE s.now name) (some (.del name)) w r w' := by
  have hb0 : Below w.heap.size w (w.alloc (.cells #[.string name] 9)) := (Below.refl _ w).alloc (Nat.le_refl _) _
  have hhas := dhas_any base g s name _ (DiskIn.up h hb0) hs
  have hnb : Blk (w.alloc (.cells #[.string name] 9)) w.heap.size 9 #[.string name] := Blk.new w 9 #[.string name]
  have d0 := hnb.cell 0
  simp at d0
  have HOK : Hid (OKX (hasE s.now name) s.now (.del name)) := Lib.hid (fun hz => namedB_size (hasE_zero hz).1)
  have HST := Lib.hid (fun (W : World) (hb : Below (w.alloc (.cells #[.string name] 9)).heap.size (w.alloc (.cells #[.string name] 9)) W) =>
    (show Calls Tryz.prog 41 #[.pointer (some ⟨g, 0, none⟩), errV (hasE s.now name), .func (.func 45) #[] #[.pointer (some ⟨w.heap.size, 0, none⟩)]] W fun r w' => StepPost base g s (hasE s.now name) (some (.del name)) w r w' from
      (step_any base g (hasE s.now name) n s (.del name) _ W (DiskIn.up h (hb0.trans (hb.mono hb0.size))) (Nat.le_trans hbw (hb0.trans (hb.mono hb0.size)).size) hf hn (fun _ => ⟨_, rfl, hbw, hnb.up hb⟩) HOK.out).mono fun r w' hp => hp.from_ (hb0.trans (hb.mono hb0.size)) hbw))
  generalize errV (hasE s.now name) = ev at *
  go_enter Tryz.func19, Tryz.ntmps19
  go_wp2_with (first
    | (go_at_call 43; go_must (refine hhas.mono ?_); rintro e w1 ⟨rfl, hb1⟩)
    | (go_at_call 41; go_must (refine (HST.out _ hb1).mono ?_); rintro e w2 ⟨rfl, hp⟩))
  go_ret
  exact ⟨rfl, hp⟩
set_option maxRecDepth 100000 in
set_option maxHeartbeats 2000000 in
theorem rename_any (base g n : Nat) (s : DS) (a b : ByteArray) (w : World) (h : DiskAt w base g s) (hbw : base ≤ w.heap.size) (hf : s.Few n) (hn : n ≤ 1000) (has : a.size ≤ 9223372036854775807) (hbs : b.size ≤ 9223372036854775807) :
    Calls Tryz.prog 18 #[.pointer (some ⟨g, 0, none⟩), .string a, .string b] w fun r w' => StepPost base g s (renE s.now a b) (some (.ren a b)) w r w' := by
  obtain ⟨w0, hw0⟩ : ∃ w0, w0 = (w.alloc (.cells #[.string a] 9)).alloc (.cells #[.string b] 9) := ⟨_, rfl⟩
  have hb0 : Below w.heap.size w w0 := by rw [hw0]; exact ((Below.refl _ w).alloc (Nat.le_refl _) _).alloc (by simp) _
  have hna : Blk w0 w.heap.size 9 #[.string a] := by rw [hw0]; exact (Blk.new w 9 #[.string a]).alloc _
  have hnb : Blk w0 (w.heap.size + 1) 9 #[.string b] := by
    have hn2 := Blk.new (w.alloc (.cells #[.string a] 9)) 9 #[.string b]
    rw [show (w.alloc (.cells #[.string a] 9)).heap.size = w.heap.size + 1 from by simp] at hn2
    rw [hw0]; exact hn2
  have hhas := dhas_any base g s a _ (DiskIn.up h hb0) has
  have HNM := Lib.hid (fun (W : World) => named_any b W hbs)
  have d0 := hna.cell 0
  simp only [List.getElem?_toArray, List.getElem?_cons_zero] at d0
  have HD := Lib.hid (fun (W : World) (hb : Below w0.heap.size w0 W) => (show W.cell? ⟨w.heap.size + 1, 0, none⟩ = some (.string b) from ((hnb.up hb).cell 0)))
  have HST := Lib.hid (fun (e : Nat) (W : World) (hb : Below w0.heap.size w0 W) (hok : OKX e s.now (.ren a b)) =>
    (show Calls Tryz.prog 41 #[.pointer (some ⟨g, 0, none⟩), errV e, .func (.func 44) #[] #[.pointer (some ⟨w.heap.size, 0, none⟩), .pointer (some ⟨w.heap.size + 1, 0, none⟩)]] W fun r w' => StepPost base g s e (some (.ren a b)) w r w' from
      (step_any base g e n s (.ren a b) _ W (DiskIn.up h (hb0.trans (hb.mono hb0.size))) (Nat.le_trans hbw (hb0.trans (hb.mono hb0.size)).size) hf hn (fun _ => ⟨_, _, rfl, hbw, Nat.le_trans hbw (Nat.le_succ _), hna.up hb, hnb.up hb⟩) hok).mono fun r w' hp => hp.from_ (hb0.trans (hb.mono hb0.size)) hbw))
  rcases hb : namedB b
  · have HE : Hid (renE s.now a b = 2) := Lib.hid (by rw [renE, hb]; rfl)
    have HS := Lib.hid (fun (W : World) (hW : Below w0.heap.size w0 W) => HST.out 2 W hW (fun h => by cases h))
    have HNM := Lib.hid (fun (W : World) => by have := HNM.out W; rw [hb] at this; exact this)
    generalize errV (hasE s.now a) = ev at *
    clear HST hb
    rw [errV_two] at HS
    go_enter Tryz.func18, Tryz.ntmps18
    go_upto_region 1 with fail
    rw [← hw0]
    clear hw0
    go_wp2_with (first
      | (go_at_call 43; go_must (refine hhas.mono ?_); rintro e w1 ⟨rfl, hb1⟩; have d5 := HD.out w1 hb1)
      | (go_at_call 32; go_must (refine (HNM.out _).mono ?_); rintro e w2 ⟨rfl, hb2⟩; have hb12 := hb1.trans (hb2.mono hb1.size))
      | (go_at_call 41; go_must (refine (HS.out _ hb12).mono ?_); rintro e w3 ⟨rfl, hp⟩))
    go_ret
    rw [HE.out]
    exact ⟨rfl, hp⟩
  · have HE : Hid (renE s.now a b = hasE s.now a) := Lib.hid (by rw [renE, hb]; rfl)
    have HS := Lib.hid (fun (W : World) (hW : Below w0.heap.size w0 W) => HST.out (hasE s.now a) W hW (fun hz => ⟨(hasE_zero hz).2, namedB_size (hasE_zero hz).1, namedB_size hb⟩))
    have HNM := Lib.hid (fun (W : World) => by have := HNM.out W; rw [hb] at this; exact this)
    generalize hev : errV (hasE s.now a) = ev at *
    clear HST hb
    go_enter Tryz.func18, Tryz.ntmps18
    go_upto_region 1 with fail
    rw [← hw0]
    clear hw0 hev
    go_wp2_with (first
      | (go_at_call 43; go_must (refine hhas.mono ?_); rintro e w1 ⟨rfl, hb1⟩; have d5 := HD.out w1 hb1)
      | (go_at_call 32; go_must (refine (HNM.out _).mono ?_); rintro e w2 ⟨rfl, hb2⟩; have hb12 := hb1.trans (hb2.mono hb1.size))
      | (go_at_call 41; go_must (refine (HS.out _ hb12).mono ?_); rintro e w3 ⟨rfl, hp⟩))
    go_ret
    rw [HE.out]
    exact ⟨rfl, hp⟩
end Go.Proofs.YtmeemcafjebanaaGreatDoor
