/- DiskOps DiskStep in one text. -/
import Derived.Test.YtmeemcafjebanaaGreatDoorPlainDisk
import Derived.Test.YtmeemcafjebanaaGreatDoorWalkAs
import Derived.Shelf.Abstract
import Derived.Deep.RegionLaw
import Derived.BigQuiet
import Derived.Deep.Cut
/- The walks of the disk's function values: a file is written, gets another name, is taken away; a name is looked up. -/
namespace Go.Proofs.YtmeemcafjebanaaGreatDoor
open Go.RowKit Go.Maps Go.WideMaps Go.Shelf

theorem FMap.of {w : World} {M n : Nat} {D : DataW Unit} {l : List Fl} (h1 : w.ownsMap Tryz.prog 9 slR M n D) (h2 : MapL kfF flD D l) : FMap w M l := ⟨D, by rw [← h2.size]; exact own_tight h1, h2⟩
def flV : Option Fl → Value
  | none => .slice none 0 0
  | some x => x.val
theorem zsl (w : World) : (zeroValue 41).run Tryz.prog w = .ok (.slice none 0 0) w := by kernel_rfl
theorem kfF_lit (x : Fl) : WideAt.IsKeyLit (kfF x) := klS_lit _
theorem look_v {l : List Fl} {D : DataW Unit} (h : MapL kfF flD D l) {n : ByteArray} {v : Value} {ps : List MemPlace} (hv : slR v = some (D.atKey (klS n) (slD none 0 0), ps)) : v = flV (atF n l) := by
  obtain ⟨g, m, c, rfl, e2⟩ := slR_inv hv
  injection e2 with e2 _
  rcases ha : atF n l with _ | x
  · have hh : Maps.has D (klS n) = false := h.not_has fun x hx e => atF_none.1 ha x hx (klS_inj e)
    rw [Maps.atKey_of_not_has hh] at e2
    obtain ⟨rfl, rfl, rfl⟩ := slD_inj e2
    rfl
  · obtain ⟨h1, h2⟩ := atF_some ha
    have h3 := h.at_ x h1 (slD none 0 0)
    rw [show kfF x = klS n from by rw [kfF, h2]] at h3
    rw [h3] at e2
    obtain ⟨rfl, rfl, rfl⟩ := slD_inj e2
    rfl
theorem look_has {l : List Fl} {D : DataW Unit} (h : MapL kfF flD D l) (n : ByteArray) : Maps.has D (klS n) = (atF n l).isSome := by
  rcases ha : atF n l with _ | x
  · exact h.not_has fun x hx e => atF_none.1 ha x hx (klS_inj e)
  · obtain ⟨h1, h2⟩ := atF_some ha
    have := h.there x h1
    rwa [show kfF x = klS n from by rw [kfF, h2]] at this
theorem FMap.look {w : World} {M : Nat} {l : List Fl} (h : FMap w M l) {n : ByteArray} (hn : n.size ≤ 20) : (Instr.lookup 86 (.map (some M)) (.string n) false).run Tryz.prog w = .ok (flV (atF n l)) w := by
  obtain ⟨D, h1, h2⟩ := h
  obtain ⟨v, ps, hrun, hv⟩ := h1.lookup kstr Tryz.underlying86 (zsl w) (zd := slD none 0 0) (zp := []) rfl (klS_key (Nat.le_trans hn (by decide)))
  rw [hrun, look_v h2 hv]
theorem FMap.look_ok {w : World} {M : Nat} {l : List Fl} (h : FMap w M l) {n : ByteArray} (hn : n.size ≤ 20) : (Instr.lookup 86 (.map (some M)) (.string n) true).run Tryz.prog w = .ok (.tuple #[flV (atF n l), .bool (atF n l).isSome]) w := by
  obtain ⟨D, h1, h2⟩ := h
  obtain ⟨v, ps, hrun, hv⟩ := h1.look_ok kstr Tryz.underlying86 (zsl w) (zd := slD none 0 0) (zp := []) rfl (klS_key (Nat.le_trans hn (by decide)))
  rw [hrun, look_v h2 hv, look_has h2]
set_option maxRecDepth 100000 in
set_option maxHeartbeats 1000000 in
theorem oput_any (M bb nb : Nat) (l : List Fl) (x : Fl) (w : World) (hM : FMap w M l) (hb : Blk w bb 41 #[x.val]) (hn : Blk w nb 9 #[.string x.name]) (hs : x.name.size ≤ 20) (hl : l.length ≤ 100000) :
    Calls Tryz.prog 42 #[.map (some M), .pointer (some ⟨bb, 0, none⟩), .pointer (some ⟨nb, 0, none⟩)] w fun e w' => e = .returned (.tuple #[]) ∧ FMap w' M (doF l (.put x)) ∧ w.grownBy w' (some M) := by
  obtain ⟨D, h1, h2⟩ := hM
  have c0 := hb.cell 0
  have c1 := hn.cell 0
  simp at c0 c1
  have hkey := klS_key (k := x.name) (Nat.le_trans hs (by decide))
  have hR : slR x.val = some (flD x, []) := slR_mk _ _ _
  generalize x.val = xv at *
  go_enter Tryz.func42, Tryz.ntmps42
  go_wp2_with (first
    | (at_mapUpdate; go_must (refine wpList_mapUpdate_own _ rfl _ _ _ 86 rfl 9 41 kstr Tryz.underlying86 slR M l.length D rfl h1 (by unfold maxLen; omega) _ _ (klS x.name) rfl rfl hkey (flD x) [] hR ?_); intro w9 hown9 hgr9))
  go_end0
  exact ⟨rfl, FMap.of hown9 (h2.put x (kfF_lit x)), hgr9⟩
set_option maxRecDepth 100000 in
set_option maxHeartbeats 1000000 in
theorem odel_any (M ab : Nat) (l : List Fl) (a : ByteArray) (w : World) (hM : FMap w M l) (hb : Blk w ab 9 #[.string a]) (hs : a.size ≤ 20) :
    Calls Tryz.prog 45 #[.map (some M), .pointer (some ⟨ab, 0, none⟩)] w fun e w' => e = .returned (.tuple #[]) ∧ FMap w' M (doF l (.del a)) ∧ w.grownBy w' (some M) := by
  obtain ⟨D, h1, h2⟩ := hM
  have c0 := hb.cell 0
  simp at c0
  have hkey := klS_key (k := a) (Nat.le_trans hs (by decide))
  go_enter Tryz.func45, Tryz.ntmps45
  go_wp2_with (first
    | (at_delete; go_must (refine wpList_delete_own _ rfl _ _ 86 9 rfl 41 kstr Tryz.underlying86 slR M l.length D rfl h1 _ (klS a) rfl hkey ?_); intro w9 hown9 hgr9))
  go_end0
  exact ⟨rfl, FMap.of hown9 (h2.del (klS a) (klS_lit a)), hgr9.grown⟩
set_option maxRecDepth 100000 in
set_option maxHeartbeats 1000000 in
theorem oren_any (M ab bb : Nat) (l : List Fl) (a b : ByteArray) (w : World) (hM : FMap w M l) (hb : Blk w ab 9 #[.string a]) (hn : Blk w bb 9 #[.string b]) (hok : okOp l (.ren a b)) (hl : l.length ≤ 100000) :
    Calls Tryz.prog 44 #[.map (some M), .pointer (some ⟨ab, 0, none⟩), .pointer (some ⟨bb, 0, none⟩)] w fun e w' => e = .returned (.tuple #[]) ∧ FMap w' M (doF l (.ren a b)) ∧ w.grownBy w' (some M) := by
  obtain ⟨⟨x, hx⟩, ha, hbs⟩ := hok
  have hlk := hM.look ha
  rw [hx] at hlk
  obtain ⟨D, h1, h2⟩ := hM
  have hlt := h1.lt
  have c0 := hb.cell 0
  have c1 := hn.cell 0
  simp at c0 c1
  have hkey := klS_key (k := a) (Nat.le_trans ha (by decide))
  have hkey2 := klS_key (k := b) (Nat.le_trans hbs (by decide))
  have hR : slR x.val = some (flD ⟨b, x.b, x.g, x.c⟩, []) := slR_mk _ _ _
  have HX := Lib.hid hx
  clear hx
  obtain ⟨xv, hxv⟩ : ∃ xv, xv = x.val := ⟨_, rfl⟩
  rw [show flV (some x) = xv from hxv.symm] at hlk
  rw [← hxv] at hR
  clear hxv
  have hw5 : ∀ W : World, W.ownsMap Tryz.prog 9 slR M l.length (D.del (klS a)) → w.grownBy W (some M) → W.cell? ⟨bb, 0, none⟩ = some (.string b) := fun W _ hg => map_cell_at h1 hg c1
  go_enter Tryz.func44, Tryz.ntmps44
  go_wp2_with (first
    | (at_delete; go_must (refine wpList_delete_own _ rfl _ _ 86 9 rfl 41 kstr Tryz.underlying86 slR M l.length D rfl h1 _ (klS a) rfl hkey ?_); intro w8 hown8 hgr8; have c2 := hw5 w8 hown8 hgr8.grown)
    | (at_mapUpdate; go_must (refine wpList_mapUpdate_own _ rfl _ _ _ 86 rfl 9 41 kstr Tryz.underlying86 slR M l.length (D.del (klS a)) rfl hown8 (by unfold maxLen; omega) _ _ (klS b) rfl rfl hkey2 (flD ⟨b, x.b, x.g, x.c⟩) [] hR ?_); intro w9 hown9 hgr9))
  go_end0
  have h3 := (h2.del (klS a) (klS_lit a)).put ⟨b, x.b, x.g, x.c⟩ (kfF_lit _)
  refine ⟨rfl, ?_, only_trans hgr8.grown hgr9⟩
  show FMap w9 M (renF l a b (atF a l))
  rw [HX.out]
  exact FMap.of hown9 h3
/-- What the function value does where it is called. -/
theorem op_call {w : World} {base M : Nat} {o : DOp} {v : Value} {l : List Fl} (h : OpVal w base o v) (hM : FMap w M l) (hok : okOp l o) (hl : l.length ≤ 100000) :
    ∃ fn lb, v = .func (.func fn) #[] lb ∧ (∀ args W, (callFunc fn args).run Tryz.prog W = .ok (.enter fn args) W) ∧ Calls Tryz.prog fn (#[.map (some M)] ++ lb) w fun e w' => e = .returned (.tuple #[]) ∧ FMap w' M (doF l o) ∧ w.grownBy w' (some M) := by
  cases o with
  | put x =>
    obtain ⟨bb, nb, rfl, _, _, h3, h4, _⟩ := h
    exact ⟨_, _, rfl, enters_of Tryz.func42 (by kernel_rfl) rfl, oput_any M bb nb l x w hM h3 h4 hok hl⟩
  | ren a b =>
    obtain ⟨ab, bb, rfl, _, _, h3, h4⟩ := h
    exact ⟨_, _, rfl, enters_of Tryz.func44 (by kernel_rfl) rfl, oren_any M ab bb l a b w hM h3 h4 hok hl⟩
  | del a =>
    obtain ⟨ab, rfl, _, h3⟩ := h
    exact ⟨_, _, rfl, enters_of Tryz.func45 (by kernel_rfl) rfl, odel_any M ab l a w hM h3 hok⟩
end Go.Proofs.YtmeemcafjebanaaGreatDoor

/- The walk of (*Disk).step: something is done, if nothing is wrong. -/
namespace Go.Proofs.YtmeemcafjebanaaGreatDoor
open Go.RowKit Go.Maps Go.WideMaps

theorem el_op : Elt Tryz.prog 87 92 .nilFunc 1 8 := ⟨Tryz.underlying87, by kernel_rfl, rfl, by omega, by omega⟩
theorem stepE_zero {s : DS} {e : Nat} (h : stepE s e = 0) : e = 0 ∧ (s.stop < 0 ∨ (s.steps : Int) < s.stop) := by
  unfold stepE at h
  split at h
  · cases h
  · rename_i h1
    refine ⟨h, ?_⟩
    simp at h1
    omega
theorem stepE_one {s : DS} {e : Nat} (h : stepE s e ≠ 0) : (0 ≤ s.stop ∧ s.stop ≤ (s.steps : Int) ∧ stepE s e = 7) ∨ ((s.stop < 0 ∨ (s.steps : Int) < s.stop) ∧ e ≠ 0 ∧ stepE s e = e) := by
  unfold stepE at h ⊢
  split
  · rename_i h1
    simp at h1
    exact .inl ⟨h1.1, h1.2, rfl⟩
  · rename_i h1
    rw [if_neg h1] at h
    simp at h1
    exact .inr ⟨by omega, h, rfl⟩
set_option maxRecDepth 100000 in
set_option maxHeartbeats 2000000 in
theorem step_no (base g e : Nat) (s : DS) (v : Value) (w : World) (h : DiskAt w base g s) (hE : stepE s e ≠ 0) :
    Calls Tryz.prog 41 #[.pointer (some ⟨g, 0, none⟩), errV e, v] w fun r w' => r = .returned (errV (stepE s e)) ∧ Below w.heap.size w w' := by
  obtain ⟨Mn, Ms, vs, os, hblk, _⟩ := h.rows
  have c3 := hblk.cell 3
  have c4 := hblk.cell 4
  simp at c3 c4
  have hcase := stepE_one hE
  generalize s.stop = st at *
  generalize s.steps = sn at *
  rcases hcase with ⟨h1, h2, h3⟩ | ⟨h1, h2, h3⟩
  · have hg1 : (st ≥ 0) := h1
    have hg2 : ((sn : Int) ≥ st) := h2
    have HR := Lib.hid h3
    clear h3 hE
    go_enter Tryz.func41, Tryz.ntmps41
    go_wp2_with fail
    go_quiet (fail)
    go_wp2_with fail
    go_ret
    exact ⟨by rw [HR.out]; rfl, below_drewN (Below.refl _ _) _⟩
  · obtain ⟨e, rfl⟩ : ∃ k, e = k + 1 := ⟨e - 1, by omega⟩
    have HR := Lib.hid h3
    clear h3 hE h2
    have he : errV (e + 1) = .iface 71 (.int .i64 ((e + 1 : Nat) : Int)) := rfl
    rw [he]
    rcases h1 with h1 | h1
    · have hg1 : decide (0 ≤ st) = false := by simp; omega
      have hg2 : decide (st ≥ 0) = false := by simp; omega
      go_enter Tryz.func41, Tryz.ntmps41
      go_wp2_with fail
      go_quiet (fail)
      go_wp2_with fail
      go_ret
      exact ⟨by rw [HR.out]; rfl, below_drewN (Below.refl _ _) _⟩
    · have hg0 : (0 : Int) ≤ st := by omega
      have hg1 : decide (st ≤ (sn : Int)) = false := by simp; omega
      have hg2 : decide ((sn : Int) ≥ st) = false := by simp; omega
      go_enter Tryz.func41, Tryz.ntmps41
      go_wp2_with fail
      go_quiet (fail)
      go_wp2_with fail
      go_ret
      exact ⟨by rw [HR.out]; rfl, below_drewN (Below.refl _ _) _⟩
theorem DiskIn.tick {w : World} {base g steps : Nat} {safe : List Fl} {since : List DOp} {stop : Int} (h : DiskIn w base g safe since steps stop) : DiskIn (w.setCell ⟨g, 3, none⟩ (.int .i64 ((steps : Int) + 1))) base g safe since (steps + 1) stop := by
  obtain ⟨Mn, Ms, vs, os, hblk, r1, r2, r3, r4, r5, r6, r7⟩ := h.rows
  have hk := keepT_set hblk 3 (.int .i64 ((steps : Int) + 1))
  have hb := hblk.set_ 3 (.int .i64 ((steps : Int) + 1))
  refine ⟨h.gb, ⟨Mn, Ms, vs, os, by simpa using hb, r1, r2, r3, r4.keep hk (fun _ _ => rfl), r5.keep hk (fun _ _ => rfl), hk.own r6 (fun _ => rfl), r7.keep hk (fun _ => rfl) (fun _ => rfl) (fun _ => rfl)⟩, h.run, fun x hx => (h.fine x hx).keep hk (fun _ => rfl)⟩
/-- The op is done on what is now there; then it is written down. -/
theorem DiskIn.rows_ {w : World} {base g steps : Nat} {safe : List Fl} {since : List DOp} {stop : Int} (h : DiskIn w base g safe since steps stop) : ∃ Mn Ms A c os, Blk w g 89 #[.map (some Mn), .map (some Ms), .slice A since.length c, .int .i64 steps, .int .i64 stop] ∧ base ≤ Mn ∧ base ≤ Ms ∧ Mn ≠ Ms ∧ FMap w Mn (runF safe since) ∧ FMap w Ms safe ∧ w.ownsRow base 92 1 (.slice A since.length c) since.length os ∧ OpsAt w base since os := by
  obtain ⟨Mn, Ms, vs, os, hblk, r1, r2, r3, r4, r5, r6, r7⟩ := h.rows
  obtain ⟨A, c, rfl, _, _, _, _⟩ := own_form r6
  exact ⟨Mn, Ms, A, c, os, hblk, r1, r2, r3, r4, r5, r6, r7⟩
theorem DiskIn.done {w w2 w3 : World} {base g steps Mn Ms : Nat} {safe : List Fl} {since : List DOp} {stop : Int} {A : Option Addr} {c : Nat} {vs' v : Value} {os : List Value} {o : DOp} (h : DiskIn w base g safe since steps stop)
    (hblk : Blk w g 89 #[.map (some Mn), .map (some Ms), .slice A since.length c, .int .i64 steps, .int .i64 stop]) (r1 : base ≤ Mn) (r2 : base ≤ Ms) (r3 : Mn ≠ Ms) (r4 : FMap w Mn (runF safe since)) (r5 : FMap w Ms safe) (r7 : OpsAt w base since os) (hv : OpVal w base o v) (hok : okOp (runF safe since) o)
    (h2 : FMap w2 Mn (doF (runF safe since) o)) (g2 : w.grownBy w2 (some Mn)) (h3 : w3.ownsRow base 92 1 vs' (since.length + 1) (os ++ [v])) (g3 : KeepF (offT 92) w2 w3) :
    DiskIn (w3.setCell ⟨g, 2, none⟩ vs') base g safe (since ++ [o]) steps stop ∧ KeepF fixD w (w3.setCell ⟨g, 2, none⟩ vs') := by
  have k2 : KeepF offMap w w2 := by
    obtain ⟨D, hD, _⟩ := r4
    exact keepM_grown hD g2
  have b3 : Blk w3 g 89 #[.map (some Mn), .map (some Ms), .slice A since.length c, .int .i64 steps, .int .i64 stop] := g3.blk (k2.blk hblk rfl) rfl
  have k4 := keepT_set b3 2 vs'
  have b4 := b3.set_ 2 vs'
  have m2 : FMap w2 Ms safe := r5.same (g2.block Ms r5.lt (fun e => r3 (by injection e with e; exact e.symm)))
  have keepU : KeepF (fun o => offMap o && (offT 92 o && offT 89 o)) w (w3.setCell ⟨g, 2, none⟩ vs') :=
    ((k2.mono fun o h => by simp only [Bool.and_eq_true] at h; exact h.1).trans (g3.mono fun o h => by simp only [Bool.and_eq_true] at h; exact h.2.1)).trans (k4.mono fun o h => by simp only [Bool.and_eq_true] at h; exact h.2.2)
  refine ⟨⟨h.gb, ⟨Mn, Ms, vs', os ++ [v], by simpa using b4, r1, r2, r3, ?_, ?_, ?_, ?_⟩, okRun_app.2 ⟨h.run, hok⟩, fun x hx => (h.fine x hx).keep keepU (fun _ => rfl)⟩, keepU.mono fun o h => ?_⟩
  · rw [runF_app]
    exact (h2.keep g3 (fun _ _ => rfl)).keep k4 (fun _ _ => rfl)
  · exact (m2.keep g3 (fun _ _ => rfl)).keep k4 (fun _ _ => rfl)
  · rw [List.length_append]
    exact k4.own h3 (fun _ => rfl)
  · exact (r7.push hv).keep keepU (fun _ => rfl) (fun _ => rfl) (fun _ => rfl)
  · simp only [Bool.and_eq_true]
    exact ⟨offMap_fixD o h, offT_fixD (.inr rfl) o h, offT_fixD (.inl rfl) o h⟩
theorem neq_fn (fn : FuncId) (lb : Array Value) (W : World) : (binOp .neq 92 (.func (.func fn) #[] lb) .nilFunc).run Tryz.prog W = .ok (.bool true) W := by kernel_rfl
theorem neq_nilfn (W : World) : (binOp .neq 92 .nilFunc .nilFunc).run Tryz.prog W = .ok (.bool false) W := by kernel_rfl
theorem stepS_ok {s : DS} {e : Nat} (o : Option DOp) (h : stepE s e = 0) : stepS s e o = ⟨s.safe, s.since ++ o.toList, s.steps + 1, s.stop⟩ := by rw [stepS, if_pos h]
theorem keepF_tick {w : World} {base g steps : Nat} {safe : List Fl} {since : List DOp} {stop : Int} (h : DiskIn w base g safe since steps stop) : KeepF fixD w (w.setCell ⟨g, 3, none⟩ (.int .i64 ((steps : Int) + 1))) := by
  obtain ⟨Mn, Ms, vs, os, hblk, _⟩ := h.rows
  exact (keepT_set hblk 3 _).mono (offT_fixD (.inl rfl))
set_option maxRecDepth 100000 in
set_option maxHeartbeats 2000000 in
/-- Nothing is to be done: a step more. -/
theorem step_nil (base g e n : Nat) (s : DS) (w : World) (h : DiskAt w base g s) (hbw : base ≤ w.heap.size) (hf : s.Few n) (hn : n ≤ 1000) (hE : stepE s e = 0) :
    Calls Tryz.prog 41 #[.pointer (some ⟨g, 0, none⟩), errV e, .nilFunc] w fun r w' => r = .returned (errV 0) ∧ DiskAt w' base g (stepS s e none) ∧ Below base w w' ∧ KeepF fixD w w' := by
  rw [stepS_ok none hE]
  obtain ⟨safe, since, sn, st⟩ := s
  have hs5 : sn ≤ n := hf.steps
  obtain ⟨rfl, hc⟩ := stepE_zero hE
  rw [errV_zero]
  clear hE hf
  have h : DiskIn w base g safe since sn st := h
  have hc : st < 0 ∨ (sn : Int) < st := hc
  obtain ⟨Mn, Ms, vs, os, hblk, _⟩ := h.rows
  have c3 := hblk.cell 3
  have c4 := hblk.cell 4
  simp at c3 c4
  rcases hc with hc | hc
  · have hg1 : decide (0 ≤ st) = false := by simp; omega
    have hg2 : decide (st ≥ 0) = false := by simp; omega
    go_enter Tryz.func41, Tryz.ntmps41
    go_upto_region 1 with fail
    go_quiet (fail)
    go_upto_region 5 with fail
    have hb1 := below_drewN (Below.refl w.heap.size w) nq
    have h1 := DiskIn.up h hb1
    have kf1 := keepF_below (f := fixD) hb1
    have hb1 := hb1.mono hbw
    have hbg := h.gb
    clear c3 c4 hblk h
    generalize w.drewN nq = w1 at *
    obtain ⟨Mn, Ms, A, c, os, hblk, r1, r2, r3, r4, r5, r6, r7⟩ := h1.rows_
    have c3 := hblk.cell 3
    have f3 := hblk.frozen 3
    simp at c3
    have hnf := neq_nilfn
    go_wp2_with fail
    go_ret
    exact ⟨rfl, by simpa [DiskAt] using h1.tick, hb1.setCell hbg _, kf1.trans (keepF_tick h1)⟩
  · have hg0 : (0 : Int) ≤ st := by omega
    have hg1 : decide (st ≤ (sn : Int)) = false := by simp; omega
    have hg2 : decide ((sn : Int) ≥ st) = false := by simp; omega
    go_enter Tryz.func41, Tryz.ntmps41
    go_upto_region 1 with fail
    go_quiet (fail)
    go_upto_region 5 with fail
    have hb1 := below_drewN (Below.refl w.heap.size w) nq
    have h1 := DiskIn.up h hb1
    have kf1 := keepF_below (f := fixD) hb1
    have hb1 := hb1.mono hbw
    have hbg := h.gb
    clear c3 c4 hblk h
    generalize w.drewN nq = w1 at *
    obtain ⟨Mn, Ms, A, c, os, hblk, r1, r2, r3, r4, r5, r6, r7⟩ := h1.rows_
    have c3 := hblk.cell 3
    have f3 := hblk.frozen 3
    simp at c3
    have hnf := neq_nilfn
    go_wp2_with fail
    go_ret
    exact ⟨rfl, by simpa [DiskAt] using h1.tick, hb1.setCell hbg _, kf1.trans (keepF_tick h1)⟩
set_option maxRecDepth 100000 in
set_option maxHeartbeats 4000000 in
/-- It is done, and written down. -/
theorem step_op (base g e n : Nat) (s : DS) (o : DOp) (v : Value) (w : World) (h : DiskAt w base g s) (hbw : base ≤ w.heap.size) (hf : s.Few n) (hn : n ≤ 1000) (hov : OpVal w base o v) (hE : stepE s e = 0) (hok : okOp s.now o) :
    Calls Tryz.prog 41 #[.pointer (some ⟨g, 0, none⟩), errV e, v] w fun r w' => r = .returned (errV 0) ∧ DiskAt w' base g (stepS s e (some o)) ∧ Below base w w' ∧ KeepF fixD w w' := by
  rw [stepS_ok (some o) hE]
  have hlen := hf.now
  obtain ⟨safe, since, sn, st⟩ := s
  have hs5 : sn ≤ n := hf.steps
  have hs6 : safe.length + since.length ≤ n := hf.files
  have hok := Lib.hid (show okOp (runF safe since) o from hok)
  have hlen : (runF safe since).length ≤ 100000 := Nat.le_trans hlen (by omega)
  obtain ⟨rfl, hc⟩ := stepE_zero hE
  rw [errV_zero]
  clear hE hf
  have h : DiskIn w base g safe since sn st := h
  have hc : st < 0 ∨ (sn : Int) < st := hc
  obtain ⟨fn, lb, rfl⟩ : ∃ fn lb, v = .func (.func fn) #[] lb := by
    obtain ⟨_, _, _, _, _, _, _, _, hF, _⟩ := h.rows
    obtain ⟨fn, lb, hv, _⟩ := op_call hov hF hok.out hlen
    exact ⟨fn, lb, hv⟩
  obtain ⟨Mn, Ms, vs, os, hblk, _⟩ := h.rows
  have c3 := hblk.cell 3
  have c4 := hblk.cell 4
  simp at c3 c4
  rcases hc with hc | hc
  · have hg1 : decide (0 ≤ st) = false := by simp; omega
    have hg2 : decide (st ≥ 0) = false := by simp; omega
    go_enter Tryz.func41, Tryz.ntmps41
    go_upto_region 1 with fail
    go_quiet (fail)
    go_upto_region 5 with fail
    have hb1 := below_drewN (Below.refl w.heap.size w) nq
    have h1 := DiskIn.up h hb1
    have kf1 := keepF_below (f := fixD) hb1
    have hb1 := hb1.mono hbw
    have hbg := h.gb
    clear c3 c4 hblk h
    generalize w.drewN nq = w1 at *
    obtain ⟨Mn, Ms, A, c, os, hblk, r1, r2, r3, r4, r5, r6, r7⟩ := h1.rows_
    have c3 := hblk.cell 3
    have f3 := hblk.frozen 3
    simp at c3
    have hnf := neq_fn fn lb
    have h2 := h1.tick
    have kf2 := kf1.trans (keepF_tick h1)
    have hb2 := hb1.setCell (p := ⟨g, 3, none⟩) hbg (.int .i64 ((sn : Int) + 1))
    have hov2 := hov.keep kf2 (fun _ => rfl) (fun _ => rfl) (fun _ => rfl)
    go_upto_region 7 with fail
    clear hblk r1 r2 r3 r4 r5 r6 r7 c3 f3 h1 kf1 hb1 hov
    generalize (w1.setCell ⟨g, 3, none⟩ (.int .i64 ((sn : Int) + 1))) = w2 at *
    obtain ⟨Mn, Ms, A, c, os, hblk, r1, r2, r3, r4, r5, r6, r7⟩ := h2.rows_
    obtain ⟨fn2, lb2, hv2, eg, hcall⟩ := op_call hov2 r4 hok.out hlen
    injection hv2 with hv2 _ hv3
    injection hv2 with hv2
    subst hv2 hv3
    have c0 := hblk.cell 0
    simp at c0
    go_upto_region 8 with (go_at_fn fn; refine hcall.mono ?_; rintro e w3 ⟨rfl, hF3, hg3⟩)
    have k3 : KeepF offMap w2 w3 := by
      obtain ⟨D, hD, _⟩ := r4
      exact keepM_grown hD hg3
    have hblk3 := k3.blk hblk rfl
    have hrow3 := k3.own r6 (fun _ => rfl)
    have hs2 : base ≤ w2.heap.size := Nat.le_trans hbw hb2.size
    have hb3 : Below base w w3 := hb2.grown hg3 hs2 (fun j hj => by cases hj; exact r1)
    have hs3 : base ≤ w3.heap.size := Nat.le_trans hbw hb3.size
    have c2 := hblk3.cell 2
    simp at c2
    have HFE := Lib.hid (fun W (h : Blk W g 89 #[.map (some Mn), .map (some Ms), .slice A since.length c, .int .i64 ((sn + 1 : Nat) : Int), .int .i64 st]) => (show W.cell? ⟨g, 2, none⟩ = some (.slice A since.length c) ∧ W.frozen? ⟨g, 2, none⟩ = false from ⟨by have := h.cell 2; simpa using this, h.frozen 2⟩))
    have hby : (since.length + 1) * 8 ≤ 140737488355328 := by omega
    go_wp2_with (first
      | (with_reducible show wpList _ _ _ (⟨some 51, _, _, _, _, _⟩ :: _) _ _; go_must (refine wpList_newg (.tmp 48) (.tmp 50) el_op rfl rfl hrow3 rfl rfl rfl rfl rfl hby hs3 ?_; intro v4 w4 hown4 hb4 hg4 ha4; obtain ⟨A4, c4, rfl, _, _, _, _⟩ := own_form hown4; have k4 := keepT_grown hrow3 hg4; obtain ⟨e4, f4⟩ := HFE.out w4 (k4.blk hblk3 rfl))))
    go_ret
    have hd := h2.done hblk r1 r2 r3 r4 r5 r7 hov2 hok.out hF3 hg3 hown4 k4
    exact ⟨rfl, hd.1, (hb3.trans hb4).setCell hbg _, kf2.trans hd.2⟩
  · have hg0 : (0 : Int) ≤ st := by omega
    have hg1 : decide (st ≤ (sn : Int)) = false := by simp; omega
    have hg2 : decide ((sn : Int) ≥ st) = false := by simp; omega
    go_enter Tryz.func41, Tryz.ntmps41
    go_upto_region 1 with fail
    go_quiet (fail)
    go_upto_region 5 with fail
    have hb1 := below_drewN (Below.refl w.heap.size w) nq
    have h1 := DiskIn.up h hb1
    have kf1 := keepF_below (f := fixD) hb1
    have hb1 := hb1.mono hbw
    have hbg := h.gb
    clear c3 c4 hblk h
    generalize w.drewN nq = w1 at *
    obtain ⟨Mn, Ms, A, c, os, hblk, r1, r2, r3, r4, r5, r6, r7⟩ := h1.rows_
    have c3 := hblk.cell 3
    have f3 := hblk.frozen 3
    simp at c3
    have hnf := neq_fn fn lb
    have h2 := h1.tick
    have kf2 := kf1.trans (keepF_tick h1)
    have hb2 := hb1.setCell (p := ⟨g, 3, none⟩) hbg (.int .i64 ((sn : Int) + 1))
    have hov2 := hov.keep kf2 (fun _ => rfl) (fun _ => rfl) (fun _ => rfl)
    go_upto_region 7 with fail
    clear hblk r1 r2 r3 r4 r5 r6 r7 c3 f3 h1 kf1 hb1 hov
    generalize (w1.setCell ⟨g, 3, none⟩ (.int .i64 ((sn : Int) + 1))) = w2 at *
    obtain ⟨Mn, Ms, A, c, os, hblk, r1, r2, r3, r4, r5, r6, r7⟩ := h2.rows_
    obtain ⟨fn2, lb2, hv2, eg, hcall⟩ := op_call hov2 r4 hok.out hlen
    injection hv2 with hv2 _ hv3
    injection hv2 with hv2
    subst hv2 hv3
    have c0 := hblk.cell 0
    simp at c0
    go_upto_region 8 with (go_at_fn fn; refine hcall.mono ?_; rintro e w3 ⟨rfl, hF3, hg3⟩)
    have k3 : KeepF offMap w2 w3 := by
      obtain ⟨D, hD, _⟩ := r4
      exact keepM_grown hD hg3
    have hblk3 := k3.blk hblk rfl
    have hrow3 := k3.own r6 (fun _ => rfl)
    have hs2 : base ≤ w2.heap.size := Nat.le_trans hbw hb2.size
    have hb3 : Below base w w3 := hb2.grown hg3 hs2 (fun j hj => by cases hj; exact r1)
    have hs3 : base ≤ w3.heap.size := Nat.le_trans hbw hb3.size
    have c2 := hblk3.cell 2
    simp at c2
    have HFE := Lib.hid (fun W (h : Blk W g 89 #[.map (some Mn), .map (some Ms), .slice A since.length c, .int .i64 ((sn + 1 : Nat) : Int), .int .i64 st]) => (show W.cell? ⟨g, 2, none⟩ = some (.slice A since.length c) ∧ W.frozen? ⟨g, 2, none⟩ = false from ⟨by have := h.cell 2; simpa using this, h.frozen 2⟩))
    have hby : (since.length + 1) * 8 ≤ 140737488355328 := by omega
    go_wp2_with (first
      | (with_reducible show wpList _ _ _ (⟨some 51, _, _, _, _, _⟩ :: _) _ _; go_must (refine wpList_newg (.tmp 48) (.tmp 50) el_op rfl rfl hrow3 rfl rfl rfl rfl rfl hby hs3 ?_; intro v4 w4 hown4 hb4 hg4 ha4; obtain ⟨A4, c4, rfl, _, _, _, _⟩ := own_form hown4; have k4 := keepT_grown hrow3 hg4; obtain ⟨e4, f4⟩ := HFE.out w4 (k4.blk hblk3 rfl))))
    go_ret
    have hd := h2.done hblk r1 r2 r3 r4 r5 r7 hov2 hok.out hF3 hg3 hown4 k4
    exact ⟨rfl, hd.1, (hb3.trans hb4).setCell hbg _, kf2.trans hd.2⟩
end Go.Proofs.YtmeemcafjebanaaGreatDoor
