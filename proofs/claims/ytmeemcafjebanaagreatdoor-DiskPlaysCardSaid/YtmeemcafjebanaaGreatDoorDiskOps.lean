/- The walks of the disk's function values: a file is written, gets another name, is taken away; a name is looked up. -/
import Derived.Test.YtmeemcafjebanaaGreatDoorPlainDisk
import Derived.Test.YtmeemcafjebanaaGreatDoorErr
import Derived.Shelf.Abstract
namespace Go.Proofs.YtmeemcafjebanaaGreatDoor
open Go.RowKit Go.Maps Go.WideMaps Go.Shelf

theorem FMap.of {w : World} {M n : Nat} {D : DataW Unit} {l : List Fl} (h1 : w.ownsMap Tryz.prog 9 slR M n D) (h2 : MapL kfF flD D l) : FMap w M l := ⟨D, by rw [← h2.size]; exact own_tight h1, h2⟩
def flV : Option Fl → Value
  | none => .slice none 0 0
  | some x => x.val
theorem zsl (w : World) : (zeroValue 41).run Tryz.prog w = .ok (.slice none 0 0) w := by kernel_rfl
theorem kfF_lit (x : Fl) : WideAt.IsKeyLit (kfF x) := klS_lit _
theorem look_v {l : List Fl} {D : DataW Unit} (h : MapL kfF flD D l) {n : ByteArray} {v : Value} {ps : List MemPlace} (hv : slR v = some (D.atKey (klS n) (slD none 0 0), ps)) : v = flV (atF n l) := by
  obtain ⟨g, m, c, rfl, e2⟩ := slR_inv hv
  injection e2 with e2 _
  rcases ha : atF n l with _ | x
  · have hh : Maps.has D (klS n) = false := h.not_has fun x hx e => atF_none.1 ha x hx (klS_inj e)
    rw [Maps.atKey_of_not_has hh] at e2
    obtain ⟨rfl, rfl, rfl⟩ := slD_inj e2
    rfl
  · obtain ⟨h1, h2⟩ := atF_some ha
    have h3 := h.at_ x h1 (slD none 0 0)
    rw [show kfF x = klS n from by rw [kfF, h2]] at h3
    rw [h3] at e2
    obtain ⟨rfl, rfl, rfl⟩ := slD_inj e2
    rfl
theorem look_has {l : List Fl} {D : DataW Unit} (h : MapL kfF flD D l) (n : ByteArray) : Maps.has D (klS n) = (atF n l).isSome := by
  rcases ha : atF n l with _ | x
  · exact h.not_has fun x hx e => atF_none.1 ha x hx (klS_inj e)
  · obtain ⟨h1, h2⟩ := atF_some ha
    have := h.there x h1
    rwa [show kfF x = klS n from by rw [kfF, h2]] at this
theorem FMap.look {w : World} {M : Nat} {l : List Fl} (h : FMap w M l) {n : ByteArray} (hn : n.size ≤ 20) : (Instr.lookup 86 (.map (some M)) (.string n) false).run Tryz.prog w = .ok (flV (atF n l)) w := by
  obtain ⟨D, h1, h2⟩ := h
  obtain ⟨v, ps, hrun, hv⟩ := h1.lookup kstr Tryz.underlying86 (zsl w) (zd := slD none 0 0) (zp := []) rfl (klS_key (Nat.le_trans hn (by decide)))
  rw [hrun, look_v h2 hv]
theorem FMap.look_ok {w : World} {M : Nat} {l : List Fl} (h : FMap w M l) {n : ByteArray} (hn : n.size ≤ 20) : (Instr.lookup 86 (.map (some M)) (.string n) true).run Tryz.prog w = .ok (.tuple #[flV (atF n l), .bool (atF n l).isSome]) w := by
  obtain ⟨D, h1, h2⟩ := h
  obtain ⟨v, ps, hrun, hv⟩ := h1.look_ok kstr Tryz.underlying86 (zsl w) (zd := slD none 0 0) (zp := []) rfl (klS_key (Nat.le_trans hn (by decide)))
  rw [hrun, look_v h2 hv, look_has h2]
set_option maxRecDepth 100000 in
set_option maxHeartbeats 1000000 in
theorem oput_any (M bb nb : Nat) (l : List Fl) (x : Fl) (w : World) (hM : FMap w M l) (hb : Blk w bb 41 #[x.val]) (hn : Blk w nb 9 #[.string x.name]) (hs : x.name.size ≤ 20) (hl : l.length ≤ 100000) :
    Calls Tryz.prog 42 #[.map (some M), .pointer (some ⟨bb, 0, none⟩), .pointer (some ⟨nb, 0, none⟩)] w fun e w' => e = .returned (.tuple #[]) ∧ FMap w' M (doF l (.put x)) ∧ w.grownBy w' (some M) := by
  obtain ⟨D, h1, h2⟩ := hM
  have c0 := hb.cell 0
  have c1 := hn.cell 0
  simp at c0 c1
  have hkey := klS_key (k := x.name) (Nat.le_trans hs (by decide))
  have hR : slR x.val = some (flD x, []) := slR_mk _ _ _
  generalize x.val = xv at *
  go_enter Tryz.func42, Tryz.ntmps42
  go_wp2_with (first
    | (at_mapUpdate; go_must (refine wpList_mapUpdate_own _ rfl _ _ _ 86 rfl 9 41 kstr Tryz.underlying86 slR M l.length D rfl h1 (by unfold maxLen; omega) _ _ (klS x.name) rfl rfl hkey (flD x) [] hR ?_); intro w9 hown9 hgr9))
  go_end0
  exact ⟨rfl, FMap.of hown9 (h2.put x (kfF_lit x)), hgr9⟩
set_option maxRecDepth 100000 in
set_option maxHeartbeats 1000000 in
theorem odel_any (M ab : Nat) (l : List Fl) (a : ByteArray) (w : World) (hM : FMap w M l) (hb : Blk w ab 9 #[.string a]) (hs : a.size ≤ 20) :
    Calls Tryz.prog 45 #[.map (some M), .pointer (some ⟨ab, 0, none⟩)] w fun e w' => e = .returned (.tuple #[]) ∧ FMap w' M (doF l (.del a)) ∧ w.grownBy w' (some M) := by
  obtain ⟨D, h1, h2⟩ := hM
  have c0 := hb.cell 0
  simp at c0
  have hkey := klS_key (k := a) (Nat.le_trans hs (by decide))
  go_enter Tryz.func45, Tryz.ntmps45
  go_wp2_with (first
    | (at_delete; go_must (refine wpList_delete_own _ rfl _ _ 86 9 rfl 41 kstr Tryz.underlying86 slR M l.length D rfl h1 _ (klS a) rfl hkey ?_); intro w9 hown9 hgr9))
  go_end0
  exact ⟨rfl, FMap.of hown9 (h2.del (klS a) (klS_lit a)), hgr9.grown⟩
set_option maxRecDepth 100000 in
set_option maxHeartbeats 1000000 in
theorem oren_any (M ab bb : Nat) (l : List Fl) (a b : ByteArray) (w : World) (hM : FMap w M l) (hb : Blk w ab 9 #[.string a]) (hn : Blk w bb 9 #[.string b]) (hok : okOp l (.ren a b)) (hl : l.length ≤ 100000) :
    Calls Tryz.prog 44 #[.map (some M), .pointer (some ⟨ab, 0, none⟩), .pointer (some ⟨bb, 0, none⟩)] w fun e w' => e = .returned (.tuple #[]) ∧ FMap w' M (doF l (.ren a b)) ∧ w.grownBy w' (some M) := by
  obtain ⟨⟨x, hx⟩, ha, hbs⟩ := hok
  have hlk := hM.look ha
  rw [hx] at hlk
  obtain ⟨D, h1, h2⟩ := hM
  have hlt := h1.lt
  have c0 := hb.cell 0
  have c1 := hn.cell 0
  simp at c0 c1
  have hkey := klS_key (k := a) (Nat.le_trans ha (by decide))
  have hkey2 := klS_key (k := b) (Nat.le_trans hbs (by decide))
  have hR : slR x.val = some (flD ⟨b, x.b, x.g, x.c⟩, []) := slR_mk _ _ _
  have HX := Lib.hid hx
  clear hx
  obtain ⟨xv, hxv⟩ : ∃ xv, xv = x.val := ⟨_, rfl⟩
  rw [show flV (some x) = xv from hxv.symm] at hlk
  rw [← hxv] at hR
  clear hxv
  have hw5 : ∀ W : World, W.ownsMap Tryz.prog 9 slR M l.length (D.del (klS a)) → w.grownBy W (some M) → W.cell? ⟨bb, 0, none⟩ = some (.string b) := fun W _ hg => map_cell_at h1 hg c1
  go_enter Tryz.func44, Tryz.ntmps44
  go_wp2_with (first
    | (at_delete; go_must (refine wpList_delete_own _ rfl _ _ 86 9 rfl 41 kstr Tryz.underlying86 slR M l.length D rfl h1 _ (klS a) rfl hkey ?_); intro w8 hown8 hgr8; have c2 := hw5 w8 hown8 hgr8.grown)
    | (at_mapUpdate; go_must (refine wpList_mapUpdate_own _ rfl _ _ _ 86 rfl 9 41 kstr Tryz.underlying86 slR M l.length (D.del (klS a)) rfl hown8 (by unfold maxLen; omega) _ _ (klS b) rfl rfl hkey2 (flD ⟨b, x.b, x.g, x.c⟩) [] hR ?_); intro w9 hown9 hgr9))
  go_end0
  have h3 := (h2.del (klS a) (klS_lit a)).put ⟨b, x.b, x.g, x.c⟩ (kfF_lit _)
  refine ⟨rfl, ?_, only_trans hgr8.grown hgr9⟩
  show FMap w9 M (renF l a b (atF a l))
  rw [HX.out]
  exact FMap.of hown9 h3
/-- What the function value does where it is called. -/
theorem op_call {w : World} {base M : Nat} {o : DOp} {v : Value} {l : List Fl} (h : OpVal w base o v) (hM : FMap w M l) (hok : okOp l o) (hl : l.length ≤ 100000) :
    ∃ fn lb, v = .func (.func fn) #[] lb ∧ (∀ args W, (callFunc fn args).run Tryz.prog W = .ok (.enter fn args) W) ∧ Calls Tryz.prog fn (#[.map (some M)] ++ lb) w fun e w' => e = .returned (.tuple #[]) ∧ FMap w' M (doF l o) ∧ w.grownBy w' (some M) := by
  cases o with
  | put x =>
    obtain ⟨bb, nb, rfl, _, _, h3, h4, _⟩ := h
    exact ⟨_, _, rfl, enters_of Tryz.func42 (by kernel_rfl) rfl, oput_any M bb nb l x w hM h3 h4 hok hl⟩
  | ren a b =>
    obtain ⟨ab, bb, rfl, _, _, h3, h4⟩ := h
    exact ⟨_, _, rfl, enters_of Tryz.func44 (by kernel_rfl) rfl, oren_any M ab bb l a b w hM h3 h4 hok hl⟩
  | del a =>
    obtain ⟨ab, rfl, _, h3⟩ := h
    exact ⟨_, _, rfl, enters_of Tryz.func45 (by kernel_rfl) rfl, odel_any M ab l a w hM h3 hok⟩
end Go.Proofs.YtmeemcafjebanaaGreatDoor
