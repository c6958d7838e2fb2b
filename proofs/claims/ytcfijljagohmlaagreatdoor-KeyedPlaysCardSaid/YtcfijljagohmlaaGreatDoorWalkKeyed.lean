/- The walks of keyed.New, Put, in, some, All, Export. -/
import Derived.Test.YtcfijljagohmlaaGreatDoorHldSort
import Derived.Test.YtcfijljagohmlaaGreatDoorWalkGroup
import Derived.Test.YtcfijljagohmlaaGreatDoorWalkHelds
import Derived.Test.YtcfijljagohmlaaGreatDoorKeeps
import Derived.Deep.RegionLaw
import Derived.StillTailTactics
import Derived.Deep.CutBlock
import Derived.Deep.CutRange
namespace Go.Proofs.YtcfijljagohmlaaGreatDoor
open Go.RowKit Go.Maps Go.WideMaps

set_option maxRecDepth 100000 in
set_option maxHeartbeats 400000 in
theorem knew_any (w : World) :
    Calls Tryz.prog 11 #[] w fun e w' => e = .returned (.pointer (some ⟨w.heap.size + 1, 0, none⟩)) ∧ KIn w' (w.heap.size + 1) w.heap.size [] ∧ Below w.heap.size w w' ∧ w'.heap.size = w.heap.size + 2 := by
  have hmm := @run_makeMap Tryz.prog
  have hown := World.ownsMap_made w Tryz.prog 97 hldR
  go_enter Tryz.func11, Tryz.ntmps11
  go_wp2
  go_ret
  have hb := (Below.refl w.heap.size w).alloc (Nat.le_refl _) (.map #[] 0)
  refine ⟨rfl, ⟨?_, ⟨_, hown.alloc _, MapL.start⟩, .nil, (fun _ h => by cases h)⟩, hb.alloc hb.size _, by simp⟩
  have := Blk.new (w.alloc (.map #[] 0)) 95 #[.map (some w.heap.size)]
  simpa using this
set_option maxRecDepth 100000 in
set_option maxHeartbeats 1000000 in
theorem kput_any (g M : Nat) (S : List Hld) (h : Hld) (w : World) (hk : KIn w g M S) (hh : h.Ok) (hS : S.length ≤ 1000000) :
    Calls Tryz.prog 12 #[.pointer (some ⟨g, 0, none⟩), h.val] w fun e w' => e = .returned (errV (putHE S h)) ∧ KIn w' g M (putH S h) ∧ w.grownBy w' (some M) := by
  have hgr0 := World.grownBy_alloc w (.cells #[.int .i64 h.node, .string h.key, .int .i64 h.a, .int .i64 h.b] 29) none
  have hbx := Blk.new w 29 #[.int .i64 h.node, .string h.key, .int .i64 h.a, .int .i64 h.b]
  rcases hok : hldOk h
  · have HP := Lib.hid (putHE_bad (S := S) hok)
    have HS := Lib.hid (putH_same HP.out (by omega))
    rw [HP.out, HS.out]
    go_enter Tryz.func12, Tryz.ntmps12
    unfold Hld.val
    go_wp2_with (first | (go_at_call 49; go_must (refine (held_false h _ hh.1 hok).mono ?_); rintro e w1 ⟨rfl, hb1⟩))
    go_ret
    have hb := ((Below.refl w.heap.size w).alloc (Nat.le_refl _) (.cells #[.int .i64 h.node, .string h.key, .int .i64 h.a, .int .i64 h.b] 29)).trans (hb1.mono (by simp))
    exact ⟨rfl, hk.up hb, (World.grownBy.but ⟨hb.os, hb.tape, hb.output, hb.size, fun i hi _ => hb.block i hi⟩ _)⟩
  · have hkey := keyOf_at (hld_ok_key hh).1 (hld_ok_key hh).2
    go_enter Tryz.func12, Tryz.ntmps12
    unfold Hld.val
    go_upto_region 4 with (first | (go_at_call 49; go_must (refine (held_true h _ hh.1 hok).mono ?_); rintro e w1 ⟨rfl, hb1⟩; have hbx1 := hbx.up hb1; obtain ⟨b0, b1, b2, b3⟩ := cells4 hbx1))
    have hb0 := ((Below.refl w.heap.size w).alloc (Nat.le_refl _) (.cells #[.int .i64 h.node, .string h.key, .int .i64 h.a, .int .i64 h.b] 29)).trans (hb1.mono (by simp))
    have hbW := hb0.alloc hb0.size (.cells #[.int .i64 h.node, .string h.key] 97)
    have hkW := hk.up hbW
    have hbxW := hbx1.alloc (.cells #[.int .i64 h.node, .string h.key] 97)
    have hbaW := Blk.new w1 97 #[.int .i64 h.node, .string h.key]
    have hga := hb0.size
    have hgx2 : w.heap.size < w1.heap.size := by have := hb1.size; simp at this; omega
    obtain ⟨gx, hgx⟩ : ∃ gx, gx = w.heap.size := ⟨_, rfl⟩
    obtain ⟨ga, hga2⟩ : ∃ ga, ga = w1.heap.size := ⟨_, rfl⟩
    rw [← hga2] at hbaW hgx2
    rw [← hgx] at hbxW hgx2
    rw [← hgx, ← hga2]
    clear b0 b1 b2 b3 hbx1 hgx hga2
    generalize w1.alloc (.cells #[.int .i64 h.node, .string h.key] 97) = w2 at *
    obtain ⟨D, hown, hD⟩ := hkW.own
    have hhas := mapL_has hD (fun x hx => (hk.fine x hx).2) (hld_ok_key hh).1 (hld_ok_key hh).2
    have c0 := hkW.blk.cell 0
    have a0 := hbaW.cell 0
    have a1 := hbaW.cell 1
    have x0 := hbxW.cell 0
    have x1 := hbxW.cell 1
    have x2 := hbxW.cell 2
    have x3 := hbxW.cell 3
    simp at c0 a0 a1 x0 x1 x2 x3
    have hlg := hkW.ltg
    have hla := hbaW.lt
    have hlx := hbxW.lt
    obtain ⟨y, hy, hrun⟩ := runs_lookup_hld w2 kat Tryz.underlying93 zhld hown hkey
    have hr1 := hrun w2.drew rfl
    have hr2 := fun o => hrun (w2.alloc o).drew (Below.heap_alloc w2 o M hown.lt)
    rw [hhas] at hr1 hr2
    obtain ⟨bh, hbh⟩ : ∃ bh, bh = hasH h.node h.key S := ⟨_, rfl⟩
    rw [← hbh] at hr1 hr2
    have HBH := Lib.hid hbh
    clear hrun hhas hy hbh
    go_region
    have hbW3 := below_drewN (hbW.alloc hbW.size (.cells #[.int .i64 y.node, .string y.key, .int .i64 y.a, .int .i64 y.b] 29)) 1
    have hk3 : KIn (w2.alloc (.cells #[.int .i64 y.node, .string y.key, .int .i64 y.a, .int .i64 y.b] 29)).drew g M S := hk.up hbW3
    have hown3 : (w2.alloc (.cells #[.int .i64 y.node, .string y.key, .int .i64 y.a, .int .i64 y.b] 29)).drew.ownsMap Tryz.prog 97 hldR M S.length D := (hown.alloc _).drew
    have hx3 := (hbxW.alloc (.cells #[.int .i64 y.node, .string y.key, .int .i64 y.a, .int .i64 y.b] 29)).drew
    have ha3 := (hbaW.alloc (.cells #[.int .i64 y.node, .string y.key, .int .i64 y.a, .int .i64 y.b] 29)).drew
    rw [show (w2.alloc (.cells #[.int .i64 y.node, .string y.key, .int .i64 y.a, .int .i64 y.b] 29)).drewN 1 = (w2.alloc (.cells #[.int .i64 y.node, .string y.key, .int .i64 y.a, .int .i64 y.b] 29)).drew from rfl] at hbW3
    generalize (w2.alloc (.cells #[.int .i64 y.node, .string y.key, .int .i64 y.a, .int .i64 y.b] 29)).drew = w3 at *
    clear hr1 hr2 c0 a0 a1 x0 x1 x2 x3 hlg hla hlx hbxW hbaW hown hkW hbW hb1 hbx hgr0
    have c0 := hk3.blk.cell 0
    have a0 := ha3.cell 0
    have a1 := ha3.cell 1
    have x0 := hx3.cell 0
    have x1 := hx3.cell 1
    have x2 := hx3.cell 2
    have x3 := hx3.cell 3
    simp at c0 a0 a1 x0 x1 x2 x3
    have hsz := Lib.hid hD.size
    have hgr3 : w.grownBy w3 (some M) := World.grownBy.but ⟨hbW3.os, hbW3.tape, hbW3.output, hbW3.size, fun i hi _ => hbW3.block i hi⟩ _
    rcases bh
    · by_cases hfull : 400 ≤ S.length
      · have HP := Lib.hid (putHE_full hok HBH.out.symm hfull)
        have HS := Lib.hid (putH_same HP.out (by omega))
        have hf2 : (400 : Int) ≤ (S.length : Int) := by omega
        go_wp2_with (first
          | (at_len; go_must (refine wpList_len_wanted _ rfl _ 93 rfl 97 29 Tryz.underlying93 hldR M S.length D rfl hown3 ?_); rw [hsz.out]))
        go_ret
        exact ⟨by rw [HP.out]; rfl, by rw [HS.out]; exact hk3, hgr3⟩
      · have HP := Lib.hid (putHE_good hok (fun e => hfull e.2))
        have HS := Lib.hid (putH_good HP.out)
        have hf2 : ¬ (400 : Int) ≤ (S.length : Int) := by omega
        go_upto_region 7 with (first
          | (at_len; go_must (refine wpList_len_wanted _ rfl _ 93 rfl 97 29 Tryz.underlying93 hldR M S.length D rfl hown3 ?_); rw [hsz.out]))
        go_still_tail 6, (by kernel_rfl)
        change wpList _ _ _ _ _ w3.drew
        go_wp2_with (first
          | (at_mapUpdate; go_must (refine wpList_mapUpdate_own _ rfl _ _ _ 93 rfl 97 29 kat Tryz.underlying93 hldR M S.length D rfl hown3.drew (by unfold maxLen; omega) _ _ (klA h.node h.key) rfl rfl hkey (hldD h) [] rfl ?_); intro w9 hown9 hgr9))
        go_ret
        exact ⟨by rw [HP.out]; rfl, by rw [HS.out]; exact hk3.put hD hok hh hown9 (grown_undrew hgr9), only_trans hgr3 (grown_undrew hgr9)⟩
    · have HP := Lib.hid (putHE_good (S := S) hok (fun e => by rw [← HBH.out] at e; cases e.1))
      have HS := Lib.hid (putH_good HP.out)
      go_upto_region 7 with fail
      go_still_tail 6, (by kernel_rfl)
      change wpList _ _ _ _ _ w3.drew
      go_wp2_with (first
        | (at_mapUpdate; go_must (refine wpList_mapUpdate_own _ rfl _ _ _ 93 rfl 97 29 kat Tryz.underlying93 hldR M S.length D rfl hown3.drew (by unfold maxLen; omega) _ _ (klA h.node h.key) rfl rfl hkey (hldD h) [] rfl ?_); intro w9 hown9 hgr9))
      go_ret
      exact ⟨by rw [HP.out]; rfl, by rw [HS.out]; exact hk3.put hD hok hh hown9 (grown_undrew hgr9), only_trans hgr3 (grown_undrew hgr9)⟩
end Go.Proofs.YtcfijljagohmlaaGreatDoor
