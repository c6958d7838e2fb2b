/- The walk of slices.Clone at bytes. -/
import Derived.Test.YtmeemcafjebanaaGreatDoorProg
import Derived.Test.YtmeemcafjebanaaGreatDoorWalkNum
import Derived.Test.YtmeemcafjebanaaGreatDoorBase2
namespace Go.Proofs.YtmeemcafjebanaaGreatDoor
open Go.RowKit

set_option maxRecDepth 100000 in
set_option maxHeartbeats 1000000 in
theorem bclone_any (A : Option Addr) (c n B : Nat) (l : List UInt8) (w : World) (hr : Rd w B 1 A n (l.map bv)) (hn : n = l.length) (hB : B ≤ w.heap.size) (hl : n ≤ 140737488355328) :
    Calls Tryz.prog 40 #[.slice A n c] w fun e w' => ∃ v, e = .returned v ∧ w'.ownsRow w.heap.size 5 1 v n (l.map bv) ∧ Below w.heap.size w w' := by
  rcases A with _ | ad
  · have hn0 : n = 0 := by
      rcases Nat.eq_zero_or_pos n with h | h
      · exact h
      · obtain ⟨_, h, _⟩ := hr.2 h; cases h
    subst hn0
    have hl0 : l = [] := List.eq_nil_of_length_eq_zero hn.symm
    subst hl0
    clear hn
    have heq : ∀ W : World, (binOp .eql 41 (.slice none 0 c) (.slice none 0 0)).run Tryz.prog W = .ok (.bool true) W := fun W => Go.Lib.run_eql_slice_nil W 41 5 none 0 c 0 0 Tryz.underlying41
    go_enter Tryz.func40, Tryz.ntmps40
    go_wp2_with fail
    go_ret
    exact ⟨_, rfl, World.ownsRow_nil _ _ _ _, Below.refl _ _⟩
  · clear hn
    have hb := (Below.refl w.heap.size w).alloc (Nat.le_refl _) (.cells #[] 5)
    have hown : (w.alloc (.cells #[] 5)).ownsRow w.heap.size 5 1 (.slice (some ⟨w.heap.size, 0, none⟩) 0 0) 0 [] := ⟨rfl, .inr ⟨w.heap.size, 0, _, rfl, Nat.le_refl _, heap_alloc_new w _, Nat.le_refl _, Nat.zero_le _, rfl, rfl⟩⟩
    have hr2 := hr.alloc hB (.cells #[] 5)
    have h1 : ∀ u ∈ l.map bv, u.oneCell' = true := by
      intro u hu
      obtain ⟨x, _, rfl⟩ := List.mem_map.1 hu
      rfl
    generalize l.map bv = xs at *
    have heq : ∀ W : World, (binOp .eql 41 (.slice (some ad) n c) (.slice none 0 0)).run Tryz.prog W = .ok (.bool false) W := fun W => Go.Lib.run_eql_slice_nil W 41 5 (some ad) n c 0 0 Tryz.underlying41
    go_enter Tryz.func40, Tryz.ntmps40
    go_wp2_with (first
      | (with_reducible show wpList _ _ _ (⟨some 7, _, _, _, _, _⟩ :: _) _ _; go_must (refine wpList_rd (.tmp 5) (.tmp 6) el_u8 rfl rfl hown rfl hr2 rfl h1 (by omega) (by simp) ?_); intro v1 w1 hown1 hb1 hg1 ha1))
    go_ret
    exact ⟨v1, rfl, by simpa using hown1, hb.trans hb1⟩
end Go.Proofs.YtmeemcafjebanaaGreatDoor
