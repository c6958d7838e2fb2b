/- The walks of frame.Held and frame.Compare. -/
import Derived.Test.YtcfijljagohmlaaGreatDoorErr
import Derived.Test.YtcfijljagohmlaaGreatDoorWalkCmp
import Derived.Test.YtcfijljagohmlaaGreatDoorPlainHeld
import Derived.Deep.RegionHeld3
import Derived.Deep.RegionWith
import Derived.Deep.DrawnRows
import Derived.BigQuiet
import Derived.Deep.QuietTactic
namespace Go.Proofs.YtcfijljagohmlaaGreatDoor
open Go.RowKit

set_option maxRecDepth 100000 in
set_option maxHeartbeats 400000 in
theorem held_any (r : Hld) (w : World) (hr : r.key.size ≤ 9223372036854775807) :
    Calls Tryz.prog 49 #[r.val] w fun e w' => e = .returned (.bool (hldOk r)) ∧ Below w.heap.size w w' := by
  go_enter Tryz.func49, Tryz.ntmps49
  unfold Hld.val
  go_wp2
  all_goals go_ret
  all_goals refine ⟨?_, (Below.refl _ _).alloc (Nat.le_refl _) _⟩
  all_goals (simp [hldOk, *] <;> (intros; omega))
theorem held_true (r : Hld) (w : World) (hr : r.key.size ≤ 9223372036854775807) (h : hldOk r = true) :
    Calls Tryz.prog 49 #[r.val] w fun e w' => e = .returned (.bool true) ∧ Below w.heap.size w w' := by
  have := held_any r w hr; rw [h] at this; exact this
theorem held_false (r : Hld) (w : World) (hr : r.key.size ≤ 9223372036854775807) (h : hldOk r = false) :
    Calls Tryz.prog 49 #[r.val] w fun e w' => e = .returned (.bool false) ∧ Below w.heap.size w w' := by
  have := held_any r w hr; rw [h] at this; exact this

set_option maxRecDepth 100000 in
set_option maxHeartbeats 2000000 in
theorem compare_any (x y : Hld) (w : World) :
    Calls Tryz.prog 43 #[x.val, y.val] w fun e w' => e = .returned (.int .i64 (cmpH x y)) ∧ Below w.heap.size w w' := by
  go_enter Tryz.func43, Tryz.ntmps43
  unfold Hld.val
  go_wp2
  obtain ⟨o1, ho1⟩ : ∃ o, o = Obj.cells #[.int .i64 x.node, .string x.key, .int .i64 x.a, .int .i64 x.b] 29 := ⟨_, rfl⟩
  obtain ⟨o2, ho2⟩ : ∃ o, o = Obj.cells #[.int .i64 y.node, .string y.key, .int .i64 y.a, .int .i64 y.b] 29 := ⟨_, rfl⟩
  have b1 : Blk ((w.alloc o1).alloc o2) w.heap.size 29 #[.int .i64 x.node, .string x.key, .int .i64 x.a, .int .i64 x.b] := by rw [ho1]; exact (Blk.new _ _ _).alloc _
  have b2 : Blk ((w.alloc o1).alloc o2) (w.heap.size + 1) 29 #[.int .i64 y.node, .string y.key, .int .i64 y.a, .int .i64 y.b] := by
    have := Blk.new (w.alloc o1) 29 #[.int .i64 y.node, .string y.key, .int .i64 y.a, .int .i64 y.b]
    rw [← ho2] at this; simpa using this
  have hbel : Below w.heap.size w ((w.alloc o1).alloc o2) := ((Below.refl _ _).alloc (Nat.le_refl _) _).alloc (by simp) _
  have hsz : ((w.alloc o1).alloc o2).heap.size = w.heap.size + 2 := by simp
  rw [← ho1, ← ho2]
  clear ho1 ho2
  generalize (w.alloc o1).alloc o2 = w1 at *
  have HS := Lib.hid hsz
  have c0 := b1.cell 0
  have c1 := b1.cell 1
  have e0 := b2.cell 0
  have e1 := b2.cell 1
  simp at c0 c1 e0 e1
  have l1 := b1.lt
  have l2 := b2.lt
  clear hsz
  have HO := Lib.hid (or_any w1.heap.size 2 (cmpI x.node y.node) (cmpS x.key y.key) (w1.alloc (.cells #[.int .i64 (cmpI x.node y.node), .int .i64 (cmpS x.key y.key)] 3)).drew (by simp) (by simp))
  go_region_held3 (fun w' => w'.cell? ⟨w.heap.size, 0, none⟩ = some (.int .i64 x.node) ∧ w'.cell? ⟨w.heap.size, 1, none⟩ = some (.string x.key) ∧ w'.cell? ⟨w.heap.size + 1, 0, none⟩ = some (.int .i64 y.node) ∧ w'.cell? ⟨w.heap.size + 1, 1, none⟩ = some (.string y.key)) (go_keep)
    ((first
      | (go_at_call 81; refine (cmpI_any _ _ _).mono ?_; rintro e w' ⟨rfl, rfl⟩)
      | (go_at_call 82; refine (cmpS_any _ _ _).mono ?_; rintro e w' ⟨rfl, rfl⟩)
      | (go_at_call 80; refine HO.out.mono ?_; rintro e w' ⟨rfl, rfl⟩)))
  go_wp2
  go_ret
  exact ⟨rfl, (hbel.alloc hbel.size _).drew⟩
end Go.Proofs.YtcfijljagohmlaaGreatDoor
