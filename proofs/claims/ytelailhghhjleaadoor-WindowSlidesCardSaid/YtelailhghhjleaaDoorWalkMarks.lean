/- The walk of weirref2.Record. -/
import Derived.Test.YtelailhghhjleaaDoorWalkCheck
import Derived.Test.YtelailhghhjleaaDoorPlainMarks
namespace Go.Proofs.YtelailhghhjleaaDoor
open Go.RowKit

set_option maxRecDepth 100000 in
set_option maxHeartbeats 400000 in
theorem srecord_any (r : Rec) (w : World) (hr : r.key.size ≤ 9223372036854775807) :
    Calls Tryd.prog 35 #[r.val] w fun e w' => e = .returned (.bool (recOk r)) ∧ Below w.heap.size w w' := by
  go_enter Tryd.func35, Tryd.ntmps35
  unfold Rec.val
  go_wp2
  all_goals go_ret
  all_goals refine ⟨?_, (Below.refl _ _).alloc (Nat.le_refl _) _⟩
  all_goals (simp [recOk, *] <;> (intros; omega))
theorem srecord_is (r : Rec) (w : World) (hr : r.key.size ≤ 9223372036854775807) {b : Bool} (h : recOk r = b) :
    Calls Tryd.prog 35 #[.agg #[.string r.key, .int .i64 r.num, .int .i64 r.time]] w fun e w' => e = .returned (.bool b) ∧ Below w.heap.size w w' := by
  have := srecord_any r w hr; rw [h] at this; exact this

end Go.Proofs.YtelailhghhjleaaDoor
