/- How many panes the reference has; as plain data. No program in sight. -/
import Derived.Test.YtelailhghhjleaaPlainSlide3
namespace Go.Proofs.Ytelailhghhjleaa
open Go.RowKit Go.Sort

theorem refTo_lenP (r : Rec) (size b mark : Int) (N : List Pane) : ∀ j, (refTo r size b mark N j).length ≤ N.length + j := by
  have hu : ∀ (N : List Pane) (k : ByteArray) (f size mark num : Int), (refUpd N k f size mark num).length ≤ N.length + 1 := by
    intro N k f size mark num
    rw [refUpd]
    split
    · rw [List.length_set]; omega
    · rw [List.length_set, place_len]; omega
  intro j
  induction j with
  | zero => exact Nat.le_refl _
  | succ j ih =>
    rw [refTo]
    split
    · omega
    · have := hu (refTo r size b mark N j) r.key (r.time / b * b - 17 * b + b * j) size mark r.num
      omega

end Go.Proofs.Ytelailhghhjleaa
