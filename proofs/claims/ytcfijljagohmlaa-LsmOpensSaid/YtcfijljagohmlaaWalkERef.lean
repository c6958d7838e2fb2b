/- The walks of weirref2.Entries and weirref2.Part. -/
import Derived.Test.YtcfijljagohmlaaWalkTab
import Derived.Test.YtcfijljagohmlaaWalkSearch
namespace Go.Proofs.Ytcfijljagohmlaa
open Go.RowKit

theorem flat3_len (l : List Ent) : (l.flatMap Ent.cells).length = l.length * 3 := by
  induction l with
  | nil => rfl
  | cons x l ih => rw [List.flatMap_cons, List.length_append, ih, List.length_cons, show x.cells.length = 3 from rfl]; omega
/-- The entries from a key on, below another one. -/
def inPart (low high : ByteArray) (e : Ent) : Bool := !klt e.key low && (high.toList.isEmpty || klt e.key high)
def partE (low high : ByteArray) (l : List Ent) : List Ent := l.filter (inPart low high)

end Go.Proofs.Ytcfijljagohmlaa
