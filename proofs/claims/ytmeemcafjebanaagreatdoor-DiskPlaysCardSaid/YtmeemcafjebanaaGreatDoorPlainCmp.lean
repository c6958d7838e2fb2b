/- Plain laws of comparing: ints, texts. No program in sight. -/
import Derived.Test.YtmeemcafjebanaaGreatDoorBase
namespace Go.Proofs.YtmeemcafjebanaaGreatDoor
open Go.RowKit

def cmpI (a b : Int) : Int := if a < b then -1 else if b < a then 1 else 0
def cmpS (a b : ByteArray) : Int := if Op.bytesLess a.toList b.toList then -1 else if a.toList == b.toList then 0 else 1
/-- The first that is not 0. -/
def orI (x y : Int) : Int := if x ≠ 0 then x else y
theorem cmpI_bd (a b : Int) : -1 ≤ cmpI a b ∧ cmpI a b ≤ 1 := by unfold cmpI; split <;> (try split) <;> omega
theorem cmpS_bd (a b : ByteArray) : -1 ≤ cmpS a b ∧ cmpS a b ≤ 1 := by unfold cmpS; split <;> (try split) <;> omega
end Go.Proofs.YtmeemcafjebanaaGreatDoor
