/- Errors as values: nil, or an Errno in an interface. -/
import Derived.Test.YtmeemcafjebanaaGreatDoorProg
import Derived.Test.YtmeemcafjebanaaGreatDoorBase
namespace Go.Proofs.YtmeemcafjebanaaGreatDoor
open Go.RowKit

/-- The error of a number: 0 is none. -/
def errV (e : Nat) : Value := if e = 0 then .nilIface else .iface 71 (.int .i64 e)
theorem errV_zero : errV 0 = .nilIface := rfl
end Go.Proofs.YtmeemcafjebanaaGreatDoor
