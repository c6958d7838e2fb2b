/- Errors as values: nil, or an Errno in an interface. -/
import Derived.Test.YtcfijljagohmlaaDoorProg
import Derived.Test.YtcfijljagohmlaaDoorBase
namespace Go.Proofs.YtcfijljagohmlaaDoor
open Go.RowKit

/-- The error of a number: 0 is none. -/
def errV (e : Nat) : Value := if e = 0 then .nilIface else .iface 75 (.int .i64 e)
theorem errV_zero : errV 0 = .nilIface := rfl
end Go.Proofs.YtcfijljagohmlaaDoor
