/- Errors as values: nil, or an Errno in an interface. -/
import Derived.Test.YtmeemcafjebanaaDoorProg
import Derived.Test.YtmeemcafjebanaaDoorBase
namespace Go.Proofs.YtmeemcafjebanaaDoor
open Go.RowKit

/-- The error of a number: 0 is none. -/
def errV (e : Nat) : Value := if e = 0 then .nilIface else .iface 66 (.int .i64 e)
theorem errV_zero : errV 0 = .nilIface := rfl
end Go.Proofs.YtmeemcafjebanaaDoor
