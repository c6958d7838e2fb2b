/- The walks of the two functions that write a number as bytes. -/
import Derived.Test.YtmeemcafjebanaaDoorProg
import Derived.Test.YtmeemcafjebanaaDoorPlainFrame
namespace Go.Proofs.YtmeemcafjebanaaDoor
open Go.RowKit

theorem el_u8 : Elt Tryd.prog 52 5 (.int .u8 0) 1 1 := ⟨Tryd.underlying52, by kernel_rfl, rfl, by omega, by omega⟩

end Go.Proofs.YtmeemcafjebanaaDoor
