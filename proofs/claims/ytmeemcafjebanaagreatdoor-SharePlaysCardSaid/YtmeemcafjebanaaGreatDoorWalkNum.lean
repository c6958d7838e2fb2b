/- The walks of the two functions that write a number as bytes. -/
import Derived.Test.YtmeemcafjebanaaGreatDoorProg
import Derived.Test.YtmeemcafjebanaaGreatDoorPlainRec
namespace Go.Proofs.YtmeemcafjebanaaGreatDoor
open Go.RowKit

theorem el_u8 : Elt Tryz.prog 41 5 (.int .u8 0) 1 1 := ⟨Tryz.underlying41, by kernel_rfl, rfl, by omega, by omega⟩

end Go.Proofs.YtmeemcafjebanaaGreatDoor
