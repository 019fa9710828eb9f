/- Closed facts of the row, part B. -/
import Derived.Test.YtpnfkkoflppkhaaGreatDoorRows
import Derived.JoinedOf
import Derived.KernelRfl
namespace Go.Proofs.YtpnfkkoflppkhaaGreatDoor
open Go
theorem fact9 : ((Rows.scriptNamesRow.inPlace == Tryz.prog.inPlace 3)) = true := by kernel_rfl
theorem fact10 : ((Rows.scriptNamesRow.unfollowed == Tryz.prog.unfollowed 3)) = true := by kernel_rfl
end Go.Proofs.YtpnfkkoflppkhaaGreatDoor
