/- Closed facts of the row, part C. -/
import Derived.Test.YtpnfkkoflppkhaaGreatDoorRows
import Derived.JoinedOf
import Derived.KernelRfl
namespace Go.Proofs.YtpnfkkoflppkhaaGreatDoor
open Go
theorem fact11 : ((Rows.scriptNamesRow.recurses == Tryz.prog.recurses 3)) = true := by kernel_rfl
theorem fact12 : ((Rows.scriptNamesRow.named == Tryz.prog.varsNamed 3)) = true := by kernel_rfl
end Go.Proofs.YtpnfkkoflppkhaaGreatDoor
