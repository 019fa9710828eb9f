/- Closed facts of the row, part A. -/
import Derived.Test.YtpnfkkoflppkhaaGreatDoorRows
import Derived.JoinedOf
import Derived.KernelRfl
namespace Go.Proofs.YtpnfkkoflppkhaaGreatDoor
open Go
theorem fact1 : (laidOutB Tryz.prog) = true := by kernel_rfl
theorem fact2 : (mapsRowed Tryz.prog) = true := by kernel_rfl
theorem fact22 : ((Rows.scriptNamesRow.plainKeys == Tryz.prog.plainKeys)) = true := by kernel_rfl
end Go.Proofs.YtpnfkkoflppkhaaGreatDoor
