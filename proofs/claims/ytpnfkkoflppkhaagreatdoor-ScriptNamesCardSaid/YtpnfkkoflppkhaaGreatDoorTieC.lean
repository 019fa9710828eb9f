/- Closed facts of the tie, part C. -/
import Derived.Test.YtpnfkkoflppkhaaGreatDoorTieL
import Derived.KernelRfl
namespace Go.Proofs.YtpnfkkoflppkhaaGreatDoor
open Go
theorem tH1 (os : Os) (tape : Tape) : (DataW.laidRun Tryz.prog (varsWorld Tryz.prog 400 (varsId Tryz.prog) os tape).memory 8 (tieList.map (·.1))).map (·.1) = some tieList := by kernel_rfl
end Go.Proofs.YtpnfkkoflppkhaaGreatDoor
