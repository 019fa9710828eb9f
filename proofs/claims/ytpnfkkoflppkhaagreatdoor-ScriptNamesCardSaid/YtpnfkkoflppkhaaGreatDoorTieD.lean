/- Closed facts of the tie, part D. -/
import Derived.Test.YtpnfkkoflppkhaaGreatDoorTieL
import Derived.KernelRfl
namespace Go.Proofs.YtpnfkkoflppkhaaGreatDoor
open Go
theorem tH2 (os : Os) (tape : Tape) : (DataW.laidRun Tryz.prog (varsWorld Tryz.prog 400 (varsId Tryz.prog) os tape).memory 8 (tieList.map (·.1))).map (fun x => decide x.2.Nodup && laidRowsB Tryz.prog (varsWorld Tryz.prog 400 (varsId Tryz.prog) os tape).memory x.2) = some true := by kernel_rfl
end Go.Proofs.YtpnfkkoflppkhaaGreatDoor
