/- Closed facts of the tie, part B. -/
import Derived.Test.YtpnfkkoflppkhaaGreatDoorTieL
import Derived.KernelRfl
namespace Go.Proofs.YtpnfkkoflppkhaaGreatDoor
open Go
theorem tHd (os : Os) (tape : Tape) : varsDone Tryz.prog 400 (varsId Tryz.prog) os tape = true := by kernel_rfl
end Go.Proofs.YtpnfkkoflppkhaaGreatDoor
