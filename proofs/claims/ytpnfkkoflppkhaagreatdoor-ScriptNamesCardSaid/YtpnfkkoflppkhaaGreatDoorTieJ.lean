/- The tie of the listed variables to the program, joined. -/
import Derived.Test.YtpnfkkoflppkhaaGreatDoorTieA
import Derived.Test.YtpnfkkoflppkhaaGreatDoorTieB
import Derived.Test.YtpnfkkoflppkhaaGreatDoorTieC
import Derived.Test.YtpnfkkoflppkhaaGreatDoorTieD
import Derived.KernelRfl
namespace Go.Proofs.YtpnfkkoflppkhaaGreatDoor
open Go
theorem tieJ : Tryz.prog.laidByTextLater tieList [.data, .sentinel, .sentinel, .data, .data, .data, .data] true :=
  Program.laidByTextLater_by_run 400 8 tHw tHx tHroot tHk tHg tHn tHd tH1 tH2
end Go.Proofs.YtpnfkkoflppkhaaGreatDoor
