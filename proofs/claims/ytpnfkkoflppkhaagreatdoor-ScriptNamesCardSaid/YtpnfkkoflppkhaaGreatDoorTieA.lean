/- Closed facts of the tie, part A. -/
import Derived.Test.YtpnfkkoflppkhaaGreatDoorTieL
import Derived.KernelRfl
namespace Go.Proofs.YtpnfkkoflppkhaaGreatDoor
open Go
theorem tHw : Tryz.prog.worded (varsWordLater true) = true := by kernel_rfl
theorem tHx : Tryz.prog.worded (varsWordLater false) = false := by kernel_rfl
theorem tHroot : Tryz.prog.worded rootWordLater = true := by kernel_rfl
theorem tHk : tieList.map (fun x => Tryz.prog.kindOfLater x.1) = ([.data, .sentinel, .sentinel, .data, .data, .data, .data] : List LaidKind).map some := by kernel_rfl
theorem tHg : (Tryz.prog.funcNamed "gosem.cut.vars").isSome = true := by kernel_rfl
theorem tHn : varsNamedLaterB Tryz.prog (varsId Tryz.prog) tieList = true := by kernel_rfl
end Go.Proofs.YtpnfkkoflppkhaaGreatDoor
