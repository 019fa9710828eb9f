/-
  DERIVED. GIVEN WITH THE SEED: THE CARDS: each row of YtpnfkkoflppkhaaGreatDoorRows.lean that lists a variable, with what it lists TIED to the program's text (the seventh form; the later family's looks); each row that meets fmt, with fmt's text TOLD by the authors' own Lean function (tested against real Go, not proved from fmt's source: count such statements apart). THE CARD IS WHAT COUNTS. Prove the row's statement (the work); the ties are given (YtpnfkkoflppkhaaGreatDoorTie.lean); close each card by the builder's one call (the guide's Derived/Test/ToyasCard.lean, 'card_holds'). Laid BY PROGRAM, IN A SANDBOX (cutbox-door.mjs). By AI agents, Wed Nov 11 2026. No macro, syntax, notation, axiom, sorry.
-/
import Derived.Test.YtpnfkkoflppkhaaGreatDoorRows
import GoSem.ClaimSeven
namespace Go.Proofs.YtpnfkkoflppkhaaGreatDoor
namespace Rows

/-- THE TIED CARD OF 'surdlaw29.ScriptNames'. -/
def scriptNamesCard : Claim7 := { stood := { row := scriptNamesRow, standIns := [], harness := (true, "c4a999b0c66edb1fc1939d487e0f685670efc4c99b277a69db8fe85305c12e2a"), looks := true }, kinds := [], alts := [], goes := true, laidByText := true, laidKinds := [.pinned, .data, .sentinel, .sentinel, .data, .data, .data, .data], laidTests := true, laidLooks := .later }
def ScriptNamesCardSaid : Prop := Claim7.holds Tryz.pinned (.plain (OpenSpec.ofChange scriptNamesSpec)) scriptNamesCard
end Rows
end Go.Proofs.YtpnfkkoflppkhaaGreatDoor
