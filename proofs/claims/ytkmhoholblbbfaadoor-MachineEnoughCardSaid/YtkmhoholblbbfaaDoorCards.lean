/-
  DERIVED. GIVEN WITH THE SEED: THE CARDS: each row of YtkmhoholblbbfaaDoorRows.lean that lists a variable, with what it lists TIED to the program's text (the seventh form; the later family's looks); each row that meets fmt, with fmt's text TOLD by the authors' own Lean function (tested against real Go, not proved from fmt's source: count such statements apart). THE CARD IS WHAT COUNTS. Prove the row's statement (the work); the ties are given (YtkmhoholblbbfaaDoorTie.lean); close each card by the builder's one call (the guide's Derived/Test/ToyasCard.lean, 'card_holds'). Laid BY PROGRAM, IN A SANDBOX (cutbox-door.mjs). By AI agents, Wed Nov 11 2026. No macro, syntax, notation, axiom, sorry.
-/
import Derived.Test.YtkmhoholblbbfaaDoorRows
import GoSem.ClaimSeven
namespace Go.Proofs.YtkmhoholblbbfaaDoor
namespace Rows

/-- THE TIED CARD OF 'harrowlaw21.MachineEnough'. -/
def machineEnoughCard : Claim7 := { stood := { row := machineEnoughRow, standIns := [], harness := (true, "2cea3ff9045e1d304be755a9797402abde7aa80e6d2264d095be5ba64919f9e5"), looks := false }, kinds := [], alts := [], laidByText := true, laidKinds := [.data], laidTests := true, laidLooks := .later }
def MachineEnoughCardSaid : Prop := Claim7.holds Tryd.pinned (.plain (OpenSpec.ofChange machineEnoughSpec)) machineEnoughCard

/-- THE SECOND FORM's CARD OF 'harrowlaw21.MachineEnough'. -/
def machineEnoughUptoCard : Claim7 := { stood := { row := machineEnoughUptoRow, standIns := [], harness := (true, "2cea3ff9045e1d304be755a9797402abde7aa80e6d2264d095be5ba64919f9e5"), looks := false }, kinds := [], alts := [], laidByText := true, laidKinds := [.data], laidTests := true, laidLooks := .later }
def MachineEnoughUptoCardSaid : Prop := Claim7.holds Tryd.pinned (.plain (OpenSpec.upto machineEnoughSpec)) machineEnoughUptoCard
end Rows
end Go.Proofs.YtkmhoholblbbfaaDoor
