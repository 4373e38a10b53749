/-
  DERIVED. GIVEN WITH THE SEED: THE CARDS: each row of YthcpaohmajjopaaGreatDoorRows.lean that lists a variable, with what it lists TIED to the program's text (the seventh form; the later family's looks); each row that meets fmt, with fmt's text TOLD by the authors' own Lean function (tested against real Go, not proved from fmt's source: count such statements apart). THE CARD IS WHAT COUNTS. Prove the row's statement (the work); the ties are given (YthcpaohmajjopaaGreatDoorTie.lean); close each card by the builder's one call (the guide's Derived/Test/ToyasCard.lean, 'card_holds'). Laid BY PROGRAM, IN A SANDBOX (cutbox-door.mjs). By AI agents, Wed Nov 11 2026. No macro, syntax, notation, axiom, sorry.
-/
import Derived.Test.YthcpaohmajjopaaGreatDoorRows
import GoSem.ClaimSeven
namespace Go.Proofs.YthcpaohmajjopaaGreatDoor
namespace Rows

/-- THE TIED CARD OF 'harrowlaw16.InstrBack'. -/
def instrBackCard : Claim7 := { stood := { row := instrBackRow, standIns := [], harness := (true, "70efafd4c1f81feddc64624e4a5e09665792192b8593d27c3d68c3b79a596b8d"), looks := true }, kinds := [], alts := [], laidByText := true, laidKinds := [.data, .data, .data, .sentinel, .sentinel, .data, .data], laidTests := true, laidLooks := .later }
def InstrBackCardSaid : Prop := Claim7.holds Tryz.pinned (.plain (OpenSpec.ofChange instrBackSpec)) instrBackCard

/-- THE TIED CARD OF 'harrowlaw16.InstrAgain'. -/
def instrAgainCard : Claim7 := { stood := { row := instrAgainRow, standIns := [], harness := (true, "70efafd4c1f81feddc64624e4a5e09665792192b8593d27c3d68c3b79a596b8d"), looks := true }, kinds := [], alts := [], laidByText := true, laidKinds := [.data, .data, .data, .sentinel, .sentinel, .data, .data], laidTests := true, laidLooks := .later }
def InstrAgainCardSaid : Prop := Claim7.holds Tryz.pinned (.plain (OpenSpec.ofChange instrAgainSpec)) instrAgainCard

/-- THE SECOND FORM's CARD OF 'harrowlaw16.InstrBack'. -/
def instrBackUptoCard : Claim7 := { stood := { row := instrBackUptoRow, standIns := [], harness := (true, "70efafd4c1f81feddc64624e4a5e09665792192b8593d27c3d68c3b79a596b8d"), looks := true }, kinds := [], alts := [], laidByText := true, laidKinds := [.data, .data, .data, .sentinel, .sentinel, .data, .data], laidTests := true, laidLooks := .later }
def InstrBackUptoCardSaid : Prop := Claim7.holds Tryz.pinned (.plain (OpenSpec.upto instrBackSpec)) instrBackUptoCard

/-- THE SECOND FORM's CARD OF 'harrowlaw16.InstrAgain'. -/
def instrAgainUptoCard : Claim7 := { stood := { row := instrAgainUptoRow, standIns := [], harness := (true, "70efafd4c1f81feddc64624e4a5e09665792192b8593d27c3d68c3b79a596b8d"), looks := true }, kinds := [], alts := [], laidByText := true, laidKinds := [.data, .data, .data, .sentinel, .sentinel, .data, .data], laidTests := true, laidLooks := .later }
def InstrAgainUptoCardSaid : Prop := Claim7.holds Tryz.pinned (.plain (OpenSpec.upto instrAgainSpec)) instrAgainUptoCard
end Rows
end Go.Proofs.YthcpaohmajjopaaGreatDoor
