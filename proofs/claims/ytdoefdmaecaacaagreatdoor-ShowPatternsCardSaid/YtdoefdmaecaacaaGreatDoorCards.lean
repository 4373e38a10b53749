/-
  DERIVED. GIVEN WITH THE SEED: THE CARDS: each row of YtdoefdmaecaacaaGreatDoorRows.lean that lists a variable, with what it lists TIED to the program's text (the seventh form; the later family's looks); each row that meets fmt, with fmt's text TOLD by the authors' own Lean function (tested against real Go, not proved from fmt's source: count such statements apart). THE CARD IS WHAT COUNTS. Prove the row's statement (the work); the ties are given (YtdoefdmaecaacaaGreatDoorTie.lean); close each card by the builder's one call (the guide's Derived/Test/ToyasCard.lean, 'card_holds'). Laid BY PROGRAM, IN A SANDBOX (cutbox-door.mjs). By AI agents, Wed Nov 11 2026. No macro, syntax, notation, axiom, sorry.
-/
import Derived.Test.YtdoefdmaecaacaaGreatDoorRows
import GoSem.ClaimSeven
namespace Go.Proofs.YtdoefdmaecaacaaGreatDoor
namespace Rows

/-- THE TIED CARD OF 'harrowlaw07.ShowPatterns'. -/
def showPatternsCard : Claim7 := { stood := { row := showPatternsRow, standIns := [], harness := (true, "24b3c685db64ab1dd1a73cffd77059262886032e9aadb26e12acb78b112b0daa"), looks := true }, kinds := [], alts := [], laidByText := true, laidKinds := [.data, .data, .data, .listed, .data], laidTests := true, laidLooks := .later }
def ShowPatternsCardSaid : Prop := Claim7.holds Tryz.pinned (.plain (OpenSpec.ofChange showPatternsSpec)) showPatternsCard

/-- THE TIED CARD OF 'harrowlaw07.ShowForth'. -/
def showForthCard : Claim7 := { stood := { row := showForthRow, standIns := [], harness := (true, "24b3c685db64ab1dd1a73cffd77059262886032e9aadb26e12acb78b112b0daa"), looks := true }, kinds := [], alts := [], laidByText := true, laidKinds := [.data, .data, .data], laidTests := true, laidLooks := .later }
def ShowForthCardSaid : Prop := Claim7.holds Tryz.pinned (.plain (OpenSpec.ofChange showForthSpec)) showForthCard

/-- THE TIED CARD OF 'harrowlaw07.ShowFew'. -/
def showFewCard : Claim7 := { stood := { row := showFewRow, standIns := [], harness := (true, "24b3c685db64ab1dd1a73cffd77059262886032e9aadb26e12acb78b112b0daa"), looks := true }, kinds := [], alts := [], laidByText := true, laidKinds := [.data, .data, .data], laidTests := true, laidLooks := .later }
def ShowFewCardSaid : Prop := Claim7.holds Tryz.pinned (.plain (OpenSpec.ofChange showFewSpec)) showFewCard

/-- THE TIED CARD OF 'harrowlaw07.ShowBack'. -/
def showBackCard : Claim7 := { stood := { row := showBackRow, standIns := [], harness := (true, "24b3c685db64ab1dd1a73cffd77059262886032e9aadb26e12acb78b112b0daa"), looks := true }, kinds := [], alts := [], laidByText := true, laidKinds := [.data, .data, .data], laidTests := true, laidLooks := .later }
def ShowBackCardSaid : Prop := Claim7.holds Tryz.pinned (.plain (OpenSpec.ofChange showBackSpec)) showBackCard

/-- THE SECOND FORM's CARD OF 'harrowlaw07.ShowPatterns'. -/
def showPatternsUptoCard : Claim7 := { stood := { row := showPatternsUptoRow, standIns := [], harness := (true, "24b3c685db64ab1dd1a73cffd77059262886032e9aadb26e12acb78b112b0daa"), looks := true }, kinds := [], alts := [], laidByText := true, laidKinds := [.data, .data, .data, .listed, .data], laidTests := true, laidLooks := .later }
def ShowPatternsUptoCardSaid : Prop := Claim7.holds Tryz.pinned (.plain (OpenSpec.upto showPatternsSpec)) showPatternsUptoCard

/-- THE SECOND FORM's CARD OF 'harrowlaw07.ShowForth'. -/
def showForthUptoCard : Claim7 := { stood := { row := showForthUptoRow, standIns := [], harness := (true, "24b3c685db64ab1dd1a73cffd77059262886032e9aadb26e12acb78b112b0daa"), looks := true }, kinds := [], alts := [], laidByText := true, laidKinds := [.data, .data, .data], laidTests := true, laidLooks := .later }
def ShowForthUptoCardSaid : Prop := Claim7.holds Tryz.pinned (.plain (OpenSpec.upto showForthSpec)) showForthUptoCard

/-- THE SECOND FORM's CARD OF 'harrowlaw07.ShowFew'. -/
def showFewUptoCard : Claim7 := { stood := { row := showFewUptoRow, standIns := [], harness := (true, "24b3c685db64ab1dd1a73cffd77059262886032e9aadb26e12acb78b112b0daa"), looks := true }, kinds := [], alts := [], laidByText := true, laidKinds := [.data, .data, .data], laidTests := true, laidLooks := .later }
def ShowFewUptoCardSaid : Prop := Claim7.holds Tryz.pinned (.plain (OpenSpec.upto showFewSpec)) showFewUptoCard

/-- THE SECOND FORM's CARD OF 'harrowlaw07.ShowBack'. -/
def showBackUptoCard : Claim7 := { stood := { row := showBackUptoRow, standIns := [], harness := (true, "24b3c685db64ab1dd1a73cffd77059262886032e9aadb26e12acb78b112b0daa"), looks := true }, kinds := [], alts := [], laidByText := true, laidKinds := [.data, .data, .data], laidTests := true, laidLooks := .later }
def ShowBackUptoCardSaid : Prop := Claim7.holds Tryz.pinned (.plain (OpenSpec.upto showBackSpec)) showBackUptoCard
end Rows
end Go.Proofs.YtdoefdmaecaacaaGreatDoor
