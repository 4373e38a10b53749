/-
  DERIVED. GIVEN WITH THE SEED: THE CARDS: each row of YthcpaohmajjopaaDoorRows.lean that lists a variable, with what it lists TIED to the program's text (the seventh form; the later family's looks); each row that meets fmt, with fmt's text TOLD by the authors' own Lean function (tested against real Go, not proved from fmt's source: count such statements apart). THE CARD IS WHAT COUNTS. Prove the row's statement (the work); the ties are given (YthcpaohmajjopaaDoorTie.lean); close each card by the builder's one call (the guide's Derived/Test/ToyasCard.lean, 'card_holds'). Laid BY PROGRAM, IN A SANDBOX (cutbox-door.mjs). By AI agents, Wed Nov 11 2026. No macro, syntax, notation, axiom, sorry.
-/
import Derived.Test.YthcpaohmajjopaaDoorRows
import GoSem.ClaimSeven
namespace Go.Proofs.YthcpaohmajjopaaDoor
namespace Rows

/-- THE TIED CARD OF 'harrowlaw16.InstrSame'. -/
def instrSameCard : Claim7 := { stood := { row := instrSameRow, standIns := [], harness := (true, "b722670a7c7d1072d490ce6028588ad365a4a2364a16235ef97c3437994122c7"), looks := false }, kinds := [], alts := [], laidByText := true, laidKinds := [.data], laidTests := true, laidLooks := .later }
def InstrSameCardSaid : Prop := Claim7.holds Tryd.pinned (.plain (OpenSpec.ofChange instrSameSpec)) instrSameCard

/-- THE TIED CARD OF 'harrowlaw16.InstrReads'. -/
def instrReadsCard : Claim7 := { stood := { row := instrReadsRow, standIns := [], harness := (true, "b722670a7c7d1072d490ce6028588ad365a4a2364a16235ef97c3437994122c7"), looks := false }, kinds := [], alts := [], laidByText := true, laidKinds := [.data], laidTests := true, laidLooks := .later }
def InstrReadsCardSaid : Prop := Claim7.holds Tryd.pinned (.plain (OpenSpec.ofChange instrReadsSpec)) instrReadsCard

/-- THE TIED CARD OF 'harrowlaw16.InstrGoes'. -/
def instrGoesCard : Claim7 := { stood := { row := instrGoesRow, standIns := [], harness := (true, "b722670a7c7d1072d490ce6028588ad365a4a2364a16235ef97c3437994122c7"), looks := false }, kinds := [], alts := [], laidByText := true, laidKinds := [.data], laidTests := true, laidLooks := .later }
def InstrGoesCardSaid : Prop := Claim7.holds Tryd.pinned (.plain (OpenSpec.ofChange instrGoesSpec)) instrGoesCard

/-- THE TIED CARD OF 'harrowlaw16.InstrClosed'. -/
def instrClosedCard : Claim7 := { stood := { row := instrClosedRow, standIns := [], harness := (true, "b722670a7c7d1072d490ce6028588ad365a4a2364a16235ef97c3437994122c7"), looks := false }, kinds := [], alts := [], laidByText := true, laidKinds := [.data], laidTests := true, laidLooks := .later }
def InstrClosedCardSaid : Prop := Claim7.holds Tryd.pinned (.plain (OpenSpec.ofChange instrClosedSpec)) instrClosedCard

/-- THE TIED CARD OF 'harrowlaw16.InstrWrites'. -/
def instrWritesCard : Claim7 := { stood := { row := instrWritesRow, standIns := [], harness := (true, "b722670a7c7d1072d490ce6028588ad365a4a2364a16235ef97c3437994122c7"), looks := false }, kinds := [], alts := [], laidByText := true, laidKinds := [.data, .data, .data, .data, .data], laidTests := true, laidLooks := .later }
def InstrWritesCardSaid : Prop := Claim7.holds Tryd.pinned (.plain (OpenSpec.ofChange instrWritesSpec)) instrWritesCard

/-- THE TIED CARD OF 'harrowlaw16.InstrOwn'. -/
def instrOwnCard : Claim7 := { stood := { row := instrOwnRow, standIns := [], harness := (true, "b722670a7c7d1072d490ce6028588ad365a4a2364a16235ef97c3437994122c7"), looks := false }, kinds := [], alts := [], laidByText := true, laidKinds := [.data], laidTests := true, laidLooks := .later }
def InstrOwnCardSaid : Prop := Claim7.holds Tryd.pinned (.plain (OpenSpec.ofChange instrOwnSpec)) instrOwnCard

/-- THE SECOND FORM's CARD OF 'harrowlaw16.InstrSame'. -/
def instrSameUptoCard : Claim7 := { stood := { row := instrSameUptoRow, standIns := [], harness := (true, "b722670a7c7d1072d490ce6028588ad365a4a2364a16235ef97c3437994122c7"), looks := false }, kinds := [], alts := [], laidByText := true, laidKinds := [.data], laidTests := true, laidLooks := .later }
def InstrSameUptoCardSaid : Prop := Claim7.holds Tryd.pinned (.plain (OpenSpec.upto instrSameSpec)) instrSameUptoCard

/-- THE SECOND FORM's CARD OF 'harrowlaw16.InstrReads'. -/
def instrReadsUptoCard : Claim7 := { stood := { row := instrReadsUptoRow, standIns := [], harness := (true, "b722670a7c7d1072d490ce6028588ad365a4a2364a16235ef97c3437994122c7"), looks := false }, kinds := [], alts := [], laidByText := true, laidKinds := [.data], laidTests := true, laidLooks := .later }
def InstrReadsUptoCardSaid : Prop := Claim7.holds Tryd.pinned (.plain (OpenSpec.upto instrReadsSpec)) instrReadsUptoCard

/-- THE SECOND FORM's CARD OF 'harrowlaw16.InstrGoes'. -/
def instrGoesUptoCard : Claim7 := { stood := { row := instrGoesUptoRow, standIns := [], harness := (true, "b722670a7c7d1072d490ce6028588ad365a4a2364a16235ef97c3437994122c7"), looks := false }, kinds := [], alts := [], laidByText := true, laidKinds := [.data], laidTests := true, laidLooks := .later }
def InstrGoesUptoCardSaid : Prop := Claim7.holds Tryd.pinned (.plain (OpenSpec.upto instrGoesSpec)) instrGoesUptoCard

/-- THE SECOND FORM's CARD OF 'harrowlaw16.InstrClosed'. -/
def instrClosedUptoCard : Claim7 := { stood := { row := instrClosedUptoRow, standIns := [], harness := (true, "b722670a7c7d1072d490ce6028588ad365a4a2364a16235ef97c3437994122c7"), looks := false }, kinds := [], alts := [], laidByText := true, laidKinds := [.data], laidTests := true, laidLooks := .later }
def InstrClosedUptoCardSaid : Prop := Claim7.holds Tryd.pinned (.plain (OpenSpec.upto instrClosedSpec)) instrClosedUptoCard

/-- THE SECOND FORM's CARD OF 'harrowlaw16.InstrWrites'. -/
def instrWritesUptoCard : Claim7 := { stood := { row := instrWritesUptoRow, standIns := [], harness := (true, "b722670a7c7d1072d490ce6028588ad365a4a2364a16235ef97c3437994122c7"), looks := false }, kinds := [], alts := [], laidByText := true, laidKinds := [.data, .data, .data, .data, .data], laidTests := true, laidLooks := .later }
def InstrWritesUptoCardSaid : Prop := Claim7.holds Tryd.pinned (.plain (OpenSpec.upto instrWritesSpec)) instrWritesUptoCard

/-- THE SECOND FORM's CARD OF 'harrowlaw16.InstrOwn'. -/
def instrOwnUptoCard : Claim7 := { stood := { row := instrOwnUptoRow, standIns := [], harness := (true, "b722670a7c7d1072d490ce6028588ad365a4a2364a16235ef97c3437994122c7"), looks := false }, kinds := [], alts := [], laidByText := true, laidKinds := [.data], laidTests := true, laidLooks := .later }
def InstrOwnUptoCardSaid : Prop := Claim7.holds Tryd.pinned (.plain (OpenSpec.upto instrOwnSpec)) instrOwnUptoCard
end Rows
end Go.Proofs.YthcpaohmajjopaaDoor
