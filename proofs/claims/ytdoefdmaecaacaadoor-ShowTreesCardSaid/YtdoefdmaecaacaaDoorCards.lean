/-
  DERIVED. GIVEN WITH THE SEED: THE CARDS: each row of YtdoefdmaecaacaaDoorRows.lean that lists a variable, with what it lists TIED to the program's text (the seventh form; the later family's looks); each row that meets fmt, with fmt's text TOLD by the authors' own Lean function (tested against real Go, not proved from fmt's source: count such statements apart). THE CARD IS WHAT COUNTS. Prove the row's statement (the work); the ties are given (YtdoefdmaecaacaaDoorTie.lean); close each card by the builder's one call (the guide's Derived/Test/ToyasCard.lean, 'card_holds'). Laid BY PROGRAM, IN A SANDBOX (cutbox-door.mjs). By AI agents, Wed Nov 11 2026. No macro, syntax, notation, axiom, sorry.
-/
import Derived.Test.YtdoefdmaecaacaaDoorRows
import GoSem.ClaimSeven
namespace Go.Proofs.YtdoefdmaecaacaaDoor
namespace Rows

/-- THE TIED CARD OF 'harrowlaw07.ShowGrammars'. -/
def showGrammarsCard : Claim7 := { stood := { row := showGrammarsRow, standIns := [], harness := (true, "9ac0addab4b1512cdcb38596a53f8bb44bd393ace0646a09241c261ab1b7f75d"), looks := false }, kinds := [], alts := [], laidByText := true, laidKinds := [.data, .data, .data], laidTests := true, laidLooks := .later }
def ShowGrammarsCardSaid : Prop := Claim7.holds Tryd.pinned (.plain (OpenSpec.ofChange showGrammarsSpec)) showGrammarsCard

/-- THE TIED CARD OF 'harrowlaw07.ShowTrees'. -/
def showTreesCard : Claim7 := { stood := { row := showTreesRow, standIns := [], harness := (true, "9ac0addab4b1512cdcb38596a53f8bb44bd393ace0646a09241c261ab1b7f75d"), looks := false }, kinds := [], alts := [], laidByText := true, laidKinds := [.data, .data, .data, .listed, .data], laidTests := true, laidLooks := .later }
def ShowTreesCardSaid : Prop := Claim7.holds Tryd.pinned (.plain (OpenSpec.ofChange showTreesSpec)) showTreesCard

/-- THE SECOND FORM's CARD OF 'harrowlaw07.ShowGrammars'. -/
def showGrammarsUptoCard : Claim7 := { stood := { row := showGrammarsUptoRow, standIns := [], harness := (true, "9ac0addab4b1512cdcb38596a53f8bb44bd393ace0646a09241c261ab1b7f75d"), looks := false }, kinds := [], alts := [], laidByText := true, laidKinds := [.data, .data, .data], laidTests := true, laidLooks := .later }
def ShowGrammarsUptoCardSaid : Prop := Claim7.holds Tryd.pinned (.plain (OpenSpec.upto showGrammarsSpec)) showGrammarsUptoCard

/-- THE SECOND FORM's CARD OF 'harrowlaw07.ShowTrees'. -/
def showTreesUptoCard : Claim7 := { stood := { row := showTreesUptoRow, standIns := [], harness := (true, "9ac0addab4b1512cdcb38596a53f8bb44bd393ace0646a09241c261ab1b7f75d"), looks := false }, kinds := [], alts := [], laidByText := true, laidKinds := [.data, .data, .data, .listed, .data], laidTests := true, laidLooks := .later }
def ShowTreesUptoCardSaid : Prop := Claim7.holds Tryd.pinned (.plain (OpenSpec.upto showTreesSpec)) showTreesUptoCard
end Rows
end Go.Proofs.YtdoefdmaecaacaaDoor
