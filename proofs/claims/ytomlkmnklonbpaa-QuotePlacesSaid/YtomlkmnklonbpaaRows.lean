/-
  No cell of these rows narrows 'for every input' (looked for: loops, veiled, ifaces, maps, wideKeys, modest, calm, conditions, laid).
  DERIVED. THE GIVEN ROWS OF THIS SEAT. 8 by the template 'for every input the law returns true; each argument reads behind the call as it read before'; 0 by the template 'total and deterministic' (their statements: YtomlkmnklonbpaaTotals.lean).
  GIVEN WITH THE SEED: the statements are not yours to turn. If you find one false, say at which input.
  Laid BY PROGRAM, IN A SANDBOX (cutbox-rows.mjs): the forced cells as the released guide's own fill.sh prints them over the translation 2ba9512653b3ba26… (all of the seat's roots in one cut). By AI agents, Wed Nov 11 2026. No macro, syntax, notation, axiom, sorry.
-/
import Derived.Test.YtomlkmnklonbpaaChecked
import GoSem.Claim
import GoSem.ClaimJoined
import GoSem.ClaimMapViews
import Derived.JoinedTies
import Derived.KernelRfl
namespace Go.Proofs.Ytomlkmnklonbpaa
/- THE CELL 'sum', in the pinned program and in every row, IS THE sha256 OF THE DUMP (.gsa) THAT YtomlkmnklonbpaaProg.lean LOADS. Nothing in Lean hashes anything: it is a label: what it is worth is what the hold of that sum in a sandbox is worth. -/
noncomputable def Try.pinned : Pinned := { name := "ytomlkmnklonbpaa", sum := "2ba9512653b3ba269b0954c57060d7ebade2f32db38f04c4e1e7931321937727", checked := Try.checked }
namespace Rows
def none {H : Type} : Left H := { results := [], args := [] }

/-- 'harrowlaw02.QuoteReads': WHATEVER THE INPUT: true; the input reads as it did. -/
def quoteReadsSpec : ChangeSpec := { name := "quoteReads", fn := fun _ => fun
  | [d1, d2] => { results := [.lit (.bool true)], args := [d1, d2] }
  | _ => none }
def quoteReadsRow : OpenClaim := { program := "ytomlkmnklonbpaa", sum := "2ba9512653b3ba269b0954c57060d7ebade2f32db38f04c4e1e7931321937727", func := "harrow/harrowlaw02.QuoteReads", spec := "quoteReads", apart := false }
def QuoteReadsSaid : Prop := quoteReadsRow.holds Try.pinned (OpenSpec.ofChange quoteReadsSpec)

/-- ITS FALSE NEIGHBOUR: 'it returns false'. Refute it at one input. -/
def quoteReadsWrong : ChangeSpec := { name := "quoteReads", fn := fun _ => fun
  | [d1, d2] => { results := [.lit (.bool false)], args := [d1, d2] }
  | _ => none }
def QuoteReadsWrongFalsely : Prop := quoteReadsRow.holds Try.pinned (OpenSpec.ofChange quoteReadsWrong)

/-- 'harrowlaw02.QuoteCuts': WHATEVER THE INPUT: true; the input reads as it did. -/
def quoteCutsSpec : ChangeSpec := { name := "quoteCuts", fn := fun _ => fun
  | [d1, d2] => { results := [.lit (.bool true)], args := [d1, d2] }
  | _ => none }
def quoteCutsRow : OpenClaim := { program := "ytomlkmnklonbpaa", sum := "2ba9512653b3ba269b0954c57060d7ebade2f32db38f04c4e1e7931321937727", func := "harrow/harrowlaw02.QuoteCuts", spec := "quoteCuts", apart := false }
def QuoteCutsSaid : Prop := quoteCutsRow.holds Try.pinned (OpenSpec.ofChange quoteCutsSpec)

/-- ITS FALSE NEIGHBOUR: 'it returns false'. Refute it at one input. -/
def quoteCutsWrong : ChangeSpec := { name := "quoteCuts", fn := fun _ => fun
  | [d1, d2] => { results := [.lit (.bool false)], args := [d1, d2] }
  | _ => none }
def QuoteCutsWrongFalsely : Prop := quoteCutsRow.holds Try.pinned (OpenSpec.ofChange quoteCutsWrong)

/-- 'harrowlaw02.QuoteWrites': WHATEVER THE INPUT: true; the input reads as it did. -/
def quoteWritesSpec : ChangeSpec := { name := "quoteWrites", fn := fun _ => fun
  | [d] => { results := [.lit (.bool true)], args := [d] }
  | _ => none }
def quoteWritesRow : OpenClaim := { program := "ytomlkmnklonbpaa", sum := "2ba9512653b3ba269b0954c57060d7ebade2f32db38f04c4e1e7931321937727", func := "harrow/harrowlaw02.QuoteWrites", spec := "quoteWrites", inPlace := ["internal/abi.NoEscape"], apart := false }
def QuoteWritesSaid : Prop := quoteWritesRow.holds Try.pinned (OpenSpec.ofChange quoteWritesSpec)

/-- ITS FALSE NEIGHBOUR: 'it returns false'. Refute it at one input. -/
def quoteWritesWrong : ChangeSpec := { name := "quoteWrites", fn := fun _ => fun
  | [d] => { results := [.lit (.bool false)], args := [d] }
  | _ => none }
def QuoteWritesWrongFalsely : Prop := quoteWritesRow.holds Try.pinned (OpenSpec.ofChange quoteWritesWrong)

/-- 'harrowlaw02.QuoteBack': WHATEVER THE INPUT: true; the input reads as it did. -/
def quoteBackSpec : ChangeSpec := { name := "quoteBack", fn := fun _ => fun
  | [d] => { results := [.lit (.bool true)], args := [d] }
  | _ => none }
def quoteBackRow : OpenClaim := { program := "ytomlkmnklonbpaa", sum := "2ba9512653b3ba269b0954c57060d7ebade2f32db38f04c4e1e7931321937727", func := "harrow/harrowlaw02.QuoteBack", spec := "quoteBack", inPlace := ["internal/abi.NoEscape"], apart := false }
def QuoteBackSaid : Prop := quoteBackRow.holds Try.pinned (OpenSpec.ofChange quoteBackSpec)

/-- ITS FALSE NEIGHBOUR: 'it returns false'. Refute it at one input. -/
def quoteBackWrong : ChangeSpec := { name := "quoteBack", fn := fun _ => fun
  | [d] => { results := [.lit (.bool false)], args := [d] }
  | _ => none }
def QuoteBackWrongFalsely : Prop := quoteBackRow.holds Try.pinned (OpenSpec.ofChange quoteBackWrong)

/-- 'harrowlaw02.QuoteLines': WHATEVER THE INPUT: true; the input reads as it did. -/
def quoteLinesSpec : ChangeSpec := { name := "quoteLines", fn := fun _ => fun
  | [d1, d2] => { results := [.lit (.bool true)], args := [d1, d2] }
  | _ => none }
def quoteLinesRow : OpenClaim := { program := "ytomlkmnklonbpaa", sum := "2ba9512653b3ba269b0954c57060d7ebade2f32db38f04c4e1e7931321937727", func := "harrow/harrowlaw02.QuoteLines", spec := "quoteLines", inPlace := ["internal/bytealg.CountString", "internal/bytealg.IndexByteString", "internal/bytealg.IndexString"], named := ["internal/bytealg.MaxLen"], apart := false }
def QuoteLinesSaid : Prop := quoteLinesRow.holds Try.pinned (OpenSpec.ofChange quoteLinesSpec)

/-- ITS FALSE NEIGHBOUR: 'it returns false'. Refute it at one input. -/
def quoteLinesWrong : ChangeSpec := { name := "quoteLines", fn := fun _ => fun
  | [d1, d2] => { results := [.lit (.bool false)], args := [d1, d2] }
  | _ => none }
def QuoteLinesWrongFalsely : Prop := quoteLinesRow.holds Try.pinned (OpenSpec.ofChange quoteLinesWrong)

/-- 'harrowlaw02.QuoteJoined': WHATEVER THE INPUT: true; the input reads as it did. -/
def quoteJoinedSpec : ChangeSpec := { name := "quoteJoined", fn := fun _ => fun
  | [d] => { results := [.lit (.bool true)], args := [d] }
  | _ => none }
def quoteJoinedRow : OpenClaim := { program := "ytomlkmnklonbpaa", sum := "2ba9512653b3ba269b0954c57060d7ebade2f32db38f04c4e1e7931321937727", func := "harrow/harrowlaw02.QuoteJoined", spec := "quoteJoined", inPlace := ["internal/bytealg.CountString", "internal/bytealg.IndexByteString", "internal/bytealg.IndexString"], named := ["internal/bytealg.MaxLen"], apart := false }
def QuoteJoinedSaid : Prop := quoteJoinedRow.holds Try.pinned (OpenSpec.ofChange quoteJoinedSpec)

/-- ITS FALSE NEIGHBOUR: 'it returns false'. Refute it at one input. -/
def quoteJoinedWrong : ChangeSpec := { name := "quoteJoined", fn := fun _ => fun
  | [d] => { results := [.lit (.bool false)], args := [d] }
  | _ => none }
def QuoteJoinedWrongFalsely : Prop := quoteJoinedRow.holds Try.pinned (OpenSpec.ofChange quoteJoinedWrong)

/-- 'harrowlaw02.QuotePlaces': WHATEVER THE INPUT: true; the input reads as it did. -/
def quotePlacesSpec : ChangeSpec := { name := "quotePlaces", fn := fun _ => fun
  | [d] => { results := [.lit (.bool true)], args := [d] }
  | _ => none }
def quotePlacesRow : OpenClaim := { program := "ytomlkmnklonbpaa", sum := "2ba9512653b3ba269b0954c57060d7ebade2f32db38f04c4e1e7931321937727", func := "harrow/harrowlaw02.QuotePlaces", spec := "quotePlaces", inPlace := ["internal/bytealg.CountString", "internal/bytealg.IndexByteString", "internal/bytealg.IndexString"], named := ["internal/bytealg.MaxLen"], apart := false }
def QuotePlacesSaid : Prop := quotePlacesRow.holds Try.pinned (OpenSpec.ofChange quotePlacesSpec)

/-- ITS FALSE NEIGHBOUR: 'it returns false'. Refute it at one input. -/
def quotePlacesWrong : ChangeSpec := { name := "quotePlaces", fn := fun _ => fun
  | [d] => { results := [.lit (.bool false)], args := [d] }
  | _ => none }
def QuotePlacesWrongFalsely : Prop := quotePlacesRow.holds Try.pinned (OpenSpec.ofChange quotePlacesWrong)

/-- 'harrowlaw02.QuoteHome': WHATEVER THE INPUT: true; the input reads as it did. -/
def quoteHomeSpec : ChangeSpec := { name := "quoteHome", fn := fun _ => fun
  | [d1, d2] => { results := [.lit (.bool true)], args := [d1, d2] }
  | _ => none }
def quoteHomeRow : OpenClaim := { program := "ytomlkmnklonbpaa", sum := "2ba9512653b3ba269b0954c57060d7ebade2f32db38f04c4e1e7931321937727", func := "harrow/harrowlaw02.QuoteHome", spec := "quoteHome", inPlace := ["internal/bytealg.CountString", "internal/bytealg.IndexByteString", "internal/bytealg.IndexString"], named := ["internal/bytealg.MaxLen"], apart := false }
def QuoteHomeSaid : Prop := quoteHomeRow.holds Try.pinned (OpenSpec.ofChange quoteHomeSpec)

/-- ITS FALSE NEIGHBOUR: 'it returns false'. Refute it at one input. -/
def quoteHomeWrong : ChangeSpec := { name := "quoteHome", fn := fun _ => fun
  | [d1, d2] => { results := [.lit (.bool false)], args := [d1, d2] }
  | _ => none }
def QuoteHomeWrongFalsely : Prop := quoteHomeRow.holds Try.pinned (OpenSpec.ofChange quoteHomeWrong)

/- THE SECOND FORM. 'bulk': how many values and letters a reading holds, each counted each time it is reached (what is shared counts as often as it is met; a slice's spare places count too). A statement '..UptoSaid' is the law's where the arguments, and the package variables that the reading takes, are together of bulk at most 1048576: NARROWER than '..Said'. Prove '..Said' where nothing that the law and all that it calls make is longer than what came in: it says more and counts as full. Else prove '..UptoSaid'. A law counts once. -/
mutual
def uptoBulk {H : Type} : DataW H → Nat
  | .lit (.string bytes) => bytes.length + 1
  | .lit _ => 1
  | .nil => 1
  | .ptr d => uptoBulk d + 1
  | .slice elems spare => uptoBulkAll elems + uptoBulkAll spare + 1
  | .agg parts => uptoBulkAll parts + 1
  | .iface _ d => uptoBulk d + 1
  | .map entries => uptoBulkEntries entries + 1
  | .held _ => 1
def uptoBulkAll {H : Type} : List (DataW H) → Nat
  | [] => 0
  | d :: r => uptoBulk d + uptoBulkAll r
def uptoBulkEntries {H : Type} : List (Lit × DataW H) → Nat
  | [] => 0
  | x :: r => uptoBulkEntry x + uptoBulkEntries r
def uptoBulkEntry {H : Type} : Lit × DataW H → Nat
  | (.string bytes, d) => bytes.length + uptoBulk d + 1
  | (_, d) => uptoBulk d + 1
 end
def uptoSmall : (H : Type) → List (DataW H) → Bool := fun _ ds => decide (uptoBulkAll ds ≤ 1048576)
def OpenSpec.upto (s : _root_.Go.ChangeSpec) : _root_.Go.OpenSpec := { _root_.Go.OpenSpec.ofChange s with cond := some uptoSmall }

/-- 'harrowlaw02.QuoteReads', WHERE WHAT IT READS IS OF BULK AT MOST 1048576: true; the input reads as it did. -/
def quoteReadsUptoRow : OpenClaim := { program := "ytomlkmnklonbpaa", sum := "2ba9512653b3ba269b0954c57060d7ebade2f32db38f04c4e1e7931321937727", func := "harrow/harrowlaw02.QuoteReads", spec := "quoteReads", apart := false, narrowed := true }
def QuoteReadsUptoSaid : Prop := quoteReadsUptoRow.holds Try.pinned (OpenSpec.upto quoteReadsSpec)

/-- 'harrowlaw02.QuoteCuts', WHERE WHAT IT READS IS OF BULK AT MOST 1048576: true; the input reads as it did. -/
def quoteCutsUptoRow : OpenClaim := { program := "ytomlkmnklonbpaa", sum := "2ba9512653b3ba269b0954c57060d7ebade2f32db38f04c4e1e7931321937727", func := "harrow/harrowlaw02.QuoteCuts", spec := "quoteCuts", apart := false, narrowed := true }
def QuoteCutsUptoSaid : Prop := quoteCutsUptoRow.holds Try.pinned (OpenSpec.upto quoteCutsSpec)

/-- 'harrowlaw02.QuoteWrites', WHERE WHAT IT READS IS OF BULK AT MOST 1048576: true; the input reads as it did. -/
def quoteWritesUptoRow : OpenClaim := { program := "ytomlkmnklonbpaa", sum := "2ba9512653b3ba269b0954c57060d7ebade2f32db38f04c4e1e7931321937727", func := "harrow/harrowlaw02.QuoteWrites", spec := "quoteWrites", inPlace := ["internal/abi.NoEscape"], apart := false, narrowed := true }
def QuoteWritesUptoSaid : Prop := quoteWritesUptoRow.holds Try.pinned (OpenSpec.upto quoteWritesSpec)

/-- 'harrowlaw02.QuoteBack', WHERE WHAT IT READS IS OF BULK AT MOST 1048576: true; the input reads as it did. -/
def quoteBackUptoRow : OpenClaim := { program := "ytomlkmnklonbpaa", sum := "2ba9512653b3ba269b0954c57060d7ebade2f32db38f04c4e1e7931321937727", func := "harrow/harrowlaw02.QuoteBack", spec := "quoteBack", inPlace := ["internal/abi.NoEscape"], apart := false, narrowed := true }
def QuoteBackUptoSaid : Prop := quoteBackUptoRow.holds Try.pinned (OpenSpec.upto quoteBackSpec)

/-- 'harrowlaw02.QuoteLines', WHERE WHAT IT READS IS OF BULK AT MOST 1048576: true; the input reads as it did. -/
def quoteLinesUptoRow : OpenClaim := { program := "ytomlkmnklonbpaa", sum := "2ba9512653b3ba269b0954c57060d7ebade2f32db38f04c4e1e7931321937727", func := "harrow/harrowlaw02.QuoteLines", spec := "quoteLines", inPlace := ["internal/bytealg.CountString", "internal/bytealg.IndexByteString", "internal/bytealg.IndexString"], named := ["internal/bytealg.MaxLen"], apart := false, narrowed := true }
def QuoteLinesUptoSaid : Prop := quoteLinesUptoRow.holds Try.pinned (OpenSpec.upto quoteLinesSpec)

/-- 'harrowlaw02.QuoteJoined', WHERE WHAT IT READS IS OF BULK AT MOST 1048576: true; the input reads as it did. -/
def quoteJoinedUptoRow : OpenClaim := { program := "ytomlkmnklonbpaa", sum := "2ba9512653b3ba269b0954c57060d7ebade2f32db38f04c4e1e7931321937727", func := "harrow/harrowlaw02.QuoteJoined", spec := "quoteJoined", inPlace := ["internal/bytealg.CountString", "internal/bytealg.IndexByteString", "internal/bytealg.IndexString"], named := ["internal/bytealg.MaxLen"], apart := false, narrowed := true }
def QuoteJoinedUptoSaid : Prop := quoteJoinedUptoRow.holds Try.pinned (OpenSpec.upto quoteJoinedSpec)

/-- 'harrowlaw02.QuotePlaces', WHERE WHAT IT READS IS OF BULK AT MOST 1048576: true; the input reads as it did. -/
def quotePlacesUptoRow : OpenClaim := { program := "ytomlkmnklonbpaa", sum := "2ba9512653b3ba269b0954c57060d7ebade2f32db38f04c4e1e7931321937727", func := "harrow/harrowlaw02.QuotePlaces", spec := "quotePlaces", inPlace := ["internal/bytealg.CountString", "internal/bytealg.IndexByteString", "internal/bytealg.IndexString"], named := ["internal/bytealg.MaxLen"], apart := false, narrowed := true }
def QuotePlacesUptoSaid : Prop := quotePlacesUptoRow.holds Try.pinned (OpenSpec.upto quotePlacesSpec)

/-- 'harrowlaw02.QuoteHome', WHERE WHAT IT READS IS OF BULK AT MOST 1048576: true; the input reads as it did. -/
def quoteHomeUptoRow : OpenClaim := { program := "ytomlkmnklonbpaa", sum := "2ba9512653b3ba269b0954c57060d7ebade2f32db38f04c4e1e7931321937727", func := "harrow/harrowlaw02.QuoteHome", spec := "quoteHome", inPlace := ["internal/bytealg.CountString", "internal/bytealg.IndexByteString", "internal/bytealg.IndexString"], named := ["internal/bytealg.MaxLen"], apart := false, narrowed := true }
def QuoteHomeUptoSaid : Prop := quoteHomeUptoRow.holds Try.pinned (OpenSpec.upto quoteHomeSpec)

end Rows
end Go.Proofs.Ytomlkmnklonbpaa
