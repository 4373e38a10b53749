/-
  NARROWER THAN 'FOR EVERY INPUT', by the rows' own cells (each row's printed sentence says how): InstrSame: laid · InstrReads: laid · InstrGoes: laid · InstrClosed: laid · InstrWrites: laid · InstrOwn: laid.
  DERIVED. THE GIVEN ROWS OF THIS SEAT. 6 by the template 'for every input the law returns true; each argument reads behind the call as it read before'; 0 by the template 'total and deterministic' (their statements: YthcpaohmajjopaaDoorTotals.lean).
  GIVEN WITH THE SEED: the statements are not yours to turn. If you find one false, say at which input.
  Laid BY PROGRAM, IN A SANDBOX (cutbox-rows.mjs): the forced cells as the released guide's own fill.sh prints them over the translation dda0e86c37378d8b… (all of the seat's roots in one cut). By AI agents, Wed Nov 11 2026. No macro, syntax, notation, axiom, sorry.
-/
import Derived.Test.YthcpaohmajjopaaDoorChecked
import GoSem.Claim
import GoSem.ClaimJoined
import GoSem.ClaimMapViews
import Derived.JoinedTies
import Derived.KernelRfl
namespace Go.Proofs.YthcpaohmajjopaaDoor
/- THE CELL 'sum', in the pinned program and in every row, IS THE sha256 OF THE DUMP (.gsa) THAT YthcpaohmajjopaaDoorProg.lean LOADS. Nothing in Lean hashes anything: it is a label: what it is worth is what the hold of that sum in a sandbox is worth. -/
noncomputable def Tryd.pinned : Pinned := { name := "ythcpaohmajjopaadoor", sum := "dda0e86c37378d8b507961c2e060fe6dbb89ed944da63b877d4534bbfadfc610", checked := Tryd.checked }
namespace Rows
def none {H : Type} : Left H := { results := [], args := [] }

/- WHAT THE LISTED PACKAGE-LEVEL VARIABLES READ AS WHEN THE CALL BEGINS. Each datum BY PROGRAM (the guide's laid-datum.mjs) off the statement by which the dump's own 'gosem.cut.vars' lays the variable. In a bare row this is a premise. The card (YthcpaohmajjopaaDoorCards.lean) ties it to the program's text. -/
def laid_harrow_instr_uses {H : Type} : DataW H := .agg [.lit (.int .i64 0), .lit (.int .i64 64), .lit (.int .i64 66), .lit (.int .i64 80), .lit (.int .i64 97), .lit (.int .i64 99), .lit (.int .i64 113), .lit (.int .i64 80), .lit (.int .i64 97), .lit (.int .i64 33), .lit (.int .i64 33), .lit (.int .i64 33), .lit (.int .i64 0), .lit (.int .i64 0), .lit (.int .i64 33), .lit (.int .i64 97), .lit (.int .i64 0), .lit (.int .i64 0), .lit (.int .i64 78), .lit (.int .i64 64), .lit (.int .i64 79)]
def laid_math_bits_deBruijn32tab {H : Type} : DataW H := .agg [.lit (.int .u8 0), .lit (.int .u8 1), .lit (.int .u8 28), .lit (.int .u8 2), .lit (.int .u8 29), .lit (.int .u8 14), .lit (.int .u8 24), .lit (.int .u8 3), .lit (.int .u8 30), .lit (.int .u8 22), .lit (.int .u8 20), .lit (.int .u8 15), .lit (.int .u8 25), .lit (.int .u8 17), .lit (.int .u8 4), .lit (.int .u8 8), .lit (.int .u8 31), .lit (.int .u8 27), .lit (.int .u8 13), .lit (.int .u8 23), .lit (.int .u8 21), .lit (.int .u8 19), .lit (.int .u8 16), .lit (.int .u8 7), .lit (.int .u8 26), .lit (.int .u8 12), .lit (.int .u8 18), .lit (.int .u8 6), .lit (.int .u8 11), .lit (.int .u8 5), .lit (.int .u8 10), .lit (.int .u8 9)]
def laid_math_bits_deBruijn64tab {H : Type} : DataW H := .agg [.lit (.int .u8 0), .lit (.int .u8 1), .lit (.int .u8 56), .lit (.int .u8 2), .lit (.int .u8 57), .lit (.int .u8 49), .lit (.int .u8 28), .lit (.int .u8 3), .lit (.int .u8 61), .lit (.int .u8 58), .lit (.int .u8 42), .lit (.int .u8 50), .lit (.int .u8 38), .lit (.int .u8 29), .lit (.int .u8 17), .lit (.int .u8 4), .lit (.int .u8 62), .lit (.int .u8 47), .lit (.int .u8 59), .lit (.int .u8 36), .lit (.int .u8 45), .lit (.int .u8 43), .lit (.int .u8 51), .lit (.int .u8 22), .lit (.int .u8 53), .lit (.int .u8 39), .lit (.int .u8 33), .lit (.int .u8 30), .lit (.int .u8 24), .lit (.int .u8 18), .lit (.int .u8 12), .lit (.int .u8 5), .lit (.int .u8 63), .lit (.int .u8 55), .lit (.int .u8 48), .lit (.int .u8 27), .lit (.int .u8 60), .lit (.int .u8 41), .lit (.int .u8 37), .lit (.int .u8 16), .lit (.int .u8 46), .lit (.int .u8 35), .lit (.int .u8 44), .lit (.int .u8 21), .lit (.int .u8 52), .lit (.int .u8 32), .lit (.int .u8 23), .lit (.int .u8 11), .lit (.int .u8 54), .lit (.int .u8 26), .lit (.int .u8 40), .lit (.int .u8 15), .lit (.int .u8 34), .lit (.int .u8 20), .lit (.int .u8 31), .lit (.int .u8 10), .lit (.int .u8 25), .lit (.int .u8 14), .lit (.int .u8 19), .lit (.int .u8 9), .lit (.int .u8 13), .lit (.int .u8 8), .lit (.int .u8 7), .lit (.int .u8 6)]
def laid_internal_strconv_uint64pow10 {H : Type} : DataW H := .agg [.lit (.int .u64 1), .lit (.int .u64 10), .lit (.int .u64 100), .lit (.int .u64 1000), .lit (.int .u64 10000), .lit (.int .u64 100000), .lit (.int .u64 1000000), .lit (.int .u64 10000000), .lit (.int .u64 100000000), .lit (.int .u64 1000000000), .lit (.int .u64 10000000000), .lit (.int .u64 100000000000), .lit (.int .u64 1000000000000), .lit (.int .u64 10000000000000), .lit (.int .u64 100000000000000), .lit (.int .u64 1000000000000000), .lit (.int .u64 10000000000000000), .lit (.int .u64 100000000000000000), .lit (.int .u64 1000000000000000000), .lit (.int .u64 10000000000000000000)]
def laid_harrow_instr_names {H : Type} : DataW H := .agg [.lit (.string []), .lit (.string [97, 110, 121]), .lit (.string [99, 104, 97, 114]), .lit (.string [115, 101, 116]), .lit (.string [116, 101, 115, 116, 97, 110, 121]), .lit (.string [116, 101, 115, 116, 99, 104, 97, 114]), .lit (.string [116, 101, 115, 116, 115, 101, 116]), .lit (.string [115, 112, 97, 110]), .lit (.string [99, 104, 111, 105, 99, 101]), .lit (.string [99, 111, 109, 109, 105, 116]), .lit (.string [112, 97, 114, 116, 105, 97, 108]), .lit (.string [98, 97, 99, 107]), .lit (.string [116, 119, 105, 99, 101]), .lit (.string [102, 97, 105, 108]), .lit (.string [106, 117, 109, 112]), .lit (.string [99, 97, 108, 108]), .lit (.string [114, 101, 116]), .lit (.string [101, 110, 100]), .lit (.string [111, 112, 101, 110]), .lit (.string [99, 108, 111, 115, 101]), .lit (.string [102, 117, 108, 108])]

/-- 'harrowlaw16.InstrSame': WHATEVER THE INPUT: true; the input reads as it did. -/
def instrSameSpec : ChangeSpec := { name := "instrSame", fn := fun _ => fun
  | [d1, d2] => { results := [.lit (.bool true)], args := [d1, d2] }
  | _ => none }
def instrSameRow : OpenClaim := { program := "ythcpaohmajjopaadoor", sum := "dda0e86c37378d8b507961c2e060fe6dbb89ed944da63b877d4534bbfadfc610", func := "harrow/harrowlaw16.InstrSame", spec := "instrSame", unfollowed := true, recurses := true, named := ["harrow/instr.uses"], apart := false, laid := [("harrow/instr.uses", laid_harrow_instr_uses)] }
def InstrSameSaid : Prop := instrSameRow.holds Tryd.pinned (OpenSpec.ofChange instrSameSpec)

/-- ITS FALSE NEIGHBOUR: 'it returns false'. Refute it at one input. -/
def instrSameWrong : ChangeSpec := { name := "instrSame", fn := fun _ => fun
  | [d1, d2] => { results := [.lit (.bool false)], args := [d1, d2] }
  | _ => none }
def InstrSameWrongFalsely : Prop := instrSameRow.holds Tryd.pinned (OpenSpec.ofChange instrSameWrong)

/-- 'harrowlaw16.InstrReads': WHATEVER THE INPUT: true; the input reads as it did. -/
def instrReadsSpec : ChangeSpec := { name := "instrReads", fn := fun _ => fun
  | [d] => { results := [.lit (.bool true)], args := [d] }
  | _ => none }
def instrReadsRow : OpenClaim := { program := "ythcpaohmajjopaadoor", sum := "dda0e86c37378d8b507961c2e060fe6dbb89ed944da63b877d4534bbfadfc610", func := "harrow/harrowlaw16.InstrReads", spec := "instrReads", unfollowed := true, recurses := true, named := ["harrow/instr.uses"], apart := false, laid := [("harrow/instr.uses", laid_harrow_instr_uses)] }
def InstrReadsSaid : Prop := instrReadsRow.holds Tryd.pinned (OpenSpec.ofChange instrReadsSpec)

/-- ITS FALSE NEIGHBOUR: 'it returns false'. Refute it at one input. -/
def instrReadsWrong : ChangeSpec := { name := "instrReads", fn := fun _ => fun
  | [d] => { results := [.lit (.bool false)], args := [d] }
  | _ => none }
def InstrReadsWrongFalsely : Prop := instrReadsRow.holds Tryd.pinned (OpenSpec.ofChange instrReadsWrong)

/-- 'harrowlaw16.InstrGoes': WHATEVER THE INPUT: true; the input reads as it did. -/
def instrGoesSpec : ChangeSpec := { name := "instrGoes", fn := fun _ => fun
  | [d1, d2] => { results := [.lit (.bool true)], args := [d1, d2] }
  | _ => none }
def instrGoesRow : OpenClaim := { program := "ythcpaohmajjopaadoor", sum := "dda0e86c37378d8b507961c2e060fe6dbb89ed944da63b877d4534bbfadfc610", func := "harrow/harrowlaw16.InstrGoes", spec := "instrGoes", unfollowed := true, recurses := true, named := ["harrow/instr.uses"], apart := false, laid := [("harrow/instr.uses", laid_harrow_instr_uses)] }
def InstrGoesSaid : Prop := instrGoesRow.holds Tryd.pinned (OpenSpec.ofChange instrGoesSpec)

/-- ITS FALSE NEIGHBOUR: 'it returns false'. Refute it at one input. -/
def instrGoesWrong : ChangeSpec := { name := "instrGoes", fn := fun _ => fun
  | [d1, d2] => { results := [.lit (.bool false)], args := [d1, d2] }
  | _ => none }
def InstrGoesWrongFalsely : Prop := instrGoesRow.holds Tryd.pinned (OpenSpec.ofChange instrGoesWrong)

/-- 'harrowlaw16.InstrClosed': WHATEVER THE INPUT: true; the input reads as it did. -/
def instrClosedSpec : ChangeSpec := { name := "instrClosed", fn := fun _ => fun
  | [d] => { results := [.lit (.bool true)], args := [d] }
  | _ => none }
def instrClosedRow : OpenClaim := { program := "ythcpaohmajjopaadoor", sum := "dda0e86c37378d8b507961c2e060fe6dbb89ed944da63b877d4534bbfadfc610", func := "harrow/harrowlaw16.InstrClosed", spec := "instrClosed", unfollowed := true, recurses := true, named := ["harrow/instr.uses"], apart := false, laid := [("harrow/instr.uses", laid_harrow_instr_uses)] }
def InstrClosedSaid : Prop := instrClosedRow.holds Tryd.pinned (OpenSpec.ofChange instrClosedSpec)

/-- ITS FALSE NEIGHBOUR: 'it returns false'. Refute it at one input. -/
def instrClosedWrong : ChangeSpec := { name := "instrClosed", fn := fun _ => fun
  | [d] => { results := [.lit (.bool false)], args := [d] }
  | _ => none }
def InstrClosedWrongFalsely : Prop := instrClosedRow.holds Tryd.pinned (OpenSpec.ofChange instrClosedWrong)

/-- 'harrowlaw16.InstrWrites': WHATEVER THE INPUT: true; the input reads as it did. -/
def instrWritesSpec : ChangeSpec := { name := "instrWrites", fn := fun _ => fun
  | [d] => { results := [.lit (.bool true)], args := [d] }
  | _ => none }
def instrWritesRow : OpenClaim := { program := "ythcpaohmajjopaadoor", sum := "dda0e86c37378d8b507961c2e060fe6dbb89ed944da63b877d4534bbfadfc610", func := "harrow/harrowlaw16.InstrWrites", spec := "instrWrites", inPlace := ["internal/abi.NoEscape"], unfollowed := true, recurses := true, named := ["harrow/instr.uses", "harrow/instr.names", "internal/strconv.uint64pow10", "math/bits.deBruijn32tab", "math/bits.deBruijn64tab"], apart := false, laid := [("math/bits.deBruijn32tab", laid_math_bits_deBruijn32tab), ("math/bits.deBruijn64tab", laid_math_bits_deBruijn64tab), ("internal/strconv.uint64pow10", laid_internal_strconv_uint64pow10), ("harrow/instr.names", laid_harrow_instr_names), ("harrow/instr.uses", laid_harrow_instr_uses)] }
def InstrWritesSaid : Prop := instrWritesRow.holds Tryd.pinned (OpenSpec.ofChange instrWritesSpec)

/-- ITS FALSE NEIGHBOUR: 'it returns false'. Refute it at one input. -/
def instrWritesWrong : ChangeSpec := { name := "instrWrites", fn := fun _ => fun
  | [d] => { results := [.lit (.bool false)], args := [d] }
  | _ => none }
def InstrWritesWrongFalsely : Prop := instrWritesRow.holds Tryd.pinned (OpenSpec.ofChange instrWritesWrong)

/-- 'harrowlaw16.InstrOwn': WHATEVER THE INPUT: true; the input reads as it did. -/
def instrOwnSpec : ChangeSpec := { name := "instrOwn", fn := fun _ => fun
  | [d1, d2] => { results := [.lit (.bool true)], args := [d1, d2] }
  | _ => none }
def instrOwnRow : OpenClaim := { program := "ythcpaohmajjopaadoor", sum := "dda0e86c37378d8b507961c2e060fe6dbb89ed944da63b877d4534bbfadfc610", func := "harrow/harrowlaw16.InstrOwn", spec := "instrOwn", unfollowed := true, recurses := true, named := ["harrow/instr.uses"], apart := false, laid := [("harrow/instr.uses", laid_harrow_instr_uses)] }
def InstrOwnSaid : Prop := instrOwnRow.holds Tryd.pinned (OpenSpec.ofChange instrOwnSpec)

/-- ITS FALSE NEIGHBOUR: 'it returns false'. Refute it at one input. -/
def instrOwnWrong : ChangeSpec := { name := "instrOwn", fn := fun _ => fun
  | [d1, d2] => { results := [.lit (.bool false)], args := [d1, d2] }
  | _ => none }
def InstrOwnWrongFalsely : Prop := instrOwnRow.holds Tryd.pinned (OpenSpec.ofChange instrOwnWrong)

/- THE SECOND FORM. 'bulk': how many values and letters a reading holds, each counted each time it is reached (what is shared counts as often as it is met; a slice's spare places count too). A statement '..UptoSaid' is the law's where the arguments, and the package variables that the reading takes, are together of bulk at most 1048576: NARROWER than '..Said'. Prove '..Said' where nothing that the law and all that it calls make is longer than what came in: it says more and counts as full. Else prove '..UptoSaid'. A law counts once. -/
mutual
def uptoBulk {H : Type} : DataW H → Nat
  | .lit (.string bytes) => bytes.length + 1
  | .lit _ => 1
  | .nil => 1
  | .ptr d => uptoBulk d + 1
  | .slice elems spare => uptoBulkAll elems + uptoBulkAll spare + 1
  | .agg parts => uptoBulkAll parts + 1
  | .iface _ d => uptoBulk d + 1
  | .map entries => uptoBulkEntries entries + 1
  | .held _ => 1
def uptoBulkAll {H : Type} : List (DataW H) → Nat
  | [] => 0
  | d :: r => uptoBulk d + uptoBulkAll r
def uptoBulkEntries {H : Type} : List (Lit × DataW H) → Nat
  | [] => 0
  | x :: r => uptoBulkEntry x + uptoBulkEntries r
def uptoBulkEntry {H : Type} : Lit × DataW H → Nat
  | (.string bytes, d) => bytes.length + uptoBulk d + 1
  | (_, d) => uptoBulk d + 1
 end
def uptoSmall : (H : Type) → List (DataW H) → Bool := fun _ ds => decide (uptoBulkAll ds ≤ 1048576)
def OpenSpec.upto (s : _root_.Go.ChangeSpec) : _root_.Go.OpenSpec := { _root_.Go.OpenSpec.ofChange s with cond := some uptoSmall }

/-- 'harrowlaw16.InstrSame', WHERE WHAT IT READS IS OF BULK AT MOST 1048576: true; the input reads as it did. -/
def instrSameUptoRow : OpenClaim := { program := "ythcpaohmajjopaadoor", sum := "dda0e86c37378d8b507961c2e060fe6dbb89ed944da63b877d4534bbfadfc610", func := "harrow/harrowlaw16.InstrSame", spec := "instrSame", unfollowed := true, recurses := true, named := ["harrow/instr.uses"], apart := false, laid := [("harrow/instr.uses", laid_harrow_instr_uses)], narrowed := true }
def InstrSameUptoSaid : Prop := instrSameUptoRow.holds Tryd.pinned (OpenSpec.upto instrSameSpec)

/-- 'harrowlaw16.InstrReads', WHERE WHAT IT READS IS OF BULK AT MOST 1048576: true; the input reads as it did. -/
def instrReadsUptoRow : OpenClaim := { program := "ythcpaohmajjopaadoor", sum := "dda0e86c37378d8b507961c2e060fe6dbb89ed944da63b877d4534bbfadfc610", func := "harrow/harrowlaw16.InstrReads", spec := "instrReads", unfollowed := true, recurses := true, named := ["harrow/instr.uses"], apart := false, laid := [("harrow/instr.uses", laid_harrow_instr_uses)], narrowed := true }
def InstrReadsUptoSaid : Prop := instrReadsUptoRow.holds Tryd.pinned (OpenSpec.upto instrReadsSpec)

/-- 'harrowlaw16.InstrGoes', WHERE WHAT IT READS IS OF BULK AT MOST 1048576: true; the input reads as it did. -/
def instrGoesUptoRow : OpenClaim := { program := "ythcpaohmajjopaadoor", sum := "dda0e86c37378d8b507961c2e060fe6dbb89ed944da63b877d4534bbfadfc610", func := "harrow/harrowlaw16.InstrGoes", spec := "instrGoes", unfollowed := true, recurses := true, named := ["harrow/instr.uses"], apart := false, laid := [("harrow/instr.uses", laid_harrow_instr_uses)], narrowed := true }
def InstrGoesUptoSaid : Prop := instrGoesUptoRow.holds Tryd.pinned (OpenSpec.upto instrGoesSpec)

/-- 'harrowlaw16.InstrClosed', WHERE WHAT IT READS IS OF BULK AT MOST 1048576: true; the input reads as it did. -/
def instrClosedUptoRow : OpenClaim := { program := "ythcpaohmajjopaadoor", sum := "dda0e86c37378d8b507961c2e060fe6dbb89ed944da63b877d4534bbfadfc610", func := "harrow/harrowlaw16.InstrClosed", spec := "instrClosed", unfollowed := true, recurses := true, named := ["harrow/instr.uses"], apart := false, laid := [("harrow/instr.uses", laid_harrow_instr_uses)], narrowed := true }
def InstrClosedUptoSaid : Prop := instrClosedUptoRow.holds Tryd.pinned (OpenSpec.upto instrClosedSpec)

/-- 'harrowlaw16.InstrWrites', WHERE WHAT IT READS IS OF BULK AT MOST 1048576: true; the input reads as it did. -/
def instrWritesUptoRow : OpenClaim := { program := "ythcpaohmajjopaadoor", sum := "dda0e86c37378d8b507961c2e060fe6dbb89ed944da63b877d4534bbfadfc610", func := "harrow/harrowlaw16.InstrWrites", spec := "instrWrites", inPlace := ["internal/abi.NoEscape"], unfollowed := true, recurses := true, named := ["harrow/instr.uses", "harrow/instr.names", "internal/strconv.uint64pow10", "math/bits.deBruijn32tab", "math/bits.deBruijn64tab"], apart := false, laid := [("math/bits.deBruijn32tab", laid_math_bits_deBruijn32tab), ("math/bits.deBruijn64tab", laid_math_bits_deBruijn64tab), ("internal/strconv.uint64pow10", laid_internal_strconv_uint64pow10), ("harrow/instr.names", laid_harrow_instr_names), ("harrow/instr.uses", laid_harrow_instr_uses)], narrowed := true }
def InstrWritesUptoSaid : Prop := instrWritesUptoRow.holds Tryd.pinned (OpenSpec.upto instrWritesSpec)

/-- 'harrowlaw16.InstrOwn', WHERE WHAT IT READS IS OF BULK AT MOST 1048576: true; the input reads as it did. -/
def instrOwnUptoRow : OpenClaim := { program := "ythcpaohmajjopaadoor", sum := "dda0e86c37378d8b507961c2e060fe6dbb89ed944da63b877d4534bbfadfc610", func := "harrow/harrowlaw16.InstrOwn", spec := "instrOwn", unfollowed := true, recurses := true, named := ["harrow/instr.uses"], apart := false, laid := [("harrow/instr.uses", laid_harrow_instr_uses)], narrowed := true }
def InstrOwnUptoSaid : Prop := instrOwnUptoRow.holds Tryd.pinned (OpenSpec.upto instrOwnSpec)

end Rows
end Go.Proofs.YthcpaohmajjopaaDoor
