/-
  NARROWER THAN 'FOR EVERY INPUT', by the rows' own cells (each row's printed sentence says how): MachineEnough: laid.
  DERIVED. THE GIVEN ROWS OF THIS SEAT. 1 by the template 'for every input the law returns true; each argument reads behind the call as it read before'; 0 by the template 'total and deterministic' (their statements: YtkmhoholblbbfaaDoorTotals.lean).
  GIVEN WITH THE SEED: the statements are not yours to turn. If you find one false, say at which input.
  Laid BY PROGRAM, IN A SANDBOX (cutbox-rows.mjs): the forced cells as the released guide's own fill.sh prints them over the translation 2b4f5f0748e9f414… (all of the seat's roots in one cut). By AI agents, Wed Nov 11 2026. No macro, syntax, notation, axiom, sorry.
-/
import Derived.Test.YtkmhoholblbbfaaDoorChecked
import GoSem.Claim
import GoSem.ClaimJoined
import GoSem.ClaimMapViews
import Derived.JoinedTies
import Derived.KernelRfl
namespace Go.Proofs.YtkmhoholblbbfaaDoor
/- THE CELL 'sum', in the pinned program and in every row, IS THE sha256 OF THE DUMP (.gsa) THAT YtkmhoholblbbfaaDoorProg.lean LOADS. Nothing in Lean hashes anything: it is a label: what it is worth is what the hold of that sum in a sandbox is worth. -/
noncomputable def Tryd.pinned : Pinned := { name := "ytkmhoholblbbfaadoor", sum := "2b4f5f0748e9f414fb7441890add2e1863e9771b5083c56f7d09d7a4d940600c", checked := Tryd.checked }
namespace Rows
def none {H : Type} : Left H := { results := [], args := [] }

/- WHAT THE LISTED PACKAGE-LEVEL VARIABLES READ AS WHEN THE CALL BEGINS. Each datum BY PROGRAM (the guide's laid-datum.mjs) off the statement by which the dump's own 'gosem.cut.vars' lays the variable. In a bare row this is a premise. The card (YtkmhoholblbbfaaDoorCards.lean) ties it to the program's text. -/
def laid_harrow_instr_uses {H : Type} : DataW H := .agg [.lit (.int .i64 0), .lit (.int .i64 64), .lit (.int .i64 66), .lit (.int .i64 80), .lit (.int .i64 97), .lit (.int .i64 99), .lit (.int .i64 113), .lit (.int .i64 80), .lit (.int .i64 97), .lit (.int .i64 33), .lit (.int .i64 33), .lit (.int .i64 33), .lit (.int .i64 0), .lit (.int .i64 0), .lit (.int .i64 33), .lit (.int .i64 97), .lit (.int .i64 0), .lit (.int .i64 0), .lit (.int .i64 78), .lit (.int .i64 64), .lit (.int .i64 79)]

/-- 'harrowlaw21.MachineEnough': WHATEVER THE INPUT: true; the input reads as it did. -/
def machineEnoughSpec : ChangeSpec := { name := "machineEnough", fn := fun _ => fun
  | [d1, d2, d3] => { results := [.lit (.bool true)], args := [d1, d2, d3] }
  | _ => none }
def machineEnoughRow : OpenClaim := { program := "ytkmhoholblbbfaadoor", sum := "2b4f5f0748e9f414fb7441890add2e1863e9771b5083c56f7d09d7a4d940600c", func := "harrow/harrowlaw21.MachineEnough", spec := "machineEnough", unfollowed := true, recurses := true, named := ["harrow/instr.uses"], apart := false, laid := [("harrow/instr.uses", laid_harrow_instr_uses)] }
def MachineEnoughSaid : Prop := machineEnoughRow.holds Tryd.pinned (OpenSpec.ofChange machineEnoughSpec)

/-- ITS FALSE NEIGHBOUR: 'it returns false'. Refute it at one input. -/
def machineEnoughWrong : ChangeSpec := { name := "machineEnough", fn := fun _ => fun
  | [d1, d2, d3] => { results := [.lit (.bool false)], args := [d1, d2, d3] }
  | _ => none }
def MachineEnoughWrongFalsely : Prop := machineEnoughRow.holds Tryd.pinned (OpenSpec.ofChange machineEnoughWrong)

/- THE SECOND FORM. 'bulk': how many values and letters a reading holds, each counted each time it is reached (what is shared counts as often as it is met; a slice's spare places count too). A statement '..UptoSaid' is the law's where the arguments, and the package variables that the reading takes, are together of bulk at most 1048576: NARROWER than '..Said'. Prove '..Said' where nothing that the law and all that it calls make is longer than what came in: it says more and counts as full. Else prove '..UptoSaid'. A law counts once. -/
mutual
def uptoBulk {H : Type} : DataW H → Nat
  | .lit (.string bytes) => bytes.length + 1
  | .lit _ => 1
  | .nil => 1
  | .ptr d => uptoBulk d + 1
  | .slice elems spare => uptoBulkAll elems + uptoBulkAll spare + 1
  | .agg parts => uptoBulkAll parts + 1
  | .iface _ d => uptoBulk d + 1
  | .map entries => uptoBulkEntries entries + 1
  | .held _ => 1
def uptoBulkAll {H : Type} : List (DataW H) → Nat
  | [] => 0
  | d :: r => uptoBulk d + uptoBulkAll r
def uptoBulkEntries {H : Type} : List (Lit × DataW H) → Nat
  | [] => 0
  | x :: r => uptoBulkEntry x + uptoBulkEntries r
def uptoBulkEntry {H : Type} : Lit × DataW H → Nat
  | (.string bytes, d) => bytes.length + uptoBulk d + 1
  | (_, d) => uptoBulk d + 1
 end
def uptoSmall : (H : Type) → List (DataW H) → Bool := fun _ ds => decide (uptoBulkAll ds ≤ 1048576)
def OpenSpec.upto (s : _root_.Go.ChangeSpec) : _root_.Go.OpenSpec := { _root_.Go.OpenSpec.ofChange s with cond := some uptoSmall }

/-- 'harrowlaw21.MachineEnough', WHERE WHAT IT READS IS OF BULK AT MOST 1048576: true; the input reads as it did. -/
def machineEnoughUptoRow : OpenClaim := { program := "ytkmhoholblbbfaadoor", sum := "2b4f5f0748e9f414fb7441890add2e1863e9771b5083c56f7d09d7a4d940600c", func := "harrow/harrowlaw21.MachineEnough", spec := "machineEnough", unfollowed := true, recurses := true, named := ["harrow/instr.uses"], apart := false, laid := [("harrow/instr.uses", laid_harrow_instr_uses)], narrowed := true }
def MachineEnoughUptoSaid : Prop := machineEnoughUptoRow.holds Tryd.pinned (OpenSpec.upto machineEnoughSpec)

end Rows
end Go.Proofs.YtkmhoholblbbfaaDoor
