/- Contracts, part W6. -/
import Derived.Test.YthcpaohmajjopaaDoorW4
import Derived.Test.YthcpaohmajjopaaDoorW5
set_option linter.unusedVariables false
set_option linter.unusedSimpArgs false
namespace Go.Proofs.YthcpaohmajjopaaDoor.I
open Go Go.Proofs.YthcpaohmajjopaaDoor.AM
end Go.Proofs.YthcpaohmajjopaaDoor.I
set_option linter.unusedVariables false
set_option linter.unusedSimpArgs false
namespace Go.Proofs.YthcpaohmajjopaaDoor.I
open Go Go.Proofs.YthcpaohmajjopaaDoor.AM
variable {X : Cx}
theorem flags_tab : ∀ k : Fin 21, 1 ≤ k.val → hasB k.val 1 = (refB (refF k.val) 1 || refB (refF k.val) 2) ∧ hasB k.val 2 = (refB (refF k.val) 4 || refB (refF k.val) 8) ∧ hasB k.val 4 = refB (refF k.val) 8 ∧ hasB k.val 8 = refB (refF k.val) 8 ∧ hasB k.val 16 = refB (refF k.val) 16 ∧ (refB (refF k.val) 4 = true → refB (refF k.val) 8 = false) := by decide +kernel
end Go.Proofs.YthcpaohmajjopaaDoor.I
set_option linter.unusedVariables false
set_option linter.unusedSimpArgs false
namespace Go.Proofs.YthcpaohmajjopaaDoor.I
open Go Go.Proofs.YthcpaohmajjopaaDoor.AM
/-! what is written is read back -/
def At (b : ByteArray) (p : Nat) (l : List UInt8) : Prop := ∃ post, b.data.toList.drop p = l ++ post
theorem At.app {b : ByteArray} {p : Nat} {l1 l2 : List UInt8} (h : At b p (l1 ++ l2)) : At b p l1 ∧ At b (p + l1.length) l2 := by
  obtain ⟨post, h⟩ := h
  refine ⟨⟨l2 ++ post, by rw [h, List.append_assoc]⟩, ⟨post, ?_⟩⟩
  rw [← List.drop_drop, h, List.append_assoc, List.drop_left' rfl]
theorem At.ext {b : ByteArray} {p : Nat} {l : List UInt8} (h : At b p l) : (b.extract p (p + l.length)).data.toList = l := by
  obtain ⟨post, h⟩ := h
  rw [ba_ext, List.drop_take, h, show p + l.length - p = l.length by omega, List.take_left' rfl]
end Go.Proofs.YthcpaohmajjopaaDoor.I
set_option linter.unusedVariables false
set_option linter.unusedSimpArgs false
namespace Go.Proofs.YthcpaohmajjopaaDoor.I
open Go Go.Proofs.YthcpaohmajjopaaDoor.AM
end Go.Proofs.YthcpaohmajjopaaDoor.I
