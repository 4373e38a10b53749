/- Contracts, part W4. -/
import Derived.Test.YthcpaohmajjopaaDoorW3
set_option linter.unusedVariables false
set_option linter.unusedSimpArgs false
namespace Go.Proofs.YthcpaohmajjopaaDoor.I
open Go Go.Proofs.YthcpaohmajjopaaDoor.AM
variable {X : Cx}
theorem pat' {k : Nat} (hk : 1 ≤ k ∧ k ≤ 20) : ∃ p ∈ [(false, false, false, false, false), (false, false, true, false, false), (false, false, false, false, true), (true, false, false, false, false), (true, false, true, false, false), (true, false, false, false, true), (false, false, false, true, false), (false, true, false, true, false)],
    refB (refF k) 1 = p.1 ∧ refB (refF k) 2 = p.2.1 ∧ refB (refF k) 4 = p.2.2.1 ∧ refB (refF k) 8 = p.2.2.2.1 ∧ refB (refF k) 16 = p.2.2.2.2 := by
  have h : ∀ i : Fin 21, (refB (refF i.val) 1, refB (refF i.val) 2, refB (refF i.val) 4, refB (refF i.val) 8, refB (refF i.val) 16) ∈ [(false, false, false, false, false), (false, false, true, false, false), (false, false, false, false, true), (true, false, false, false, false), (true, false, true, false, false), (true, false, false, false, true), (false, false, false, true, false), (false, true, false, true, false)] := by decide +kernel
  exact ⟨_, h ⟨k, by omega⟩, rfl, rfl, rfl, rfl, rfl⟩

end Go.Proofs.YthcpaohmajjopaaDoor.I
set_option linter.unusedVariables false
set_option linter.unusedSimpArgs false
namespace Go.Proofs.YthcpaohmajjopaaDoor.I
open Go Go.Proofs.YthcpaohmajjopaaDoor.AM
theorem wrap_u64 {n : Nat} (h : n < 2 ^ 64) : IntKind.u64.wrap (n : Int) = n := by
  simp only [IntKind.wrap, IntKind.bits, IntKind.signed]; simp; omega
/-! the 256 members: bytes on the one side, bits on the other -/
def W (B : Nat → Nat) (q : Nat) : Nat → Nat
  | 0 => 0
  | i + 1 => W B q i + B (8 * q + i) * 2 ^ (8 * i)
end Go.Proofs.YthcpaohmajjopaaDoor.I
