/- QuotePlaces: where a place lies is told by its line and column, and back. -/
import Derived.Test.YtomlkmnklonbpaaRows
import Derived.Test.YtomlkmnklonbpaaAmBridge
import Derived.Test.YtomlkmnklonbpaaAmOpen
import Derived.Test.YtomlkmnklonbpaaQK
import Derived.WalkKit
import Derived.ProofKit
import Derived.OpenShut
import Derived.ShutString
import Derived.ChangeOld
import Derived.Below
import Derived.SizedLaws
namespace Go.Proofs.Ytomlkmnklonbpaa.quotePlaces
open Go.ChangeShapes Go.WideShapes Go.ChangeAt Go.RowKit
open Go.ChangeMaps (open_string shut_string)
set_option linter.unusedVariables false
theorem laid : laidOutB Try.prog = true := by kernel_rfl
def shapes : List TypeId := [39, 9, 3]
theorem shapes_ok : AM.okS Try.prog shapes = true := by kernel_rfl
theorem own : ownKnob Try.prog.godebug = none := by kernel_rfl
set_option maxRecDepth 100000 in
theorem lifted (os : Os) (started : os.Started) (H : Type) (enc : TypeId × Value → H) :
    ReturnsInHanded {} Try.checked os 9 .any (Rows.quotePlacesSpec.pre6 enc Try.prog Try.f9 Rows.quotePlacesRow.domain false) (Rows.quotePlacesSpec.post enc Try.prog Try.f9 false true false false) := by
  refine returnsInHanded_of_change_sized (C := Try.checked) own started (by kernel_rfl) Try.func9
    (ChangeSpec.witness6 (enc := enc) (C := Try.checked) false ⟨#[], #[.agg #[.string ByteArray.empty, .int .i64 0, .int .i64 0, .int .i64 0]], []⟩ 8 (by kernel_rfl) (by kernel_rfl) (by kernel_rfl) (by kernel_rfl)) ?_
  intro W base args ds gs before hval0 hW hcnd hsz0 _
  have hsz : (DataW.weightsEach Try.prog (Try.f9.params.toList ++ Rows.quotePlacesSpec.plain.varTypes Try.prog) (ds ++ gs)).all (· ≤ reachBytes) = true := hsz0
  have hval : ∀ (j : Nat) t v, Try.f9.params[j]? = some t → args[j]? = some v → Value.okWide Try.prog W .any base t v := hval0
  have hW' := hW
  obtain ⟨p, q, hA0, hV, rfl, hfz, hnd⟩ := hW
  have hA : DataW.TrodAll enc Try.prog W 0 (fun _ => true) true Try.f9.params.toList args.toList ds p := hA0
  rw [Try.params9] at hA hval hsz
  obtain ⟨v0, vs0, d0, ds0, p0, q0, hargs, rfl, rfl, h0, r0⟩ := trodAll_cons hA
  obtain ⟨rfl, rfl, rfl⟩ := trodAll_nil r0
  obtain rfl : args = #[v0] := by cases args; simp_all
  obtain ⟨rfl, rfl⟩ := trodVars_none hV
  have k0 := h0
  obtain ⟨l0, t0, g0⟩ := AM.open_arg shapes_ok laid (t := 39) (by simp [shapes]) h0 (fun n hn => by
    have z := List.all_eq_true.1 hsz n (DataW.weights_mem_each (j := 0) rfl rfl n hn)
    simpa using z)
  have lt0 : ∀ x ∈ p0, x.block < W.heap.size := fun x hx => by have z := hW'.lt x (by simp [hx]); simpa using z
  clear hA0 hval0 hsz0 hsz
  obtain ⟨lss, rfl, m0⟩ := t0.inv_struct Try.underlying39
  obtain ⟨e0, es0, rfl, m1, n1⟩ := AM.All2.cons_inv m0
  obtain ⟨e1, es1, rfl, m2, n2⟩ := AM.All2.cons_inv n1
  obtain ⟨e2, es2, rfl, m3, n3⟩ := AM.All2.cons_inv n2
  obtain ⟨e3, es3, rfl, m4, n4⟩ := AM.All2.cons_inv n3
  obtain rfl := AM.All2.nil_inv n4
  obtain ⟨s, rfl, _⟩ := m1.inv_str Try.underlying9
  obtain ⟨i, rfl, w1⟩ := m2.inv_int Try.underlying3
  obtain ⟨j, rfl, w2⟩ := m3.inv_int Try.underlying3
  obtain ⟨k, rfl, w3⟩ := m4.inv_int Try.underlying3
  obtain ⟨cs, rfl, _⟩ := okWide_struct Try.underlying39 (hval 0 39 v0 rfl rfl)
  have x0 := AM.arg_agg g0
  have b1 : -9223372036854775808 ≤ i ∧ i ≤ 9223372036854775807 := by have z := w1; simp only [Lit.wf, IntKind.min, IntKind.max, Bool.and_eq_true] at z; simp [IntKind.bits, IntKind.signed] at z; omega
  have b2 : -9223372036854775808 ≤ j ∧ j ≤ 9223372036854775807 := by have z := w2; simp only [Lit.wf, IntKind.min, IntKind.max, Bool.and_eq_true] at z; simp [IntKind.bits, IntKind.signed] at z; omega
  have b3 : -9223372036854775808 ≤ k ∧ k ≤ 9223372036854775807 := by have z := w3; simp only [Lit.wf, IntKind.min, IntKind.max, Bool.and_eq_true] at z; simp [IntKind.bits, IntKind.signed] at z; omega
  refine (AM.calls_of_R (Q.r9 s i j k b1.1 b1.2 b2.1 b2.2 b3.1 b3.2) (AM.cx0_ok _ _) (.cons x0 .nil)).mono fun e W' ⟨he, bel⟩ => ?_
  subst he
  exact ⟨_, rfl, _, _, _, [], _, [], hW', trodAll_mk1 (shut_bool Try.underlying4 _), (trodAll_cons_mk (Below.trod laid (by kernel_rfl) (of_decide_eq_true (by kernel_rfl)) k0 bel lt0) trodAll_mk0), rfl, bel.frame _, fun h => by cases h⟩
theorem over : Rows.quotePlacesRow.holds Try.pinned (OpenSpec.ofChange Rows.quotePlacesSpec) :=
  OpenClaim.holds_of_wide 9 Try.f9 rfl rfl rfl rfl rfl rfl rfl ⟨rfl, rfl, rfl, rfl, rfl⟩ rfl rfl rfl rfl rfl (by kernel_rfl) Try.func9 (by kernel_rfl)
    (of_decide_eq_true (by kernel_rfl)) (by unfold Func.isWrapper; first | (rw [if_pos (by decide +kernel)]; kernel_rfl) | (rw [if_neg (by decide +kernel)]; exact ⟨rfl, rfl⟩))
    (fun os started H enc _ => lifted os started H enc)
theorem proved : Rows.QuotePlacesSaid := over
end Go.Proofs.Ytomlkmnklonbpaa.quotePlaces
namespace Go.Proofs.Ytomlkmnklonbpaa
/-- The row, under a short name, for the claim. -/
theorem quotePlaces_holds : Rows.QuotePlacesSaid := quotePlaces.proved
end Go.Proofs.Ytomlkmnklonbpaa
