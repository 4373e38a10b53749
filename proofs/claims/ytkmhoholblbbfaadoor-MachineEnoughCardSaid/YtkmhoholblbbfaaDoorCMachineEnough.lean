/- MachineEnough: enough stays enough: for every code, subject, place, limits and number the law answers true; no argument is changed. Conditions: those of the given row. -/
import Derived.Test.YtkmhoholblbbfaaDoorRows
import Derived.Test.YtkmhoholblbbfaaDoorCards
import Derived.Test.YtkmhoholblbbfaaDoorTie
import Derived.Test.YtkmhoholblbbfaaDoorAmLaid
import Derived.Test.YtkmhoholblbbfaaDoorAmOpen
import Derived.Test.YtkmhoholblbbfaaDoorM5
import Derived.WalkKit
import Derived.LaidMore
import Derived.Stop.Joined
import Derived.SevenTiedAt
import Derived.ProofKit
import Derived.OpenShut
import Derived.ShutString
import Derived.ChangeOld
import Derived.Below
import Derived.SizedLaws
namespace Go.Proofs.YtkmhoholblbbfaaDoor.machineEnough
open Go.ChangeShapes Go.WideShapes Go.ChangeAt Go.RowKit
open Go.ChangeMaps (open_string shut_string)
set_option linter.unusedVariables false
theorem laid : laidOutB Tryd.prog = true := by kernel_rfl
def shapes : List TypeId := [22, 43, 3, 9, 41, 35, 26, 24]
theorem shapes_ok : AM.okS Tryd.prog shapes = true := by kernel_rfl
theorem own : ownKnob Tryd.prog.godebug = none := by kernel_rfl
/-- The door's own heap meets the condition: three closed facts. -/
theorem door_met (os : Os) (args : Array Value) : laidMetH Tryd.prog Rows.machineEnoughRow.laid ((World.doorLaid Tryd.prog 400 os).forCall (fun _ _ => 0) ⟨#[], args, []⟩).memory :=
  laidMetH_of_parts3 (fuel := 8) (laidMet_of_run' 8 (by kernel_rfl) (by kernel_rfl)) (by kernel_rfl) (by kernel_rfl)
theorem of_laid {W : World} (h : laidMetH Tryd.prog Rows.machineEnoughRow.laid W) : AM.CxOK M.cxU AM.env0 W := by
  rw [MakeChecks.laidMetH_plain _ _ _ (by kernel_rfl)] at h
  obtain ⟨ps, ⟨g0, t0, cs0, f0, p0, q0, hg0, ht0, hv0, hd0, _, _⟩, _, _⟩ := h
  have e0 : (Tryd.prog.globals[0]?).map (·.type) = some 66 := by kernel_rfl
  obtain rfl := Option.some.inj ((show Tryd.prog.globalNamed "harrow/instr.uses" = some 0 by kernel_rfl).symm.trans hg0)
  obtain rfl := Option.some.inj (e0.symm.trans ht0)
  refine AM.cx_ok fun g cs hg => ?_
  have : g = 0 ∧ cs = M.usesL := by
    simp only [M.cxU] at hg
    split at hg
    · rename_i e; exact ⟨e, (Option.some.inj hg).symm⟩
    · cases hg
  obtain ⟨rfl, rfl⟩ := this
  exact M.uses_glob hv0 hd0 rfl
set_option maxRecDepth 100000 in
theorem lifted (os : Os) (started : os.Started) (H : Type) (enc : TypeId × Value → H) :
    ReturnsInHanded {} Tryd.checked os 3 .any (fun w args => (Rows.machineEnoughSpec.pre enc Tryd.prog Tryd.f3 Rows.machineEnoughRow.domain false w args ∧ laidMetH Tryd.prog Rows.machineEnoughRow.laid w) ∧ sizedMet enc Tryd.prog Tryd.f3 (OpenSpec.ofChange Rows.machineEnoughSpec) false w args) (Rows.machineEnoughSpec.post enc Tryd.prog Tryd.f3 false true false false) := by
  refine returnsInHanded_of_change_and (C := Tryd.checked) (X := fun w _ => laidMetH Tryd.prog Rows.machineEnoughRow.laid w) (fun _ _ _ hh h => h.of_heap hh) own started (by kernel_rfl) Tryd.func3
    (ChangeSpec.witness_shaped (enc := enc) (C := Tryd.checked) (os := os) (X := fun w _ => laidMetH Tryd.prog Rows.machineEnoughRow.laid w) false (World.doorLaid Tryd.prog 400 os) #[.slice none 0 0, .agg #[.string ByteArray.empty, .int .i64 0, .int .i64 0, .int .i64 0, .int .i64 0], .int .i64 0] 8 rfl (World.shaped_of_RefB (by kernel_rfl) (by kernel_rfl)) (by kernel_rfl) (by kernel_rfl) (by kernel_rfl) (door_met os _)) ?_
  intro W base args ds gs before hval0 hW hcnd hsz0 hL _
  have hsz : (DataW.weightsEach Tryd.prog (Tryd.f3.params.toList ++ Rows.machineEnoughSpec.plain.varTypes Tryd.prog) (ds ++ gs)).all (· ≤ reachBytes) = true := hsz0
  have hval : ∀ (j : Nat) t v, Tryd.f3.params[j]? = some t → args[j]? = some v → Value.okWide Tryd.prog W .any base t v := hval0
  have hW' := hW
  obtain ⟨p, q, hA0, hV, rfl, hfz, hnd⟩ := hW
  have hA : DataW.TrodAll enc Tryd.prog W 0 (fun _ => true) true Tryd.f3.params.toList args.toList ds p := hA0
  rw [Tryd.params3] at hA hval hsz
  obtain ⟨v0, vs0, d0, ds0, p0, q0, hargs, rfl, rfl, h0, r0⟩ := trodAll_cons hA
  obtain ⟨v1, vs1, d1, ds1, p1, q1, rfl, rfl, rfl, h1, r1⟩ := trodAll_cons r0
  obtain ⟨v2, vs2, d2, ds2, p2, q2, rfl, rfl, rfl, h2, r2⟩ := trodAll_cons r1
  obtain ⟨rfl, rfl, rfl⟩ := trodAll_nil r2
  obtain rfl : args = #[v0, v1, v2] := by cases args; simp_all
  obtain ⟨rfl, rfl⟩ := trodVars_none hV
  have k0 := h0
  obtain ⟨l0, t0, g0⟩ := AM.open_arg shapes_ok laid (t := 22) (by simp [shapes]) h0 (fun n hn => by
    have z := List.all_eq_true.1 hsz n (DataW.weights_mem_each (j := 0) rfl rfl n hn)
    simpa using z)
  have lt0 : ∀ x ∈ p0, x.block < W.heap.size := fun x hx => by have z := hW'.lt x (by simp [hx]); simpa using z
  have k1 := h1
  obtain ⟨l1, t1, g1⟩ := AM.open_arg shapes_ok laid (t := 26) (by simp [shapes]) h1 (fun n hn => by
    have z := List.all_eq_true.1 hsz n (DataW.weights_mem_each (j := 1) rfl rfl n hn)
    simpa using z)
  have lt1 : ∀ x ∈ p1, x.block < W.heap.size := fun x hx => by have z := hW'.lt x (by simp [hx]); simpa using z
  obtain ⟨a2, rfl, rfl, rfl, w2⟩ := open_int Tryd.underlying3 (hval 2 3 v2 rfl rfl) h2
  clear hA0 hval0 hsz0 hsz
  obtain ⟨c0, sp0, rfl, ok0, len0⟩ := M.code_of t0
  obtain ⟨tx, ta, tl0, tl1, tl2, rfl⟩ := M.try_of t1
  have x0 := AM.arg_one g0 (fun cs hc => by obtain ⟨a, l, c, e⟩ := okWide_slice Tryd.underlying22 (hval 0 22 v0 rfl rfl); rw [hc] at e; cases e)
  obtain ⟨cs1, rfl, _⟩ := okWide_struct Tryd.underlying26 (hval 1 26 v1 rfl rfl)
  have x1 := AM.arg_agg g1
  have b2 : -9223372036854775808 ≤ a2 ∧ a2 ≤ 9223372036854775807 := by have z := w2; simp only [Lit.wf, IntKind.min, IntKind.max, Bool.and_eq_true] at z; simp [IntKind.bits, IntKind.signed] at z; omega
  refine (AM.calls_of_R (M.r3 M.cxU_0 c0 sp0 tx ta tl0 tl1 tl2 a2) (of_laid hL) (.cons x0 (.cons x1 (.cons (.int _ _) .nil)))).mono fun e W' ⟨he, bel⟩ => ?_
  subst he
  exact ⟨_, rfl, _, _, _, [], _, [], hW', trodAll_mk1 (shut_bool Tryd.underlying4 _), (trodAll_cons_mk (Below.trod laid (by kernel_rfl) (of_decide_eq_true (by kernel_rfl)) k0 bel lt0) (trodAll_cons_mk (Below.trod laid (by kernel_rfl) (of_decide_eq_true (by kernel_rfl)) k1 bel lt1) (trodAll_cons_mk (shut_int Tryd.underlying3 w2) trodAll_mk0))), rfl, bel.frame _, fun h => by cases h⟩
theorem over : Rows.machineEnoughRow.holds Tryd.pinned (OpenSpec.ofChange Rows.machineEnoughSpec) :=
  OpenClaim.holds_of_wide 3 Tryd.f3 rfl rfl rfl rfl rfl rfl rfl ⟨rfl, rfl, rfl, rfl, rfl⟩ rfl rfl rfl rfl rfl (by kernel_rfl) Tryd.func3 (by kernel_rfl)
    (of_decide_eq_true (by kernel_rfl)) (by unfold Func.isWrapper; first | (rw [if_pos (by decide +kernel)]; kernel_rfl) | (rw [if_neg (by decide +kernel)]; exact ⟨rfl, rfl⟩))
    (fun os started H enc _ => lifted os started H enc)
theorem proved : Rows.MachineEnoughSaid := over
theorem card : Rows.MachineEnoughCardSaid :=
  Claim7.holds_tied_plain_at .later [] [.data] true (true, "2cea3ff9045e1d304be755a9797402abde7aa80e6d2264d095be5ba64919f9e5") false
    over (fun _ h => by cases h) (by kernel_rfl) (fun _ h => by cases h) machineEnough_row_tie rfl ⟨rfl, rfl⟩ (by kernel_rfl) rfl
    (fun f fn hf hfn => by
      obtain rfl : f = 3 := Option.some.inj ((show Tryd.prog.funcNamed "harrow/harrowlaw21.MachineEnough" = some 3 by kernel_rfl).symm.trans hf) |>.symm
      obtain rfl : fn = Tryd.f3 := (Option.some.inj (Tryd.func3.symm.trans hfn)).symm
      exact ⟨by kernel_rfl, fun j t ht => by
        rw [Tryd.params3] at ht
        have hm : t ∈ [22, 26, 3] := by simpa using Array.mem_of_getElem? ht
        have hall : ([22, 26, 3].all fun u => !Tryd.prog.wantsStandIn u) = true := by kernel_rfl
        exact (show Tryd.prog.wantsStandIn t = false by simpa using List.all_eq_true.1 hall t hm)⟩)
    (by kernel_rfl)
end Go.Proofs.YtkmhoholblbbfaaDoor.machineEnough
namespace Go.Proofs.YtkmhoholblbbfaaDoor
/-- The row, under a short name, for the claim. -/
theorem machineEnough_holds : Rows.MachineEnoughCardSaid := machineEnough.card
end Go.Proofs.YtkmhoholblbbfaaDoor
