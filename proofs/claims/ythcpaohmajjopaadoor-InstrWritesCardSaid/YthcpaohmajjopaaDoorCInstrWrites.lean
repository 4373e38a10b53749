/- InstrWrites: the walk by the abstract machine; the contract is r7 -/
import Derived.Test.YthcpaohmajjopaaDoorRows
import Derived.Test.YthcpaohmajjopaaDoorCards
import Derived.Test.YthcpaohmajjopaaDoorTie
import Derived.Test.YthcpaohmajjopaaDoorAmLaid
import Derived.Test.YthcpaohmajjopaaDoorAmOpen
import Derived.Test.YthcpaohmajjopaaDoorW5
import Derived.Test.YthcpaohmajjopaaDoorW8
import Derived.WalkKit
import Derived.LaidMore
import Derived.Stop.Joined
import Derived.SevenTiedAt
import Derived.ProofKit
import Derived.OpenShut
import Derived.ShutString
import Derived.ChangeOld
import Derived.Below
import Derived.SizedLaws
namespace Go.Proofs.YthcpaohmajjopaaDoor.instrWrites
open Go.ChangeShapes Go.WideShapes Go.ChangeAt Go.RowKit
open Go.ChangeMaps (open_string shut_string)
set_option linter.unusedVariables false
theorem laid : laidOutB Tryd.prog = true := by kernel_rfl
def shapes : List TypeId := [22, 52, 3, 9, 50, 48]
theorem shapes_ok : AM.okS Tryd.prog shapes = true := by kernel_rfl
theorem own : ownKnob Tryd.prog.godebug = none := by kernel_rfl
/-- The door's own heap meets the condition: three closed facts. -/
theorem door_met (os : Os) (args : Array Value) : laidMetH Tryd.prog Rows.instrWritesRow.laid ((World.doorLaid Tryd.prog 400 os).forCall (fun _ _ => 0) ⟨#[], args, []⟩).memory :=
  laidMetH_of_parts3 (fuel := 8) (laidMet_of_run' 8 (by kernel_rfl) (by kernel_rfl)) (by kernel_rfl) (by kernel_rfl)
theorem of_laid {W : World} (h : laidMetH Tryd.prog Rows.instrWritesRow.laid W) : AM.CxOK I.cxW AM.env0 W := by
  rw [MakeChecks.laidMetH_plain _ _ _ (by kernel_rfl)] at h
  obtain ⟨ps, ⟨g4, t4, cs4, f4, p4, q4, hg4, ht4, hv4, hd4, ⟨g3, t3, cs3, f3, p3, q3, hg3, ht3, hv3, hd3, ⟨g2, t2, cs2, f2, p2, q2, hg2, ht2, hv2, hd2, ⟨g0, t0, cs0, f0, p0, q0, hg0, ht0, hv0, hd0, ⟨g1, t1, cs1, f1, p1, q1, hg1, ht1, hv1, hd1, _, _⟩, _⟩, _⟩, _⟩, _⟩, _, _⟩ := h
  have e0 : (Tryd.prog.globals[0]?).map (·.type) = some 88 := by kernel_rfl
  have e1 : (Tryd.prog.globals[1]?).map (·.type) = some 95 := by kernel_rfl
  have e2 : (Tryd.prog.globals[2]?).map (·.type) = some 153 := by kernel_rfl
  have e3 : (Tryd.prog.globals[3]?).map (·.type) = some 155 := by kernel_rfl
  obtain rfl := Option.some.inj ((show Tryd.prog.globalNamed "harrow/instr.names" = some 0 by kernel_rfl).symm.trans hg0)
  obtain rfl := Option.some.inj (e0.symm.trans ht0)
  obtain rfl := Option.some.inj ((show Tryd.prog.globalNamed "harrow/instr.uses" = some 1 by kernel_rfl).symm.trans hg1)
  obtain rfl := Option.some.inj (e1.symm.trans ht1)
  obtain rfl := Option.some.inj ((show Tryd.prog.globalNamed "internal/strconv.uint64pow10" = some 2 by kernel_rfl).symm.trans hg2)
  obtain rfl := Option.some.inj (e2.symm.trans ht2)
  obtain rfl := Option.some.inj ((show Tryd.prog.globalNamed "math/bits.deBruijn64tab" = some 3 by kernel_rfl).symm.trans hg3)
  obtain rfl := Option.some.inj (e3.symm.trans ht3)
  refine AM.cx_ok fun g cs hg => ?_
  simp only [I.cxW] at hg
  split at hg
  · rename_i e; subst e; obtain rfl := Option.some.inj hg; exact I.names_glob hv0 hd0 rfl
  split at hg
  · rename_i e; subst e; obtain rfl := Option.some.inj hg; exact I.uses_glob hv1 hd1 rfl
  split at hg
  · rename_i e; subst e; obtain rfl := Option.some.inj hg; exact I.pow_glob hv2 hd2 rfl
  split at hg
  · rename_i e; subst e; obtain rfl := Option.some.inj hg; exact I.deB_glob hv3 hd3 rfl
  · cases hg
set_option maxRecDepth 100000 in
theorem lifted (os : Os) (started : os.Started) (H : Type) (enc : TypeId × Value → H) :
    ReturnsInHanded {} Tryd.checked os 7 .any (fun w args => (Rows.instrWritesSpec.pre enc Tryd.prog Tryd.f7 Rows.instrWritesRow.domain false w args ∧ laidMetH Tryd.prog Rows.instrWritesRow.laid w) ∧ sizedMet enc Tryd.prog Tryd.f7 (OpenSpec.ofChange Rows.instrWritesSpec) false w args) (Rows.instrWritesSpec.post enc Tryd.prog Tryd.f7 false true false false) := by
  refine returnsInHanded_of_change_and (C := Tryd.checked) (X := fun w _ => laidMetH Tryd.prog Rows.instrWritesRow.laid w) (fun _ _ _ hh h => h.of_heap hh) own started (by kernel_rfl) Tryd.func7
    (ChangeSpec.witness_shaped (enc := enc) (C := Tryd.checked) (os := os) (X := fun w _ => laidMetH Tryd.prog Rows.instrWritesRow.laid w) false (World.doorLaid Tryd.prog 400 os) #[.slice none 0 0] 8 rfl (World.shaped_of_RefB (by kernel_rfl) (by kernel_rfl)) (by kernel_rfl) (by kernel_rfl) (by kernel_rfl) (door_met os _)) ?_
  intro W base args ds gs before hval0 hW hcnd hsz0 hL _
  have hsz : (DataW.weightsEach Tryd.prog (Tryd.f7.params.toList ++ Rows.instrWritesSpec.plain.varTypes Tryd.prog) (ds ++ gs)).all (· ≤ reachBytes) = true := hsz0
  have hval : ∀ (j : Nat) t v, Tryd.f7.params[j]? = some t → args[j]? = some v → Value.okWide Tryd.prog W .any base t v := hval0
  have hW' := hW
  obtain ⟨p, q, hA0, hV, rfl, hfz, hnd⟩ := hW
  have hA : DataW.TrodAll enc Tryd.prog W 0 (fun _ => true) true Tryd.f7.params.toList args.toList ds p := hA0
  rw [Tryd.params7] at hA hval hsz
  obtain ⟨v0, vs0, d0, ds0, p0, q0, hargs, rfl, rfl, h0, r0⟩ := trodAll_cons hA
  obtain ⟨rfl, rfl, rfl⟩ := trodAll_nil r0
  obtain rfl : args = #[v0] := by cases args; simp_all
  obtain ⟨rfl, rfl⟩ := trodVars_none hV
  have k0 := h0
  obtain ⟨l0, t0, g0⟩ := AM.open_arg shapes_ok laid (t := 22) (by simp [shapes]) h0 (fun n hn => by
    have z := List.all_eq_true.1 hsz n (DataW.weights_mem_each (j := 0) rfl rfl n hn)
    simpa using z)
  have lt0 : ∀ x ∈ p0, x.block < W.heap.size := fun x hx => by have z := hW'.lt x (by simp [hx]); simpa using z
  clear hA0 hval0 hsz0 hsz
  obtain ⟨c0, sp0, rfl, ok0, len0⟩ := I.code_of80 t0
  have x0 := AM.arg_one g0 (fun cs hc => by obtain ⟨a, l, c, e⟩ := okWide_slice Tryd.underlying22 (hval 0 22 v0 rfl rfl); rw [hc] at e; cases e)
  refine (AM.calls_of_R (I.r7 I.cxW_h c0 ok0 sp0 len0) (of_laid hL) (.cons x0 .nil)).mono fun e W' ⟨he, bel⟩ => ?_
  subst he
  exact ⟨_, rfl, _, _, _, [], _, [], hW', trodAll_mk1 (shut_bool Tryd.underlying4 _), (trodAll_cons_mk (Below.trod laid (by kernel_rfl) (of_decide_eq_true (by kernel_rfl)) k0 bel lt0) trodAll_mk0), rfl, bel.frame _, fun h => by cases h⟩
theorem over : Rows.instrWritesRow.holds Tryd.pinned (OpenSpec.ofChange Rows.instrWritesSpec) :=
  OpenClaim.holds_of_wide 7 Tryd.f7 rfl rfl rfl rfl rfl rfl rfl ⟨rfl, rfl, rfl, rfl, rfl⟩ rfl rfl rfl rfl rfl (by kernel_rfl) Tryd.func7 (by kernel_rfl)
    (of_decide_eq_true (by kernel_rfl)) (by unfold Func.isWrapper; first | (rw [if_pos (by decide +kernel)]; kernel_rfl) | (rw [if_neg (by decide +kernel)]; exact ⟨rfl, rfl⟩))
    (fun os started H enc _ => lifted os started H enc)
theorem proved : Rows.InstrWritesSaid := over
theorem card : Rows.InstrWritesCardSaid :=
  Claim7.holds_tied_plain_at .later [] [.data, .data, .data, .data, .data] true (true, "b722670a7c7d1072d490ce6028588ad365a4a2364a16235ef97c3437994122c7") false
    over (fun _ h => by cases h) (by kernel_rfl) (fun _ h => by cases h) instrWrites_row_tie rfl ⟨rfl, rfl⟩ (by kernel_rfl) rfl
    (fun f fn hf hfn => by
      obtain rfl : f = 7 := Option.some.inj ((show Tryd.prog.funcNamed "harrow/harrowlaw16.InstrWrites" = some 7 by kernel_rfl).symm.trans hf) |>.symm
      obtain rfl : fn = Tryd.f7 := (Option.some.inj (Tryd.func7.symm.trans hfn)).symm
      exact ⟨by kernel_rfl, fun j t ht => by
        rw [Tryd.params7] at ht
        have hm : t ∈ [22] := by simpa using Array.mem_of_getElem? ht
        have hall : ([22].all fun u => !Tryd.prog.wantsStandIn u) = true := by kernel_rfl
        exact (show Tryd.prog.wantsStandIn t = false by simpa using List.all_eq_true.1 hall t hm)⟩)
    (by kernel_rfl)
end Go.Proofs.YthcpaohmajjopaaDoor.instrWrites
namespace Go.Proofs.YthcpaohmajjopaaDoor
/-- The row, under a short name, for the claim. -/
theorem instrWrites_holds : Rows.InstrWritesCardSaid := instrWrites.card
end Go.Proofs.YthcpaohmajjopaaDoor
