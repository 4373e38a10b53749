/- InstrBack: what is written of code is read again, as bytes and as a listing; under the conditions of the given statement. -/
import Derived.Test.YthcpaohmajjopaaGreatDoorRows
import Derived.Test.YthcpaohmajjopaaGreatDoorCards
import Derived.Test.YthcpaohmajjopaaGreatDoorTie
import Derived.Test.YthcpaohmajjopaaGreatDoorAmLaid
import Derived.Test.YthcpaohmajjopaaGreatDoorAmOpen
import Derived.Test.YthcpaohmajjopaaGreatDoorZ1
import Derived.Test.YthcpaohmajjopaaGreatDoorZ7
import Derived.WalkKit
import Derived.LaidMore
import Derived.Stop.Joined
import Derived.SevenTiedAt
import Derived.ProofKit
import Derived.OpenShut
import Derived.ShutString
import Derived.ChangeOld
import Derived.Below
import Derived.SizedLaws
namespace Go.Proofs.YthcpaohmajjopaaGreatDoor.instrBack
open Go.ChangeShapes Go.WideShapes Go.ChangeAt Go.RowKit
open Go.ChangeMaps (open_string shut_string)
set_option linter.unusedVariables false
theorem laid : laidOutB Tryz.prog = true := by kernel_rfl
def shapes : List TypeId := [22, 42, 3, 9, 40, 38]
theorem shapes_ok : AM.okS Tryz.prog shapes = true := by kernel_rfl
theorem own : ownKnob Tryz.prog.godebug = none := by kernel_rfl
/-- The door's own heap meets the condition: three closed facts. -/
theorem door_met (os : Os) (args : Array Value) : laidMetH Tryz.prog Rows.instrBackRow.laid ((World.doorLaid Tryz.prog 400 os).forCall (fun _ _ => 0) ⟨#[], args, []⟩).memory :=
  laidMetH_of_parts3 (fuel := 8) (laidMet_of_run' 8 (by kernel_rfl) (by kernel_rfl)) (by kernel_rfl) (by kernel_rfl)
set_option maxRecDepth 100000 in
theorem of_laid {W : World} (h : laidMetH Tryz.prog Rows.instrBackRow.laid W) : ∃ o5 o6, AM.CxOK (I.cxY o5 o6) AM.env0 W := by
  rw [MakeChecks.laidMetH_plain _ _ _ (by kernel_rfl)] at h
  obtain ⟨o6, h6⟩ := I.err_of (laidMet.tail (laidMet.tail (laidMet.tail h))) (by kernel_rfl) (by kernel_rfl)
  obtain ⟨o5, h5⟩ := I.err_of (laidMet.tail (laidMet.tail (laidMet.tail (laidMet.tail h)))) (by kernel_rfl) (by kernel_rfl)
  obtain ⟨ps, ⟨_, _, _, _, _, _, _, _, _, _, ⟨g4, t4, cs4, f4, p4, q4, hg4, ht4, hv4, hd4, ⟨g3, t3, cs3, f3, p3, q3, hg3, ht3, hv3, hd3, ⟨_, _, _, _, _, _, _, _, _, _, ⟨_, _, _, _, _, _, _, _, _, _, ⟨g1, t1, cs1, f1, p1, q1, hg1, ht1, hv1, hd1, ⟨g0, t0, cs0, f0, p0, q0, hg0, ht0, hv0, hd0, _, _⟩, _⟩, _⟩, _⟩, _⟩, _⟩, _⟩, _, _⟩ := h
  have e0 : (Tryz.prog.globals[0]?).map (·.type) = some 70 := by kernel_rfl
  have e1 : (Tryz.prog.globals[1]?).map (·.type) = some 73 := by kernel_rfl
  have e3 : (Tryz.prog.globals[3]?).map (·.type) = some 149 := by kernel_rfl
  have e4 : (Tryz.prog.globals[4]?).map (·.type) = some 152 := by kernel_rfl
  obtain rfl := Option.some.inj ((show Tryz.prog.globalNamed "harrow/instr.uses" = some 0 by kernel_rfl).symm.trans hg0)
  obtain rfl := Option.some.inj (e0.symm.trans ht0)
  obtain rfl := Option.some.inj ((show Tryz.prog.globalNamed "harrow/instr.names" = some 1 by kernel_rfl).symm.trans hg1)
  obtain rfl := Option.some.inj (e1.symm.trans ht1)
  obtain rfl := Option.some.inj ((show Tryz.prog.globalNamed "internal/strconv.uint64pow10" = some 3 by kernel_rfl).symm.trans hg3)
  obtain rfl := Option.some.inj (e3.symm.trans ht3)
  obtain rfl := Option.some.inj ((show Tryz.prog.globalNamed "math/bits.deBruijn64tab" = some 4 by kernel_rfl).symm.trans hg4)
  obtain rfl := Option.some.inj (e4.symm.trans ht4)
  exact ⟨o5, o6, I.cxY_ok (I.uses_glob hv0 hd0 rfl) (I.names_glob hv1 hd1 rfl) (I.pow_glob hv3 hd3 rfl) (I.deB_glob hv4 hd4 rfl) h5 h6⟩
set_option maxRecDepth 100000 in
theorem lifted (os : Os) (started : os.Started) (H : Type) (enc : TypeId × Value → H) :
    ReturnsInHanded {} Tryz.checked os 3 .any (fun w args => (Rows.instrBackSpec.pre enc Tryz.prog Tryz.f3 Rows.instrBackRow.domain false w args ∧ laidMetH Tryz.prog Rows.instrBackRow.laid w) ∧ sizedMet enc Tryz.prog Tryz.f3 (OpenSpec.ofChange Rows.instrBackSpec) false w args) (Rows.instrBackSpec.post enc Tryz.prog Tryz.f3 false true false false) := by
  refine returnsInHanded_of_change_and (C := Tryz.checked) (X := fun w _ => laidMetH Tryz.prog Rows.instrBackRow.laid w) (fun _ _ _ hh h => h.of_heap hh) own started (by kernel_rfl) Tryz.func3
    (ChangeSpec.witness_shaped (enc := enc) (C := Tryz.checked) (os := os) (X := fun w _ => laidMetH Tryz.prog Rows.instrBackRow.laid w) false (World.doorLaid Tryz.prog 400 os) #[.slice none 0 0] 8 rfl (World.shaped_of_RefB (by kernel_rfl) (by kernel_rfl)) (by kernel_rfl) (by kernel_rfl) (by kernel_rfl) (door_met os _)) ?_
  intro W base args ds gs before hval0 hW hcnd hsz0 hL _
  have hsz : (DataW.weightsEach Tryz.prog (Tryz.f3.params.toList ++ Rows.instrBackSpec.plain.varTypes Tryz.prog) (ds ++ gs)).all (· ≤ reachBytes) = true := hsz0
  have hval : ∀ (j : Nat) t v, Tryz.f3.params[j]? = some t → args[j]? = some v → Value.okWide Tryz.prog W .any base t v := hval0
  have hW' := hW
  obtain ⟨p, q, hA0, hV, rfl, hfz, hnd⟩ := hW
  have hA : DataW.TrodAll enc Tryz.prog W 0 (fun _ => true) true Tryz.f3.params.toList args.toList ds p := hA0
  rw [Tryz.params3] at hA hval hsz
  obtain ⟨v0, vs0, d0, ds0, p0, q0, hargs, rfl, rfl, h0, r0⟩ := trodAll_cons hA
  obtain ⟨rfl, rfl, rfl⟩ := trodAll_nil r0
  obtain rfl : args = #[v0] := by cases args; simp_all
  obtain ⟨rfl, rfl⟩ := trodVars_none hV
  have k0 := h0
  obtain ⟨l0, t0, g0⟩ := AM.open_arg shapes_ok laid (t := 22) (by simp [shapes]) h0 (fun n hn => by
    have z := List.all_eq_true.1 hsz n (DataW.weights_mem_each (j := 0) rfl rfl n hn)
    simpa using z)
  have lt0 : ∀ x ∈ p0, x.block < W.heap.size := fun x hx => by have z := hW'.lt x (by simp [hx]); simpa using z
  clear hA0 hval0 hsz0 hsz
  obtain ⟨c0, sp0, rfl, ok0, len0⟩ := I.code_of t0
  have x0 := AM.arg_one g0 (fun cs hc => by obtain ⟨a, l, c, e⟩ := okWide_slice Tryz.underlying22 (hval 0 22 v0 rfl rfl); rw [hc] at e; cases e)
  refine (AM.calls_of_R (I.r3 (I.cxY_h _ _) c0 ok0 sp0) (of_laid hL).choose_spec.choose_spec (.cons x0 .nil)).mono fun e W' ⟨he, bel⟩ => ?_
  subst he
  exact ⟨_, rfl, _, _, _, [], _, [], hW', trodAll_mk1 (shut_bool Tryz.underlying4 _), (trodAll_cons_mk (Below.trod laid (by kernel_rfl) (of_decide_eq_true (by kernel_rfl)) k0 bel lt0) trodAll_mk0), rfl, bel.frame _, fun h => by cases h⟩
theorem over : Rows.instrBackRow.holds Tryz.pinned (OpenSpec.ofChange Rows.instrBackSpec) :=
  OpenClaim.holds_of_wide 3 Tryz.f3 rfl rfl rfl rfl rfl rfl rfl ⟨rfl, rfl, rfl, rfl, rfl⟩ rfl rfl rfl rfl rfl (by kernel_rfl) Tryz.func3 (by kernel_rfl)
    (of_decide_eq_true (by kernel_rfl)) (by unfold Func.isWrapper; first | (rw [if_pos (by decide +kernel)]; kernel_rfl) | (rw [if_neg (by decide +kernel)]; exact ⟨rfl, rfl⟩))
    (fun os started H enc _ => lifted os started H enc)
theorem proved : Rows.InstrBackSaid := over
theorem card : Rows.InstrBackCardSaid :=
  Claim7.holds_tied_plain_at .later [] [.data, .data, .data, .sentinel, .sentinel, .data, .data] true (true, "70efafd4c1f81feddc64624e4a5e09665792192b8593d27c3d68c3b79a596b8d") true
    over (fun _ h => by cases h) (by kernel_rfl) (fun _ h => by cases h) instrBack_row_tie rfl ⟨rfl, rfl⟩ (by kernel_rfl) rfl
    (fun f fn hf hfn => by
      obtain rfl : f = 3 := Option.some.inj ((show Tryz.prog.funcNamed "harrow/harrowlaw16.InstrBack" = some 3 by kernel_rfl).symm.trans hf) |>.symm
      obtain rfl : fn = Tryz.f3 := (Option.some.inj (Tryz.func3.symm.trans hfn)).symm
      exact ⟨by kernel_rfl, fun j t ht => by
        rw [Tryz.params3] at ht
        have hm : t ∈ [22] := by simpa using Array.mem_of_getElem? ht
        have hall : ([22].all fun u => !Tryz.prog.wantsStandIn u) = true := by kernel_rfl
        exact (show Tryz.prog.wantsStandIn t = false by simpa using List.all_eq_true.1 hall t hm)⟩)
    (by kernel_rfl)
end Go.Proofs.YthcpaohmajjopaaGreatDoor.instrBack
namespace Go.Proofs.YthcpaohmajjopaaGreatDoor
/-- The row, under a short name, for the claim. -/
theorem instrBack_holds : Rows.InstrBackCardSaid := instrBack.card
end Go.Proofs.YthcpaohmajjopaaGreatDoor
